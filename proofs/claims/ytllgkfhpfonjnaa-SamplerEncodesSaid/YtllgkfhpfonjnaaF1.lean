/- Plain functions for the functions of the seat, printed by a program of this claim's own, with their proofs. -/
import Derived.Test.YtllgkfhpfonjnaaB
set_option linter.unusedVariables false
set_option linter.unusedSimpArgs false
set_option maxRecDepth 100000
namespace Go.Abs.K
open Go Go.Abs Go.Proofs
/-! ### signalbench/signalbenchlaw15.clock -/
def w_law15_clock (b : Clock) : List (RV C) := [(dS of_Clock cells_Clock of_Clock_ok).e b]
noncomputable def b_law15_clock {R : Type} (m : Nat) (ret : Clock → Option R) : Option R :=
 ret (Clock.mk 4 1)
theorem law15_clock_pre (m : Nat) : funK Try.prog Ψ0 keep m 1 27 [] = b_law15_clock m (fun x0 => some (w_law15_clock x0)) := by kernel_rfl
theorem b_law15_clock_map (m : Nat) : b_law15_clock m (fun x0 => some (w_law15_clock x0)) = (b_law15_clock m (fun x0 => some x0)).map w_law15_clock := by
  simp only [b_law15_clock, cond_map, bind_map, map_none, map_some]
noncomputable def law15_clock (m : Nat) : Option (Clock) := b_law15_clock m (fun x0 => some x0)
theorem law15_clock_fun (m : Nat) : funK Try.prog Ψ0 keep m 1 27 [] = (law15_clock m).map w_law15_clock := by
  rw [law15_clock_pre]
  exact b_law15_clock_map m
noncomputable def K_law15_clock (m : Nat) : KnownF C := mkK dNil (fun a => law15_clock m) w_law15_clock
theorem K_law15_clock_ok (m : Nat) : KnownAt C Try.prog 27 fun l => (K_law15_clock m).run _ l some :=
  mkK_known good fit Ψ0_ok (keep := keep) (m := m) (d := 1) fun a => law15_clock_fun m
/-! ### signalbench/ratio.size -/
def w_ratio_size (b : Int) : List (RV C) := [(dInt .u64).e b]
noncomputable def b_ratio_size {R : Type} (m : Nat) (ret : Int → Option R) (n_0 : Int) : Option R :=
 bif decide (n_0 < 0) then
 ret (IntKind.u64.wrap (IntKind.u64.wrap (IntKind.i64.wrap (0 - IntKind.i64.wrap (n_0 + 1))) + 1))
 else
 ret (IntKind.u64.wrap n_0)
theorem ratio_size_pre (m : Nat) (n_0 : Int) : funK Try.prog Ψ0 keep m 1 52 [(dInt .i64).e n_0] = b_ratio_size m (fun x0 => some (w_ratio_size x0)) n_0 := by kernel_rfl
theorem b_ratio_size_map (m : Nat) (n_0 : Int) : b_ratio_size m (fun x0 => some (w_ratio_size x0)) n_0 = (b_ratio_size m (fun x0 => some x0) n_0).map w_ratio_size := by
  simp only [b_ratio_size, cond_map, bind_map, map_none, map_some]
noncomputable def ratio_size (m : Nat) (n_0 : Int) : Option (Int) := b_ratio_size m (fun x0 => some x0) n_0
theorem ratio_size_fun (m : Nat) (n_0 : Int) : funK Try.prog Ψ0 keep m 1 52 [(dInt .i64).e n_0] = (ratio_size m n_0).map w_ratio_size := by
  rw [ratio_size_pre]
  exact b_ratio_size_map m n_0
noncomputable def K_ratio_size (m : Nat) : KnownF C := mkK (dCons (dInt .i64) dNil) (fun a => ratio_size m a.1) w_ratio_size
theorem K_ratio_size_ok (m : Nat) : KnownAt C Try.prog 52 fun l => (K_ratio_size m).run _ l some :=
  mkK_known good fit Ψ0_ok (keep := keep) (m := m) (d := 1) fun a => ratio_size_fun m a.1
/-! ### signalbench/ratio.common -/
def w_ratio_common (b : Int) : List (RV C) := [(dInt .u64).e b]
noncomputable def Q_ratio_common_1 (m : Nat) : St C → (Exit → St C → Option (List (RV C))) → Option (List (RV C)) := fun σ k => codeK Try.prog Ψ0 (callK Try.prog Ψ0 keep m 0) (keep 51) m (subC body51 [.r, .l, .b, .o]) σ k
noncomputable def KL_ratio_common_1 (m : Nat) : Exit → St C → Option (List (RV C)) := contK Try.prog Ψ0 (callK Try.prog Ψ0 keep m 0) (keep 51) m body51 [.r, .l, .b, .o] (leaveK Try.prog Try.f51.results.toList (finK Try.prog Try.f51.resultTypes.toList))
noncomputable def L_ratio_common_l1 (m n : Nat) (a_0 : Int) (b_1 : Int) : Option (List (RV C)) := iterK (Q_ratio_common_1 m) (St.norm (keep 51 1)) n ({ T := [.fl (.one (.int .u64 a_0)), .fl (.one (.int .u64 b_1))] ++ List.replicate 10 .dead, F := [[]], H := [] } : St C) (KL_ratio_common_1 m)
noncomputable def b_ratio_common_l1 {R : Type} (m : Nat) (ret : Int → Option R) (k_l1 : Int → Int → Option R) (a_0 : Int) (b_1 : Int) : Option R :=
 bif b_1 != 0 then
 bif decide (b_1 = 0) then
 none
 else
 k_l1 b_1 (a_0.tmod b_1)
 else
 ret a_0
theorem L_ratio_common_l1_step (m n : Nat) (a_0 : Int) (b_1 : Int) : L_ratio_common_l1 m (n + 1) a_0 b_1 = b_ratio_common_l1 m (fun x0 => some (w_ratio_common x0)) (fun a_0 b_1 => L_ratio_common_l1 m n a_0 b_1) a_0 b_1 := by kernel_rfl
theorem b_ratio_common_l1_map (m : Nat) {k_l1 : Int → Int → Option (List (RV C))} {q_l1 : Int → Int → Option (Int)} (h_l1 : ∀ a_0 b_1, k_l1 a_0 b_1 = (q_l1 a_0 b_1).map w_ratio_common) (a_0 : Int) (b_1 : Int) : b_ratio_common_l1 m (fun x0 => some (w_ratio_common x0)) k_l1 a_0 b_1 = (b_ratio_common_l1 m (fun x0 => some x0) q_l1 a_0 b_1).map w_ratio_common := by
  simp only [b_ratio_common_l1, cond_map, bind_map, map_none, map_some, h_l1]
noncomputable def ratio_common_l1 (m : Nat) : Nat → Int → Int → Option (Int)
  | 0, _, _ => none
  | n + 1, a_0, b_1 => b_ratio_common_l1 m (fun x0 => some x0) (fun a_0 b_1 => ratio_common_l1 m n a_0 b_1) a_0 b_1
theorem L_ratio_common_l1_eq (m : Nat) : ∀ (n : Nat) (a_0 : Int) (b_1 : Int), L_ratio_common_l1 m n a_0 b_1 = (ratio_common_l1 m n a_0 b_1).map w_ratio_common
  | 0, a_0, b_1 => by kernel_rfl
  | n + 1, a_0, b_1 => by
    rw [L_ratio_common_l1_step]
    exact b_ratio_common_l1_map m (fun a_0 b_1 => L_ratio_common_l1_eq m n a_0 b_1) a_0 b_1
noncomputable def b_ratio_common {R : Type} (m : Nat) (ret : Int → Option R) (k_l1 : Int → Int → Option R) (a_0 : Int) (b_1 : Int) : Option R :=
 k_l1 a_0 b_1
theorem ratio_common_pre (m : Nat) (a_0 : Int) (b_1 : Int) : funK Try.prog Ψ0 keep m 1 51 [(dInt .u64).e a_0, (dInt .u64).e b_1] = b_ratio_common m (fun x0 => some (w_ratio_common x0)) (fun a_0 b_1 => L_ratio_common_l1 m m a_0 b_1) a_0 b_1 := by kernel_rfl
theorem b_ratio_common_map (m : Nat) {k_l1 : Int → Int → Option (List (RV C))} {q_l1 : Int → Int → Option (Int)} (h_l1 : ∀ a_0 b_1, k_l1 a_0 b_1 = (q_l1 a_0 b_1).map w_ratio_common) (a_0 : Int) (b_1 : Int) : b_ratio_common m (fun x0 => some (w_ratio_common x0)) k_l1 a_0 b_1 = (b_ratio_common m (fun x0 => some x0) q_l1 a_0 b_1).map w_ratio_common := by
  simp only [b_ratio_common, cond_map, bind_map, map_none, map_some, h_l1]
noncomputable def ratio_common (m : Nat) (a_0 : Int) (b_1 : Int) : Option (Int) := b_ratio_common m (fun x0 => some x0) (fun a_0 b_1 => ratio_common_l1 m m a_0 b_1) a_0 b_1
theorem ratio_common_fun (m : Nat) (a_0 : Int) (b_1 : Int) : funK Try.prog Ψ0 keep m 1 51 [(dInt .u64).e a_0, (dInt .u64).e b_1] = (ratio_common m a_0 b_1).map w_ratio_common := by
  rw [ratio_common_pre]
  exact b_ratio_common_map m (fun a_0 b_1 => L_ratio_common_l1_eq m m a_0 b_1) a_0 b_1
noncomputable def K_ratio_common (m : Nat) : KnownF C := mkK (dCons (dInt .u64) (dCons (dInt .u64) dNil)) (fun a => ratio_common m a.1 a.2.1) w_ratio_common
theorem K_ratio_common_ok (m : Nat) : KnownAt C Try.prog 51 fun l => (K_ratio_common m).run _ l some :=
  mkK_known good fit Ψ0_ok (keep := keep) (m := m) (d := 1) fun a => ratio_common_fun m a.1 a.2.1
/-! ### signalbench/ratio.Valid -/
noncomputable def Ψ_ratio_Valid (m : Nat) : Known C := fun f => match f with
  | 52 => some (K_ratio_size m)
  | 51 => some (K_ratio_common m)
  | _ => none
theorem Ψ_ratio_Valid_ok (m : Nat) : KnownOk C Try.prog (Ψ_ratio_Valid m) := by
  intro f φ h
  unfold Ψ_ratio_Valid at h
  split at h
  · injection h with h; subst h; exact K_ratio_size_ok m
  · injection h with h; subst h; exact K_ratio_common_ok m
  · cases h
def w_ratio_Valid (b : Bool) : List (RV C) := [dBool.e b]
noncomputable def b_ratio_Valid {R : Type} (m : Nat) (ret : Bool → Option R) (r_0 : Ratio) : Option R :=
 bif decide (r_0.Den < 1) then
 ret false
 else
 bif decide (r_0.Den > 1073741824) then
 ret false
 else
 bif decide (r_0.Num < -1073741824) then
 ret false
 else
 bif decide (r_0.Num > 1073741824) then
 ret false
 else
 (ratio_size m r_0.Num).bind fun r0 =>
 (ratio_size m r_0.Den).bind fun r1 =>
 (ratio_common m r0 r1).bind fun r2 =>
 ret (r2 == 1)
theorem ratio_Valid_pre (m : Nat) (r_0 : Ratio) : funK Try.prog (Ψ_ratio_Valid m) keep m 1 39 [(dS of_Ratio cells_Ratio of_Ratio_ok).e r_0] = b_ratio_Valid m (fun x0 => some (w_ratio_Valid x0)) r_0 := by kernel_rfl
theorem b_ratio_Valid_map (m : Nat) (r_0 : Ratio) : b_ratio_Valid m (fun x0 => some (w_ratio_Valid x0)) r_0 = (b_ratio_Valid m (fun x0 => some x0) r_0).map w_ratio_Valid := by
  simp only [b_ratio_Valid, cond_map, bind_map, map_none, map_some]
noncomputable def ratio_Valid (m : Nat) (r_0 : Ratio) : Option (Bool) := b_ratio_Valid m (fun x0 => some x0) r_0
theorem ratio_Valid_fun (m : Nat) (r_0 : Ratio) : funK Try.prog (Ψ_ratio_Valid m) keep m 1 39 [(dS of_Ratio cells_Ratio of_Ratio_ok).e r_0] = (ratio_Valid m r_0).map w_ratio_Valid := by
  rw [ratio_Valid_pre]
  exact b_ratio_Valid_map m r_0
noncomputable def K_ratio_Valid (m : Nat) : KnownF C := mkK (dCons (dS of_Ratio cells_Ratio of_Ratio_ok) dNil) (fun a => ratio_Valid m a.1) w_ratio_Valid
theorem K_ratio_Valid_ok (m : Nat) : KnownAt C Try.prog 39 fun l => (K_ratio_Valid m).run _ l some :=
  mkK_known good fit (Ψ_ratio_Valid_ok m) (keep := keep) (m := m) (d := 1) fun a => ratio_Valid_fun m a.1
/-! ### signalbench/sampler.Check -/
noncomputable def Ψ_sampler_Check (m : Nat) : Known C := fun f => match f with
  | 39 => some (K_ratio_Valid m)
  | _ => none
theorem Ψ_sampler_Check_ok (m : Nat) : KnownOk C Try.prog (Ψ_sampler_Check m) := by
  intro f φ h
  unfold Ψ_sampler_Check at h
  split at h
  · injection h with h; subst h; exact K_ratio_Valid_ok m
  · cases h
def w_sampler_Check (b : Int) : List (RV C) := [(dInt .i64).e b]
noncomputable def b_sampler_Check {R : Type} (m : Nat) (ret : Int → Option R) (c_0 : Clock) : Option R :=
 (ratio_Valid m (Ratio.mk c_0.T_Num c_0.T_Den)).bind fun r0 =>
 bif !r0 then
 ret 1
 else
 bif decide (c_0.T_Num < IntKind.i64.wrap (4 * c_0.T_Den)) then
 ret 2
 else
 bif decide (c_0.T_Num > IntKind.i64.wrap (c_0.T_Den * 1048576)) then
 ret 2
 else
 ret 0
theorem sampler_Check_pre (m : Nat) (c_0 : Clock) : funK Try.prog (Ψ_sampler_Check m) keep m 1 22 [(dS of_Clock cells_Clock of_Clock_ok).e c_0] = b_sampler_Check m (fun x0 => some (w_sampler_Check x0)) c_0 := by kernel_rfl
theorem b_sampler_Check_map (m : Nat) (c_0 : Clock) : b_sampler_Check m (fun x0 => some (w_sampler_Check x0)) c_0 = (b_sampler_Check m (fun x0 => some x0) c_0).map w_sampler_Check := by
  simp only [b_sampler_Check, cond_map, bind_map, map_none, map_some]
noncomputable def sampler_Check (m : Nat) (c_0 : Clock) : Option (Int) := b_sampler_Check m (fun x0 => some x0) c_0
theorem sampler_Check_fun (m : Nat) (c_0 : Clock) : funK Try.prog (Ψ_sampler_Check m) keep m 1 22 [(dS of_Clock cells_Clock of_Clock_ok).e c_0] = (sampler_Check m c_0).map w_sampler_Check := by
  rw [sampler_Check_pre]
  exact b_sampler_Check_map m c_0
noncomputable def K_sampler_Check (m : Nat) : KnownF C := mkK (dCons (dS of_Clock cells_Clock of_Clock_ok) dNil) (fun a => sampler_Check m a.1) w_sampler_Check
theorem K_sampler_Check_ok (m : Nat) : KnownAt C Try.prog 22 fun l => (K_sampler_Check m).run _ l some :=
  mkK_known good fit (Ψ_sampler_Check_ok m) (keep := keep) (m := m) (d := 1) fun a => sampler_Check_fun m a.1
/-! ### signalbench/sampler.floor -/
def w_sampler_floor (b : Int) : List (RV C) := [(dInt .i64).e b]
noncomputable def b_sampler_floor {R : Type} (m : Nat) (ret : Int → Option R) (n_0 : Int) (num_1 : Int) (den_2 : Int) : Option R :=
 bif decide (den_2 = 0) then
 none
 else
 bif decide (den_2 = 0) then
 none
 else
 bif decide (den_2 = 0) then
 none
 else
 ret (IntKind.i64.wrap (IntKind.i64.wrap (IntKind.i64.wrap (n_0.tdiv den_2) * num_1) + IntKind.i64.wrap ((IntKind.i64.wrap (n_0.tmod den_2 * num_1)).tdiv den_2)))
theorem sampler_floor_pre (m : Nat) (n_0 : Int) (num_1 : Int) (den_2 : Int) : funK Try.prog Ψ0 keep m 1 50 [(dInt .i64).e n_0, (dInt .i64).e num_1, (dInt .i64).e den_2] = b_sampler_floor m (fun x0 => some (w_sampler_floor x0)) n_0 num_1 den_2 := by kernel_rfl
theorem b_sampler_floor_map (m : Nat) (n_0 : Int) (num_1 : Int) (den_2 : Int) : b_sampler_floor m (fun x0 => some (w_sampler_floor x0)) n_0 num_1 den_2 = (b_sampler_floor m (fun x0 => some x0) n_0 num_1 den_2).map w_sampler_floor := by
  simp only [b_sampler_floor, cond_map, bind_map, map_none, map_some]
noncomputable def sampler_floor (m : Nat) (n_0 : Int) (num_1 : Int) (den_2 : Int) : Option (Int) := b_sampler_floor m (fun x0 => some x0) n_0 num_1 den_2
theorem sampler_floor_fun (m : Nat) (n_0 : Int) (num_1 : Int) (den_2 : Int) : funK Try.prog Ψ0 keep m 1 50 [(dInt .i64).e n_0, (dInt .i64).e num_1, (dInt .i64).e den_2] = (sampler_floor m n_0 num_1 den_2).map w_sampler_floor := by
  rw [sampler_floor_pre]
  exact b_sampler_floor_map m n_0 num_1 den_2
noncomputable def K_sampler_floor (m : Nat) : KnownF C := mkK (dCons (dInt .i64) (dCons (dInt .i64) (dCons (dInt .i64) dNil))) (fun a => sampler_floor m a.1 a.2.1 a.2.2.1) w_sampler_floor
theorem K_sampler_floor_ok (m : Nat) : KnownAt C Try.prog 50 fun l => (K_sampler_floor m).run _ l some :=
  mkK_known good fit Ψ0_ok (keep := keep) (m := m) (d := 1) fun a => sampler_floor_fun m a.1 a.2.1 a.2.2.1
/-! ### (signalbench/sampler.machine).boundary -/
noncomputable def Ψ_sampler_machine_boundary (m : Nat) : Known C := fun f => match f with
  | 50 => some (K_sampler_floor m)
  | _ => none
theorem Ψ_sampler_machine_boundary_ok (m : Nat) : KnownOk C Try.prog (Ψ_sampler_machine_boundary m) := by
  intro f φ h
  unfold Ψ_sampler_machine_boundary at h
  split at h
  · injection h with h; subst h; exact K_sampler_floor_ok m
  · cases h
def w_sampler_machine_boundary (b : Int) : List (RV C) := [(dInt .i64).e b]
noncomputable def b_sampler_machine_boundary {R : Type} (m : Nat) (ret : Int → Option R) (m_0 : Sampler_machine) (k_1 : Int) : Option R :=
 (sampler_floor m k_1 m_0.t_Num_ m_0.t_Den_).bind fun r0 =>
 ret r0
theorem sampler_machine_boundary_pre (m : Nat) (m_0 : Sampler_machine) (k_1 : Int) : funK Try.prog (Ψ_sampler_machine_boundary m) keep m 1 38 [(dS of_Sampler_machine cells_Sampler_machine of_Sampler_machine_ok).e m_0, (dInt .i64).e k_1] = b_sampler_machine_boundary m (fun x0 => some (w_sampler_machine_boundary x0)) m_0 k_1 := by kernel_rfl
theorem b_sampler_machine_boundary_map (m : Nat) (m_0 : Sampler_machine) (k_1 : Int) : b_sampler_machine_boundary m (fun x0 => some (w_sampler_machine_boundary x0)) m_0 k_1 = (b_sampler_machine_boundary m (fun x0 => some x0) m_0 k_1).map w_sampler_machine_boundary := by
  simp only [b_sampler_machine_boundary, cond_map, bind_map, map_none, map_some]
noncomputable def sampler_machine_boundary (m : Nat) (m_0 : Sampler_machine) (k_1 : Int) : Option (Int) := b_sampler_machine_boundary m (fun x0 => some x0) m_0 k_1
theorem sampler_machine_boundary_fun (m : Nat) (m_0 : Sampler_machine) (k_1 : Int) : funK Try.prog (Ψ_sampler_machine_boundary m) keep m 1 38 [(dS of_Sampler_machine cells_Sampler_machine of_Sampler_machine_ok).e m_0, (dInt .i64).e k_1] = (sampler_machine_boundary m m_0 k_1).map w_sampler_machine_boundary := by
  rw [sampler_machine_boundary_pre]
  exact b_sampler_machine_boundary_map m m_0 k_1
noncomputable def K_sampler_machine_boundary (m : Nat) : KnownF C := mkK (dCons (dS of_Sampler_machine cells_Sampler_machine of_Sampler_machine_ok) (dCons (dInt .i64) dNil)) (fun a => sampler_machine_boundary m a.1 a.2.1) w_sampler_machine_boundary
theorem K_sampler_machine_boundary_ok (m : Nat) : KnownAt C Try.prog 38 fun l => (K_sampler_machine_boundary m).run _ l some :=
  mkK_known good fit (Ψ_sampler_machine_boundary_ok m) (keep := keep) (m := m) (d := 1) fun a => sampler_machine_boundary_fun m a.1 a.2.1
/-! ### (signalbench/sampler.machine).irregular -/
noncomputable def Ψ_sampler_machine_irregular (m : Nat) : Known C := fun f => match f with
  | 50 => some (K_sampler_floor m)
  | 38 => some (K_sampler_machine_boundary m)
  | _ => none
theorem Ψ_sampler_machine_irregular_ok (m : Nat) : KnownOk C Try.prog (Ψ_sampler_machine_irregular m) := by
  intro f φ h
  unfold Ψ_sampler_machine_irregular at h
  split at h
  · injection h with h; subst h; exact K_sampler_floor_ok m
  · injection h with h; subst h; exact K_sampler_machine_boundary_ok m
  · cases h
def w_sampler_machine_irregular (b : Bool) : List (RV C) := [dBool.e b]
noncomputable def b_sampler_machine_irregular {R : Type} (m : Nat) (ret : Bool → Option R) (m_0 : Sampler_machine) (d_1 : Int) : Option R :=
 (sampler_floor m d_1 m_0.t_Den_ m_0.t_Num_).bind fun r0 =>
 (sampler_machine_boundary m m_0 r0).bind fun r1 =>
 (sampler_machine_boundary m m_0 (IntKind.i64.wrap (r0 + 1))).bind fun r2 =>
 bif decide (r0 > 0) then
 ((sampler_machine_boundary m m_0 (IntKind.i64.wrap (r0 - 1))).bind fun r3 =>
 ret (decide (IntKind.i64.wrap (IntKind.i64.wrap (4 * if (if IntKind.i64.wrap (d_1 - r3) < if IntKind.i64.wrap (r2 - d_1) < IntKind.i64.wrap (d_1 - r1) then IntKind.i64.wrap (r2 - d_1) else IntKind.i64.wrap (d_1 - r1) then IntKind.i64.wrap (d_1 - r3) else if IntKind.i64.wrap (r2 - d_1) < IntKind.i64.wrap (d_1 - r1) then IntKind.i64.wrap (r2 - d_1) else IntKind.i64.wrap (d_1 - r1)) < IntKind.i64.wrap (0 - if IntKind.i64.wrap (d_1 - r3) < if IntKind.i64.wrap (r2 - d_1) < IntKind.i64.wrap (d_1 - r1) then IntKind.i64.wrap (r2 - d_1) else IntKind.i64.wrap (d_1 - r1) then IntKind.i64.wrap (d_1 - r3) else if IntKind.i64.wrap (r2 - d_1) < IntKind.i64.wrap (d_1 - r1) then IntKind.i64.wrap (r2 - d_1) else IntKind.i64.wrap (d_1 - r1)) then IntKind.i64.wrap (0 - if IntKind.i64.wrap (d_1 - r3) < if IntKind.i64.wrap (r2 - d_1) < IntKind.i64.wrap (d_1 - r1) then IntKind.i64.wrap (r2 - d_1) else IntKind.i64.wrap (d_1 - r1) then IntKind.i64.wrap (d_1 - r3) else if IntKind.i64.wrap (r2 - d_1) < IntKind.i64.wrap (d_1 - r1) then IntKind.i64.wrap (r2 - d_1) else IntKind.i64.wrap (d_1 - r1)) else if IntKind.i64.wrap (d_1 - r3) < if IntKind.i64.wrap (r2 - d_1) < IntKind.i64.wrap (d_1 - r1) then IntKind.i64.wrap (r2 - d_1) else IntKind.i64.wrap (d_1 - r1) then IntKind.i64.wrap (d_1 - r3) else if IntKind.i64.wrap (r2 - d_1) < IntKind.i64.wrap (d_1 - r1) then IntKind.i64.wrap (r2 - d_1) else IntKind.i64.wrap (d_1 - r1)) * m_0.t_Den_) > m_0.t_Num_)))
 else
 ret (decide (IntKind.i64.wrap (IntKind.i64.wrap (4 * if (if IntKind.i64.wrap (r2 - d_1) < IntKind.i64.wrap (d_1 - r1) then IntKind.i64.wrap (r2 - d_1) else IntKind.i64.wrap (d_1 - r1)) < IntKind.i64.wrap (0 - if IntKind.i64.wrap (r2 - d_1) < IntKind.i64.wrap (d_1 - r1) then IntKind.i64.wrap (r2 - d_1) else IntKind.i64.wrap (d_1 - r1)) then IntKind.i64.wrap (0 - if IntKind.i64.wrap (r2 - d_1) < IntKind.i64.wrap (d_1 - r1) then IntKind.i64.wrap (r2 - d_1) else IntKind.i64.wrap (d_1 - r1)) else if IntKind.i64.wrap (r2 - d_1) < IntKind.i64.wrap (d_1 - r1) then IntKind.i64.wrap (r2 - d_1) else IntKind.i64.wrap (d_1 - r1)) * m_0.t_Den_) > m_0.t_Num_))
theorem sampler_machine_irregular_pre (m : Nat) (m_0 : Sampler_machine) (d_1 : Int) : funK Try.prog (Ψ_sampler_machine_irregular m) keep m 1 42 [(dS of_Sampler_machine cells_Sampler_machine of_Sampler_machine_ok).e m_0, (dInt .i64).e d_1] = b_sampler_machine_irregular m (fun x0 => some (w_sampler_machine_irregular x0)) m_0 d_1 := by kernel_rfl
theorem b_sampler_machine_irregular_map (m : Nat) (m_0 : Sampler_machine) (d_1 : Int) : b_sampler_machine_irregular m (fun x0 => some (w_sampler_machine_irregular x0)) m_0 d_1 = (b_sampler_machine_irregular m (fun x0 => some x0) m_0 d_1).map w_sampler_machine_irregular := by
  simp only [b_sampler_machine_irregular, cond_map, bind_map, map_none, map_some]
noncomputable def sampler_machine_irregular (m : Nat) (m_0 : Sampler_machine) (d_1 : Int) : Option (Bool) := b_sampler_machine_irregular m (fun x0 => some x0) m_0 d_1
theorem sampler_machine_irregular_fun (m : Nat) (m_0 : Sampler_machine) (d_1 : Int) : funK Try.prog (Ψ_sampler_machine_irregular m) keep m 1 42 [(dS of_Sampler_machine cells_Sampler_machine of_Sampler_machine_ok).e m_0, (dInt .i64).e d_1] = (sampler_machine_irregular m m_0 d_1).map w_sampler_machine_irregular := by
  rw [sampler_machine_irregular_pre]
  exact b_sampler_machine_irregular_map m m_0 d_1
noncomputable def K_sampler_machine_irregular (m : Nat) : KnownF C := mkK (dCons (dS of_Sampler_machine cells_Sampler_machine of_Sampler_machine_ok) (dCons (dInt .i64) dNil)) (fun a => sampler_machine_irregular m a.1 a.2.1) w_sampler_machine_irregular
theorem K_sampler_machine_irregular_ok (m : Nat) : KnownAt C Try.prog 42 fun l => (K_sampler_machine_irregular m).run _ l some :=
  mkK_known good fit (Ψ_sampler_machine_irregular_ok m) (keep := keep) (m := m) (d := 1) fun a => sampler_machine_irregular_fun m a.1 a.2.1
/-! ### (signalbench/sampler.machine).sample -/
noncomputable def Ψ_sampler_machine_sample (m : Nat) : Known C := fun f => match f with
  | 50 => some (K_sampler_floor m)
  | _ => none
theorem Ψ_sampler_machine_sample_ok (m : Nat) : KnownOk C Try.prog (Ψ_sampler_machine_sample m) := by
  intro f φ h
  unfold Ψ_sampler_machine_sample at h
  split at h
  · injection h with h; subst h; exact K_sampler_floor_ok m
  · cases h
def w_sampler_machine_sample (b : Int) : List (RV C) := [(dInt .i64).e b]
noncomputable def b_sampler_machine_sample {R : Type} (m : Nat) (ret : Int → Option R) (m_0 : Sampler_machine) (k_1 : Int) : Option R :=
 (sampler_floor m (IntKind.i64.wrap (IntKind.i64.wrap (2 * k_1) + 1)) m_0.t_Num_ (IntKind.i64.wrap (2 * m_0.t_Den_))).bind fun r0 =>
 ret r0
theorem sampler_machine_sample_pre (m : Nat) (m_0 : Sampler_machine) (k_1 : Int) : funK Try.prog (Ψ_sampler_machine_sample m) keep m 1 43 [(dS of_Sampler_machine cells_Sampler_machine of_Sampler_machine_ok).e m_0, (dInt .i64).e k_1] = b_sampler_machine_sample m (fun x0 => some (w_sampler_machine_sample x0)) m_0 k_1 := by kernel_rfl
theorem b_sampler_machine_sample_map (m : Nat) (m_0 : Sampler_machine) (k_1 : Int) : b_sampler_machine_sample m (fun x0 => some (w_sampler_machine_sample x0)) m_0 k_1 = (b_sampler_machine_sample m (fun x0 => some x0) m_0 k_1).map w_sampler_machine_sample := by
  simp only [b_sampler_machine_sample, cond_map, bind_map, map_none, map_some]
noncomputable def sampler_machine_sample (m : Nat) (m_0 : Sampler_machine) (k_1 : Int) : Option (Int) := b_sampler_machine_sample m (fun x0 => some x0) m_0 k_1
theorem sampler_machine_sample_fun (m : Nat) (m_0 : Sampler_machine) (k_1 : Int) : funK Try.prog (Ψ_sampler_machine_sample m) keep m 1 43 [(dS of_Sampler_machine cells_Sampler_machine of_Sampler_machine_ok).e m_0, (dInt .i64).e k_1] = (sampler_machine_sample m m_0 k_1).map w_sampler_machine_sample := by
  rw [sampler_machine_sample_pre]
  exact b_sampler_machine_sample_map m m_0 k_1
noncomputable def K_sampler_machine_sample (m : Nat) : KnownF C := mkK (dCons (dS of_Sampler_machine cells_Sampler_machine of_Sampler_machine_ok) (dCons (dInt .i64) dNil)) (fun a => sampler_machine_sample m a.1 a.2.1) w_sampler_machine_sample
theorem K_sampler_machine_sample_ok (m : Nat) : KnownAt C Try.prog 43 fun l => (K_sampler_machine_sample m).run _ l some :=
  mkK_known good fit (Ψ_sampler_machine_sample_ok m) (keep := keep) (m := m) (d := 1) fun a => sampler_machine_sample_fun m a.1 a.2.1
/-! ### (signalbench/sampler.machine).step -/
noncomputable def Ψ_sampler_machine_step (m : Nat) : Known C := fun f => match f with
  | 42 => some (K_sampler_machine_irregular m)
  | 43 => some (K_sampler_machine_sample m)
  | 38 => some (K_sampler_machine_boundary m)
  | _ => none
theorem Ψ_sampler_machine_step_ok (m : Nat) : KnownOk C Try.prog (Ψ_sampler_machine_step m) := by
  intro f φ h
  unfold Ψ_sampler_machine_step at h
  split at h
  · injection h with h; subst h; exact K_sampler_machine_irregular_ok m
  · injection h with h; subst h; exact K_sampler_machine_sample_ok m
  · injection h with h; subst h; exact K_sampler_machine_boundary_ok m
  · cases h
def w_sampler_machine_step (b : State × List Event) : List (RV C) := [(dS of_State cells_State of_State_ok).e b.1, (dRow 32).e b.2]
noncomputable def Q_sampler_machine_step_8 (m : Nat) : St C → (Exit → St C → Option (List (RV C))) → Option (List (RV C)) := fun σ k => codeK Try.prog (Ψ_sampler_machine_step m) (callK Try.prog (Ψ_sampler_machine_step m) keep m 0) (keep 29) m (subC body29 [.r, .r, .r, .l, .b, .o]) σ k
noncomputable def KL_sampler_machine_step_8 (m : Nat) : Exit → St C → Option (List (RV C)) := contK Try.prog (Ψ_sampler_machine_step m) (callK Try.prog (Ψ_sampler_machine_step m) keep m 0) (keep 29) m body29 [.r, .r, .r, .l, .b, .o] (leaveK Try.prog Try.f29.results.toList (finK Try.prog Try.f29.resultTypes.toList))
noncomputable def L_sampler_machine_step_l8 (m n : Nat) (c0 : Sampler_machine) (c1 : State) (c2 : Event) (c3 : State) (out_8 : List Event) : Option (List (RV C)) := iterK (Q_sampler_machine_step_8 m) (St.norm (keep 29 8)) n ({ T := [.dead, .dead, .dead, .fl (.one (.ptr 0 0)), .fl (.one (.ptr 1 0)), .fl (.one (.ptr 2 0)), .fl (.one (.ptr 3 0)), .dead, .fl (.one (.sl 4))] ++ List.replicate 77 .dead, F := [[]], H := [.box 62 (cells_Sampler_machine c0), .box 40 (cells_State c1), .box 32 (cells_Event c2), .box 40 (cells_State c3), .row 32 true out_8] } : St C) (KL_sampler_machine_step_8 m)
noncomputable def b_sampler_machine_step_l8 {R : Type} (m : Nat) (ret : State → List Event → Option R) (k_l8 : Sampler_machine → State → Event → State → List Event → Option R) (c0 : Sampler_machine) (c1 : State) (c2 : Event) (c3 : State) (out_8 : List Event) : Option R :=
 (sampler_machine_sample m c0 c1.Count).bind fun r0 =>
 bif decide (IntKind.i64.wrap (c1.From + r0) < c2.To) then
 ((sampler_machine_boundary m c0 c1.Count).bind fun r1 =>
 (sampler_machine_boundary m c0 (IntKind.i64.wrap (c1.Count + 1))).bind fun r2 =>
 bif c1.Aux == 1 then
 bif decide ((out_8.length + 1) * 64 ≤ 140737488355328) then
 k_l8 c0 { c1 with Count := IntKind.i64.wrap (c1.Count + 1), Aux := 0 } c2 c3 (out_8 ++ [Event.mk 2 (IntKind.i64.wrap (c1.From + r1)) (if 1099511627776 < IntKind.i64.wrap (c1.From + r2) then 1099511627776 else IntKind.i64.wrap (c1.From + r2)) c2.Value 0 (bs []) 6])
 else
 none
 else
 bif decide ((out_8.length + 1) * 64 ≤ 140737488355328) then
 k_l8 c0 { c1 with Count := IntKind.i64.wrap (c1.Count + 1), Aux := 0 } c2 c3 (out_8 ++ [Event.mk 2 (IntKind.i64.wrap (c1.From + r1)) (if 1099511627776 < IntKind.i64.wrap (c1.From + r2) then 1099511627776 else IntKind.i64.wrap (c1.From + r2)) c2.Value 0 (bs []) 0])
 else
 none)
 else
 ret { c1 with At := c2.To } out_8
theorem L_sampler_machine_step_l8_step (m n : Nat) (c0 : Sampler_machine) (c1 : State) (c2 : Event) (c3 : State) (out_8 : List Event) : L_sampler_machine_step_l8 m (n + 1) c0 c1 c2 c3 out_8 = b_sampler_machine_step_l8 m (fun x0 x1 => some (w_sampler_machine_step (x0, x1))) (fun c0 c1 c2 c3 out_8 => L_sampler_machine_step_l8 m n c0 c1 c2 c3 out_8) c0 c1 c2 c3 out_8 := by kernel_rfl
theorem b_sampler_machine_step_l8_map (m : Nat) {k_l8 : Sampler_machine → State → Event → State → List Event → Option (List (RV C))} {q_l8 : Sampler_machine → State → Event → State → List Event → Option (State × List Event)} (h_l8 : ∀ c0 c1 c2 c3 out_8, k_l8 c0 c1 c2 c3 out_8 = (q_l8 c0 c1 c2 c3 out_8).map w_sampler_machine_step) (c0 : Sampler_machine) (c1 : State) (c2 : Event) (c3 : State) (out_8 : List Event) : b_sampler_machine_step_l8 m (fun x0 x1 => some (w_sampler_machine_step (x0, x1))) k_l8 c0 c1 c2 c3 out_8 = (b_sampler_machine_step_l8 m (fun x0 x1 => some (x0, x1)) q_l8 c0 c1 c2 c3 out_8).map w_sampler_machine_step := by
  simp only [b_sampler_machine_step_l8, cond_map, bind_map, map_none, map_some, h_l8]
noncomputable def sampler_machine_step_l8 (m : Nat) : Nat → Sampler_machine → State → Event → State → List Event → Option (State × List Event)
  | 0, _, _, _, _, _ => none
  | n + 1, c0, c1, c2, c3, out_8 => b_sampler_machine_step_l8 m (fun x0 x1 => some (x0, x1)) (fun c0 c1 c2 c3 out_8 => sampler_machine_step_l8 m n c0 c1 c2 c3 out_8) c0 c1 c2 c3 out_8
theorem L_sampler_machine_step_l8_eq (m : Nat) : ∀ (n : Nat) (c0 : Sampler_machine) (c1 : State) (c2 : Event) (c3 : State) (out_8 : List Event), L_sampler_machine_step_l8 m n c0 c1 c2 c3 out_8 = (sampler_machine_step_l8 m n c0 c1 c2 c3 out_8).map w_sampler_machine_step
  | 0, c0, c1, c2, c3, out_8 => by kernel_rfl
  | n + 1, c0, c1, c2, c3, out_8 => by
    rw [L_sampler_machine_step_l8_step]
    exact b_sampler_machine_step_l8_map m (fun c0 c1 c2 c3 out_8 => L_sampler_machine_step_l8_eq m n c0 c1 c2 c3 out_8) c0 c1 c2 c3 out_8
noncomputable def b_sampler_machine_step {R : Type} (m : Nat) (ret : State → List Event → Option R) (k_l8 : Sampler_machine → State → Event → State → List Event → Option R) (m_0 : Sampler_machine) (s_1 : State) (e_2 : Event) : Option R :=
 bif s_1.Phase == 0 then
 k_l8 m_0 (State.mk 1 0 e_2.From 0 0 0 e_2.Value (bs [])) e_2 (State.mk 0 0 0 0 0 0 0 (bs [])) []
 else
 bif e_2.Value != s_1.Prev then
 ((sampler_machine_irregular m m_0 (IntKind.i64.wrap (e_2.From - s_1.From))).bind fun r0 =>
 bif r0 then
 k_l8 m_0 { s_1 with From := e_2.From, Count := 0, Aux := 1, Prev := e_2.Value } e_2 (State.mk 0 0 0 0 0 0 0 (bs [])) []
 else
 k_l8 m_0 { s_1 with From := e_2.From, Count := 0, Prev := e_2.Value } e_2 (State.mk 0 0 0 0 0 0 0 (bs [])) [])
 else
 k_l8 m_0 s_1 e_2 (State.mk 0 0 0 0 0 0 0 (bs [])) []
theorem sampler_machine_step_pre (m : Nat) (m_0 : Sampler_machine) (s_1 : State) (e_2 : Event) : funK Try.prog (Ψ_sampler_machine_step m) keep m 1 29 [(dS of_Sampler_machine cells_Sampler_machine of_Sampler_machine_ok).e m_0, (dS of_State cells_State of_State_ok).e s_1, (dS of_Event cells_Event of_Event_ok).e e_2] = b_sampler_machine_step m (fun x0 x1 => some (w_sampler_machine_step (x0, x1))) (fun c0 c1 c2 c3 out_8 => L_sampler_machine_step_l8 m m c0 c1 c2 c3 out_8) m_0 s_1 e_2 := by kernel_rfl
theorem b_sampler_machine_step_map (m : Nat) {k_l8 : Sampler_machine → State → Event → State → List Event → Option (List (RV C))} {q_l8 : Sampler_machine → State → Event → State → List Event → Option (State × List Event)} (h_l8 : ∀ c0 c1 c2 c3 out_8, k_l8 c0 c1 c2 c3 out_8 = (q_l8 c0 c1 c2 c3 out_8).map w_sampler_machine_step) (m_0 : Sampler_machine) (s_1 : State) (e_2 : Event) : b_sampler_machine_step m (fun x0 x1 => some (w_sampler_machine_step (x0, x1))) k_l8 m_0 s_1 e_2 = (b_sampler_machine_step m (fun x0 x1 => some (x0, x1)) q_l8 m_0 s_1 e_2).map w_sampler_machine_step := by
  simp only [b_sampler_machine_step, cond_map, bind_map, map_none, map_some, h_l8]
noncomputable def sampler_machine_step (m : Nat) (m_0 : Sampler_machine) (s_1 : State) (e_2 : Event) : Option (State × List Event) := b_sampler_machine_step m (fun x0 x1 => some (x0, x1)) (fun c0 c1 c2 c3 out_8 => sampler_machine_step_l8 m m c0 c1 c2 c3 out_8) m_0 s_1 e_2
theorem sampler_machine_step_fun (m : Nat) (m_0 : Sampler_machine) (s_1 : State) (e_2 : Event) : funK Try.prog (Ψ_sampler_machine_step m) keep m 1 29 [(dS of_Sampler_machine cells_Sampler_machine of_Sampler_machine_ok).e m_0, (dS of_State cells_State of_State_ok).e s_1, (dS of_Event cells_Event of_Event_ok).e e_2] = (sampler_machine_step m m_0 s_1 e_2).map w_sampler_machine_step := by
  rw [sampler_machine_step_pre]
  exact b_sampler_machine_step_map m (fun c0 c1 c2 c3 out_8 => L_sampler_machine_step_l8_eq m m c0 c1 c2 c3 out_8) m_0 s_1 e_2
noncomputable def K_sampler_machine_step (m : Nat) : KnownF C := mkK (dCons (dS of_Sampler_machine cells_Sampler_machine of_Sampler_machine_ok) (dCons (dS of_State cells_State of_State_ok) (dCons (dS of_Event cells_Event of_Event_ok) dNil))) (fun a => sampler_machine_step m a.1 a.2.1 a.2.2.1) w_sampler_machine_step
theorem K_sampler_machine_step_ok (m : Nat) : KnownAt C Try.prog 29 fun l => (K_sampler_machine_step m).run _ l some :=
  mkK_known good fit (Ψ_sampler_machine_step_ok m) (keep := keep) (m := m) (d := 1) fun a => sampler_machine_step_fun m a.1 a.2.1 a.2.2.1
/-! ### signalbench/sampler.Start -/
def w_sampler_Start (b : State) : List (RV C) := [(dS of_State cells_State of_State_ok).e b]
noncomputable def b_sampler_Start {R : Type} (m : Nat) (ret : State → Option R) (c_0 : Clock) : Option R :=
 ret (State.mk 0 0 0 0 0 0 0 (bs []))
theorem sampler_Start_pre (m : Nat) (c_0 : Clock) : funK Try.prog Ψ0 keep m 1 15 [(dS of_Clock cells_Clock of_Clock_ok).e c_0] = b_sampler_Start m (fun x0 => some (w_sampler_Start x0)) c_0 := by kernel_rfl
theorem b_sampler_Start_map (m : Nat) (c_0 : Clock) : b_sampler_Start m (fun x0 => some (w_sampler_Start x0)) c_0 = (b_sampler_Start m (fun x0 => some x0) c_0).map w_sampler_Start := by
  simp only [b_sampler_Start, cond_map, bind_map, map_none, map_some]
noncomputable def sampler_Start (m : Nat) (c_0 : Clock) : Option (State) := b_sampler_Start m (fun x0 => some x0) c_0
theorem sampler_Start_fun (m : Nat) (c_0 : Clock) : funK Try.prog Ψ0 keep m 1 15 [(dS of_Clock cells_Clock of_Clock_ok).e c_0] = (sampler_Start m c_0).map w_sampler_Start := by
  rw [sampler_Start_pre]
  exact b_sampler_Start_map m c_0
noncomputable def K_sampler_Start (m : Nat) : KnownF C := mkK (dCons (dS of_Clock cells_Clock of_Clock_ok) dNil) (fun a => sampler_Start m a.1) w_sampler_Start
theorem K_sampler_Start_ok (m : Nat) : KnownAt C Try.prog 15 fun l => (K_sampler_Start m).run _ l some :=
  mkK_known good fit Ψ0_ok (keep := keep) (m := m) (d := 1) fun a => sampler_Start_fun m a.1
/-! ### signalbench/event.Valid -/
def w_event_Valid (b : Bool) : List (RV C) := [dBool.e b]
noncomputable def b_event_Valid {R : Type} (m : Nat) (ret : Bool → Option R) (e_0 : Event) : Option R :=
 bif decide (e_0.Kind < 1) then
 ret false
 else
 bif decide (e_0.Kind > 8) then
 ret false
 else
 bif decide (e_0.From < 0) then
 ret false
 else
 bif decide (e_0.From > e_0.To) then
 ret false
 else
 bif decide (e_0.To > 1099511627776) then
 ret false
 else
 bif decide (e_0.Value < -9007199254740992) then
 ret false
 else
 bif decide (e_0.Value > 9007199254740992) then
 ret false
 else
 bif decide (e_0.Aux < -9007199254740992) then
 ret false
 else
 bif decide (e_0.Aux > 9007199254740992) then
 ret false
 else
 bif decide ((e_0.Data.size : Int) ≤ 4096) then
 bif decide (e_0.Fault ≥ 0) then
 ret (decide (e_0.Fault ≤ 12))
 else
 ret false
 else
 ret false
theorem event_Valid_pre (m : Nat) (e_0 : Event) : funK Try.prog Ψ0 keep m 1 46 [(dS of_Event cells_Event of_Event_ok).e e_0] = b_event_Valid m (fun x0 => some (w_event_Valid x0)) e_0 := by kernel_rfl
theorem b_event_Valid_map (m : Nat) (e_0 : Event) : b_event_Valid m (fun x0 => some (w_event_Valid x0)) e_0 = (b_event_Valid m (fun x0 => some x0) e_0).map w_event_Valid := by
  simp only [b_event_Valid, cond_map, bind_map, map_none, map_some]
noncomputable def event_Valid (m : Nat) (e_0 : Event) : Option (Bool) := b_event_Valid m (fun x0 => some x0) e_0
theorem event_Valid_fun (m : Nat) (e_0 : Event) : funK Try.prog Ψ0 keep m 1 46 [(dS of_Event cells_Event of_Event_ok).e e_0] = (event_Valid m e_0).map w_event_Valid := by
  rw [event_Valid_pre]
  exact b_event_Valid_map m e_0
noncomputable def K_event_Valid (m : Nat) : KnownF C := mkK (dCons (dS of_Event cells_Event of_Event_ok) dNil) (fun a => event_Valid m a.1) w_event_Valid
theorem K_event_Valid_ok (m : Nat) : KnownAt C Try.prog 46 fun l => (K_event_Valid m).run _ l some :=
  mkK_known good fit Ψ0_ok (keep := keep) (m := m) (d := 1) fun a => event_Valid_fun m a.1
/-! ### signalbench/sampler.accepts -/
noncomputable def Ψ_sampler_accepts (m : Nat) : Known C := fun f => match f with
  | 46 => some (K_event_Valid m)
  | _ => none
theorem Ψ_sampler_accepts_ok (m : Nat) : KnownOk C Try.prog (Ψ_sampler_accepts m) := by
  intro f φ h
  unfold Ψ_sampler_accepts at h
  split at h
  · injection h with h; subst h; exact K_event_Valid_ok m
  · cases h
def w_sampler_accepts (b : Bool) : List (RV C) := [dBool.e b]
noncomputable def b_sampler_accepts {R : Type} (m : Nat) (ret : Bool → Option R) (s_0 : State) (e_1 : Event) : Option R :=
 (event_Valid m e_1).bind fun r0 =>
 bif !r0 then
 ret false
 else
 bif e_1.Kind != 1 then
 ret false
 else
 bif e_1.Fault != 0 then
 ret false
 else
 bif e_1.From == e_1.To then
 ret false
 else
 bif IntKind.i64.wrap (((BitVec.ofInt 64 e_1.Value &&& ~~~BitVec.ofInt 64 1).toNat : Int)) != 0 then
 ret false
 else
 bif s_0.Phase == 0 then
 ret true
 else
 ret (e_1.From == s_0.At)
theorem sampler_accepts_pre (m : Nat) (s_0 : State) (e_1 : Event) : funK Try.prog (Ψ_sampler_accepts m) keep m 1 31 [(dS of_State cells_State of_State_ok).e s_0, (dS of_Event cells_Event of_Event_ok).e e_1] = b_sampler_accepts m (fun x0 => some (w_sampler_accepts x0)) s_0 e_1 := by kernel_rfl
theorem b_sampler_accepts_map (m : Nat) (s_0 : State) (e_1 : Event) : b_sampler_accepts m (fun x0 => some (w_sampler_accepts x0)) s_0 e_1 = (b_sampler_accepts m (fun x0 => some x0) s_0 e_1).map w_sampler_accepts := by
  simp only [b_sampler_accepts, cond_map, bind_map, map_none, map_some]
noncomputable def sampler_accepts (m : Nat) (s_0 : State) (e_1 : Event) : Option (Bool) := b_sampler_accepts m (fun x0 => some x0) s_0 e_1
theorem sampler_accepts_fun (m : Nat) (s_0 : State) (e_1 : Event) : funK Try.prog (Ψ_sampler_accepts m) keep m 1 31 [(dS of_State cells_State of_State_ok).e s_0, (dS of_Event cells_Event of_Event_ok).e e_1] = (sampler_accepts m s_0 e_1).map w_sampler_accepts := by
  rw [sampler_accepts_pre]
  exact b_sampler_accepts_map m s_0 e_1
noncomputable def K_sampler_accepts (m : Nat) : KnownF C := mkK (dCons (dS of_State cells_State of_State_ok) (dCons (dS of_Event cells_Event of_Event_ok) dNil)) (fun a => sampler_accepts m a.1 a.2.1) w_sampler_accepts
theorem K_sampler_accepts_ok (m : Nat) : KnownAt C Try.prog 31 fun l => (K_sampler_accepts m).run _ l some :=
  mkK_known good fit (Ψ_sampler_accepts_ok m) (keep := keep) (m := m) (d := 1) fun a => sampler_accepts_fun m a.1 a.2.1
/-! ### signalbench/sampler.Decode -/
noncomputable def Ψ_sampler_Decode (m : Nat) : Known C := fun f => match f with
  | 22 => some (K_sampler_Check m)
  | 29 => some (K_sampler_machine_step m)
  | 15 => some (K_sampler_Start m)
  | 31 => some (K_sampler_accepts m)
  | _ => none
theorem Ψ_sampler_Decode_ok (m : Nat) : KnownOk C Try.prog (Ψ_sampler_Decode m) := by
  intro f φ h
  unfold Ψ_sampler_Decode at h
  split at h
  · injection h with h; subst h; exact K_sampler_Check_ok m
  · injection h with h; subst h; exact K_sampler_machine_step_ok m
  · injection h with h; subst h; exact K_sampler_Start_ok m
  · injection h with h; subst h; exact K_sampler_accepts_ok m
  · cases h
def w_sampler_Decode (b : List Event) : List (RV C) := [(dRow 32).e b]
noncomputable def Q_sampler_Decode_28x3 (m : Nat) : St C → (Exit → St C → Option (List (RV C))) → Option (List (RV C)) := fun σ k => codeK Try.prog (Ψ_sampler_Decode m) (callK Try.prog (Ψ_sampler_Decode m) keep m 0) (keep 28) m (subC body28 [.r, .r, .l, .r, .b, .o]) σ k
noncomputable def KL_sampler_Decode_28x3 (m : Nat) : Exit → St C → Option (List (RV C)) := contK Try.prog (Ψ_sampler_Decode m) (callK Try.prog (Ψ_sampler_Decode m) keep m 0) (keep 28) m body28 [.r, .r, .l, .r, .b, .o] (leaveK Try.prog Try.f28.results.toList (regFrom Try.prog (Ψ_sampler_Decode m) (callK Try.prog (Ψ_sampler_Decode m) keep m 1) (subC body13 [.r, .r, .l]) 7 (contK Try.prog (Ψ_sampler_Decode m) (callK Try.prog (Ψ_sampler_Decode m) keep m 1) (keep 13) m body13 [.r, .r, .l] (leaveK Try.prog Try.f13.results.toList (finK Try.prog Try.f13.resultTypes.toList)))))
noncomputable def L_sampler_Decode_l28x3 (m n : Nat) (step_0_0_0 : Int) (step_0_0_1 : Int) (t13 : Int) (t14 : Int) (c0 : State) (out_7 : List Event) (t12 : List Event) : Option (List (RV C)) := iterK (Q_sampler_Decode_28x3 m) (St.norm (keep 28 3)) n ({ T := [.clo 29 [.agg ([.int .i64 step_0_0_0, .int .i64 step_0_0_1])] [], .dead, .dead, .dead, .fl (.one (.ptr 0 0)), .dead, .dead, .fl (.one (.sl 1)), .dead, .dead, .dead, .dead, .fl (.one (.sl 2)), .fl (.one (.int .i64 t13)), .fl (.one (.int .i64 t14))] ++ List.replicate 19 .dead, F := [[] ++ List.replicate 16 .dead, []], H := [.box 40 (cells_State c0), .row 32 true out_7, .row 32 false t12] } : St C) (KL_sampler_Decode_28x3 m)
noncomputable def b_sampler_Decode_l28x3 {R : Type} (m : Nat) (ret : List Event → Option R) (k_l28x3 : Int → Int → Int → Int → State → List Event → List Event → Option R) (step_0_0_0 : Int) (step_0_0_1 : Int) (t13 : Int) (t14 : Int) (c0 : State) (out_7 : List Event) (t12 : List Event) : Option R :=
 bif decide (t14 < t13) then
 (bif decide (0 ≤ t14) then
 (bif decide (t14 < (t12.length : Int)) then
 ((sampler_accepts m c0 (t12.getD t14.toNat dflt_Event)).bind fun r0 =>
 bif r0 then
 ((sampler_machine_step m (Sampler_machine.mk step_0_0_0 step_0_0_1) c0 (t12.getD t14.toNat dflt_Event)).bind fun r1 =>
 bif decide ((out_7.length + r1.snd.length) * 64 ≤ 140737488355328) then
 k_l28x3 step_0_0_0 step_0_0_1 t13 (IntKind.i64.wrap (t14 + 1)) r1.fst (out_7 ++ r1.snd) t12
 else
 none)
 else
 k_l28x3 step_0_0_0 step_0_0_1 t13 (IntKind.i64.wrap (t14 + 1)) c0 out_7 t12)
 else
 none)
 else
 none)
 else
 ret out_7
theorem L_sampler_Decode_l28x3_step (m n : Nat) (step_0_0_0 : Int) (step_0_0_1 : Int) (t13 : Int) (t14 : Int) (c0 : State) (out_7 : List Event) (t12 : List Event) : L_sampler_Decode_l28x3 m (n + 1) step_0_0_0 step_0_0_1 t13 t14 c0 out_7 t12 = b_sampler_Decode_l28x3 m (fun x0 => some (w_sampler_Decode x0)) (fun step_0_0_0 step_0_0_1 t13 t14 c0 out_7 t12 => L_sampler_Decode_l28x3 m n step_0_0_0 step_0_0_1 t13 t14 c0 out_7 t12) step_0_0_0 step_0_0_1 t13 t14 c0 out_7 t12 := by kernel_rfl
theorem b_sampler_Decode_l28x3_map (m : Nat) {k_l28x3 : Int → Int → Int → Int → State → List Event → List Event → Option (List (RV C))} {q_l28x3 : Int → Int → Int → Int → State → List Event → List Event → Option (List Event)} (h_l28x3 : ∀ step_0_0_0 step_0_0_1 t13 t14 c0 out_7 t12, k_l28x3 step_0_0_0 step_0_0_1 t13 t14 c0 out_7 t12 = (q_l28x3 step_0_0_0 step_0_0_1 t13 t14 c0 out_7 t12).map w_sampler_Decode) (step_0_0_0 : Int) (step_0_0_1 : Int) (t13 : Int) (t14 : Int) (c0 : State) (out_7 : List Event) (t12 : List Event) : b_sampler_Decode_l28x3 m (fun x0 => some (w_sampler_Decode x0)) k_l28x3 step_0_0_0 step_0_0_1 t13 t14 c0 out_7 t12 = (b_sampler_Decode_l28x3 m (fun x0 => some x0) q_l28x3 step_0_0_0 step_0_0_1 t13 t14 c0 out_7 t12).map w_sampler_Decode := by
  simp only [b_sampler_Decode_l28x3, cond_map, bind_map, map_none, map_some, h_l28x3]
noncomputable def sampler_Decode_l28x3 (m : Nat) : Nat → Int → Int → Int → Int → State → List Event → List Event → Option (List Event)
  | 0, _, _, _, _, _, _, _ => none
  | n + 1, step_0_0_0, step_0_0_1, t13, t14, c0, out_7, t12 => b_sampler_Decode_l28x3 m (fun x0 => some x0) (fun step_0_0_0 step_0_0_1 t13 t14 c0 out_7 t12 => sampler_Decode_l28x3 m n step_0_0_0 step_0_0_1 t13 t14 c0 out_7 t12) step_0_0_0 step_0_0_1 t13 t14 c0 out_7 t12
theorem L_sampler_Decode_l28x3_eq (m : Nat) : ∀ (n : Nat) (step_0_0_0 : Int) (step_0_0_1 : Int) (t13 : Int) (t14 : Int) (c0 : State) (out_7 : List Event) (t12 : List Event), L_sampler_Decode_l28x3 m n step_0_0_0 step_0_0_1 t13 t14 c0 out_7 t12 = (sampler_Decode_l28x3 m n step_0_0_0 step_0_0_1 t13 t14 c0 out_7 t12).map w_sampler_Decode
  | 0, step_0_0_0, step_0_0_1, t13, t14, c0, out_7, t12 => by kernel_rfl
  | n + 1, step_0_0_0, step_0_0_1, t13, t14, c0, out_7, t12 => by
    rw [L_sampler_Decode_l28x3_step]
    exact b_sampler_Decode_l28x3_map m (fun step_0_0_0 step_0_0_1 t13 t14 c0 out_7 t12 => L_sampler_Decode_l28x3_eq m n step_0_0_0 step_0_0_1 t13 t14 c0 out_7 t12) step_0_0_0 step_0_0_1 t13 t14 c0 out_7 t12
noncomputable def b_sampler_Decode {R : Type} (m : Nat) (ret : List Event → Option R) (k_l28x3 : Int → Int → Int → Int → State → List Event → List Event → Option R) (c_0 : Clock) (l_1 : List Event) : Option R :=
 (sampler_Check m c_0).bind fun r0 =>
 bif r0 != 0 then
 ret []
 else
 k_l28x3 c_0.T_Num c_0.T_Den (l_1.length : Int) 0 (State.mk 0 0 0 0 0 0 0 (bs [])) [] l_1
theorem sampler_Decode_pre (m : Nat) (c_0 : Clock) (l_1 : List Event) : funK Try.prog (Ψ_sampler_Decode m) keep m 2 13 [(dS of_Clock cells_Clock of_Clock_ok).e c_0, (dRow 32).e l_1] = b_sampler_Decode m (fun x0 => some (w_sampler_Decode x0)) (fun step_0_0_0 step_0_0_1 t13 t14 c0 out_7 t12 => L_sampler_Decode_l28x3 m m step_0_0_0 step_0_0_1 t13 t14 c0 out_7 t12) c_0 l_1 := by kernel_rfl
theorem b_sampler_Decode_map (m : Nat) {k_l28x3 : Int → Int → Int → Int → State → List Event → List Event → Option (List (RV C))} {q_l28x3 : Int → Int → Int → Int → State → List Event → List Event → Option (List Event)} (h_l28x3 : ∀ step_0_0_0 step_0_0_1 t13 t14 c0 out_7 t12, k_l28x3 step_0_0_0 step_0_0_1 t13 t14 c0 out_7 t12 = (q_l28x3 step_0_0_0 step_0_0_1 t13 t14 c0 out_7 t12).map w_sampler_Decode) (c_0 : Clock) (l_1 : List Event) : b_sampler_Decode m (fun x0 => some (w_sampler_Decode x0)) k_l28x3 c_0 l_1 = (b_sampler_Decode m (fun x0 => some x0) q_l28x3 c_0 l_1).map w_sampler_Decode := by
  simp only [b_sampler_Decode, cond_map, bind_map, map_none, map_some, h_l28x3]
noncomputable def sampler_Decode (m : Nat) (c_0 : Clock) (l_1 : List Event) : Option (List Event) := b_sampler_Decode m (fun x0 => some x0) (fun step_0_0_0 step_0_0_1 t13 t14 c0 out_7 t12 => sampler_Decode_l28x3 m m step_0_0_0 step_0_0_1 t13 t14 c0 out_7 t12) c_0 l_1
theorem sampler_Decode_fun (m : Nat) (c_0 : Clock) (l_1 : List Event) : funK Try.prog (Ψ_sampler_Decode m) keep m 2 13 [(dS of_Clock cells_Clock of_Clock_ok).e c_0, (dRow 32).e l_1] = (sampler_Decode m c_0 l_1).map w_sampler_Decode := by
  rw [sampler_Decode_pre]
  exact b_sampler_Decode_map m (fun step_0_0_0 step_0_0_1 t13 t14 c0 out_7 t12 => L_sampler_Decode_l28x3_eq m m step_0_0_0 step_0_0_1 t13 t14 c0 out_7 t12) c_0 l_1
noncomputable def K_sampler_Decode (m : Nat) : KnownF C := mkK (dCons (dS of_Clock cells_Clock of_Clock_ok) (dCons (dRow 32) dNil)) (fun a => sampler_Decode m a.1 a.2.1) w_sampler_Decode
theorem K_sampler_Decode_ok (m : Nat) : KnownAt C Try.prog 13 fun l => (K_sampler_Decode m).run _ l some :=
  mkK_known good fit (Ψ_sampler_Decode_ok m) (keep := keep) (m := m) (d := 2) fun a => sampler_Decode_fun m a.1 a.2.1
/-! ### signalbench/signalbenchlaw15.lives -/
noncomputable def Ψ_law15_lives (m : Nat) : Known C := fun f => match f with
  | 27 => some (K_law15_clock m)
  | 13 => some (K_sampler_Decode m)
  | 22 => some (K_sampler_Check m)
  | _ => none
theorem Ψ_law15_lives_ok (m : Nat) : KnownOk C Try.prog (Ψ_law15_lives m) := by
  intro f φ h
  unfold Ψ_law15_lives at h
  split at h
  · injection h with h; subst h; exact K_law15_clock_ok m
  · injection h with h; subst h; exact K_sampler_Decode_ok m
  · injection h with h; subst h; exact K_sampler_Check_ok m
  · cases h
def w_law15_lives (b : Bool) : List (RV C) := [dBool.e b]
noncomputable def b_law15_lives {R : Type} (m : Nat) (ret : Bool → Option R) : Option R :=
 (sampler_Decode m (Clock.mk 4 1) [Event.mk 1 0 8 1 0 (bs []) 0, Event.mk 1 8 12 0 0 (bs []) 0]).bind fun r0 =>
 bif (r0.length : Int) == 3 then
 (bif decide (0 < (r0.length : Int)) then
 (bif (r0.getD 0 dflt_Event).Kind == 2 && ((r0.getD 0 dflt_Event).From == 0 && ((r0.getD 0 dflt_Event).To == 4 && ((r0.getD 0 dflt_Event).Value == 1 && ((r0.getD 0 dflt_Event).Aux == 0 && ((r0.getD 0 dflt_Event).Data == bs [] && ((r0.getD 0 dflt_Event).Fault == 0 && true)))))) then
 (bif decide (2 < (r0.length : Int)) then
 (bif (r0.getD 2 dflt_Event).Kind == 2 && ((r0.getD 2 dflt_Event).From == 8 && ((r0.getD 2 dflt_Event).To == 12 && ((r0.getD 2 dflt_Event).Value == 0 && ((r0.getD 2 dflt_Event).Aux == 0 && ((r0.getD 2 dflt_Event).Data == bs [] && ((r0.getD 2 dflt_Event).Fault == 0 && true)))))) then
 ((sampler_Check m (Clock.mk 4 1)).bind fun r1 =>
 ret (r1 == 0))
 else
 ret false)
 else
 none)
 else
 ret false)
 else
 none)
 else
 ret false
theorem law15_lives_pre (m : Nat) : funK Try.prog (Ψ_law15_lives m) keep m 1 9 [] = b_law15_lives m (fun x0 => some (w_law15_lives x0)) := by kernel_rfl
theorem b_law15_lives_map (m : Nat) : b_law15_lives m (fun x0 => some (w_law15_lives x0)) = (b_law15_lives m (fun x0 => some x0)).map w_law15_lives := by
  simp only [b_law15_lives, cond_map, bind_map, map_none, map_some]
noncomputable def law15_lives (m : Nat) : Option (Bool) := b_law15_lives m (fun x0 => some x0)
theorem law15_lives_fun (m : Nat) : funK Try.prog (Ψ_law15_lives m) keep m 1 9 [] = (law15_lives m).map w_law15_lives := by
  rw [law15_lives_pre]
  exact b_law15_lives_map m
noncomputable def K_law15_lives (m : Nat) : KnownF C := mkK dNil (fun a => law15_lives m) w_law15_lives
theorem K_law15_lives_ok (m : Nat) : KnownAt C Try.prog 9 fun l => (K_law15_lives m).run _ l some :=
  mkK_known good fit (Ψ_law15_lives_ok m) (keep := keep) (m := m) (d := 1) fun a => law15_lives_fun m
/-! ### signalbench/signalbenchref01.size -/
def w_ref01_size (b : Int) : List (RV C) := [(dInt .u64).e b]
noncomputable def b_ref01_size {R : Type} (m : Nat) (ret : Int → Option R) (n_0 : Int) : Option R :=
 bif decide (n_0 < 0) then
 ret (IntKind.u64.wrap (IntKind.u64.wrap (IntKind.i64.wrap (0 - IntKind.i64.wrap (n_0 + 1))) + 1))
 else
 ret (IntKind.u64.wrap n_0)
theorem ref01_size_pre (m : Nat) (n_0 : Int) : funK Try.prog Ψ0 keep m 1 45 [(dInt .i64).e n_0] = b_ref01_size m (fun x0 => some (w_ref01_size x0)) n_0 := by kernel_rfl
theorem b_ref01_size_map (m : Nat) (n_0 : Int) : b_ref01_size m (fun x0 => some (w_ref01_size x0)) n_0 = (b_ref01_size m (fun x0 => some x0) n_0).map w_ref01_size := by
  simp only [b_ref01_size, cond_map, bind_map, map_none, map_some]
noncomputable def ref01_size (m : Nat) (n_0 : Int) : Option (Int) := b_ref01_size m (fun x0 => some x0) n_0
theorem ref01_size_fun (m : Nat) (n_0 : Int) : funK Try.prog Ψ0 keep m 1 45 [(dInt .i64).e n_0] = (ref01_size m n_0).map w_ref01_size := by
  rw [ref01_size_pre]
  exact b_ref01_size_map m n_0
noncomputable def K_ref01_size (m : Nat) : KnownF C := mkK (dCons (dInt .i64) dNil) (fun a => ref01_size m a.1) w_ref01_size
theorem K_ref01_size_ok (m : Nat) : KnownAt C Try.prog 45 fun l => (K_ref01_size m).run _ l some :=
  mkK_known good fit Ψ0_ok (keep := keep) (m := m) (d := 1) fun a => ref01_size_fun m a.1
/-! ### signalbench/signalbenchref01.gcd -/
def w_ref01_gcd (b : Int) : List (RV C) := [(dInt .u64).e b]
noncomputable def Ψ_ref01_gcd (m : Nat) (F : Int → Int → Option (Int)) : Known C := fun f => match f with
  | 44 => some (mkK (dCons (dInt .u64) (dCons (dInt .u64) dNil)) (fun a => F a.1 a.2.1) w_ref01_gcd)
  | _ => none
theorem Ψ_ref01_gcd_ok (m : Nat) (F : Int → Int → Option (Int)) (hF : KnownAt C Try.prog 44 fun l => (mkK (dCons (dInt .u64) (dCons (dInt .u64) dNil)) (fun a => F a.1 a.2.1) w_ref01_gcd).run _ l some) : KnownOk C Try.prog (Ψ_ref01_gcd m F) := by
  intro f φ h
  unfold Ψ_ref01_gcd at h
  split at h
  · injection h with h; subst h; exact hF
  · cases h
noncomputable def b_ref01_gcd {R : Type} (m : Nat) (F : Int → Int → Option (Int)) (ret : Int → Option R) (a_0 : Int) (b_1 : Int) : Option R :=
 bif b_1 == 0 then
 ret a_0
 else
 bif decide (b_1 = 0) then
 none
 else
 (F b_1 (a_0.tmod b_1)).bind fun r0 =>
 ret r0
theorem ref01_gcd_pre (m : Nat) (F : Int → Int → Option (Int)) (a_0 : Int) (b_1 : Int) : funK Try.prog (Ψ_ref01_gcd m F) keep m 1 44 [(dInt .u64).e a_0, (dInt .u64).e b_1] = b_ref01_gcd m F (fun x0 => some (w_ref01_gcd x0)) a_0 b_1 := by kernel_rfl
theorem b_ref01_gcd_map (m : Nat) (F : Int → Int → Option (Int)) (a_0 : Int) (b_1 : Int) : b_ref01_gcd m F (fun x0 => some (w_ref01_gcd x0)) a_0 b_1 = (b_ref01_gcd m F (fun x0 => some x0) a_0 b_1).map w_ref01_gcd := by
  simp only [b_ref01_gcd, cond_map, bind_map, map_none, map_some]
noncomputable def ref01_gcd_at (m : Nat) : Nat → Int → Int → Option (Int)
  | 0, _, _ => none
  | n + 1, a_0, b_1 => b_ref01_gcd m (fun a_0 b_1 => ref01_gcd_at m n a_0 b_1) (fun x0 => some x0) a_0 b_1
theorem ref01_gcd_known (m : Nat) : ∀ n, KnownAt C Try.prog 44 fun l => (mkK (dCons (dInt .u64) (dCons (dInt .u64) dNil)) (fun a => ref01_gcd_at m n a.1 a.2.1) w_ref01_gcd).run _ l some
  | 0 => mkK_none
  | n + 1 => mkK_known good fit (Ψ_ref01_gcd_ok m (fun a_0 b_1 => ref01_gcd_at m n a_0 b_1) (ref01_gcd_known m n)) (keep := keep) (m := m) (d := 1) fun a => by
    refine Eq.trans (ref01_gcd_pre m (fun a_0 b_1 => ref01_gcd_at m n a_0 b_1) a.1 a.2.1) ?_
    exact b_ref01_gcd_map m (fun a_0 b_1 => ref01_gcd_at m n a_0 b_1) a.1 a.2.1
noncomputable def ref01_gcd (m : Nat) (a_0 : Int) (b_1 : Int) : Option (Int) := ref01_gcd_at m m a_0 b_1
noncomputable def K_ref01_gcd (m : Nat) : KnownF C := mkK (dCons (dInt .u64) (dCons (dInt .u64) dNil)) (fun a => ref01_gcd m a.1 a.2.1) w_ref01_gcd
theorem K_ref01_gcd_ok (m : Nat) : KnownAt C Try.prog 44 fun l => (K_ref01_gcd m).run _ l some := ref01_gcd_known m m
/-! ### signalbench/signalbenchref01.Valid -/
noncomputable def Ψ_ref01_Valid (m : Nat) : Known C := fun f => match f with
  | 45 => some (K_ref01_size m)
  | 44 => some (K_ref01_gcd m)
  | _ => none
theorem Ψ_ref01_Valid_ok (m : Nat) : KnownOk C Try.prog (Ψ_ref01_Valid m) := by
  intro f φ h
  unfold Ψ_ref01_Valid at h
  split at h
  · injection h with h; subst h; exact K_ref01_size_ok m
  · injection h with h; subst h; exact K_ref01_gcd_ok m
  · cases h
def w_ref01_Valid (b : Bool) : List (RV C) := [dBool.e b]
noncomputable def b_ref01_Valid {R : Type} (m : Nat) (ret : Bool → Option R) (r_0 : Ratio) : Option R :=
 bif decide (r_0.Den < 1) then
 ret false
 else
 bif decide (r_0.Den > 1073741824) then
 ret false
 else
 bif decide (r_0.Num < -1073741824) then
 ret false
 else
 bif decide (r_0.Num > 1073741824) then
 ret false
 else
 (ref01_size m r_0.Num).bind fun r0 =>
 (ref01_size m r_0.Den).bind fun r1 =>
 (ref01_gcd m r0 r1).bind fun r2 =>
 ret (r2 == 1)
theorem ref01_Valid_pre (m : Nat) (r_0 : Ratio) : funK Try.prog (Ψ_ref01_Valid m) keep m 1 30 [(dS of_Ratio cells_Ratio of_Ratio_ok).e r_0] = b_ref01_Valid m (fun x0 => some (w_ref01_Valid x0)) r_0 := by kernel_rfl
theorem b_ref01_Valid_map (m : Nat) (r_0 : Ratio) : b_ref01_Valid m (fun x0 => some (w_ref01_Valid x0)) r_0 = (b_ref01_Valid m (fun x0 => some x0) r_0).map w_ref01_Valid := by
  simp only [b_ref01_Valid, cond_map, bind_map, map_none, map_some]
noncomputable def ref01_Valid (m : Nat) (r_0 : Ratio) : Option (Bool) := b_ref01_Valid m (fun x0 => some x0) r_0
theorem ref01_Valid_fun (m : Nat) (r_0 : Ratio) : funK Try.prog (Ψ_ref01_Valid m) keep m 1 30 [(dS of_Ratio cells_Ratio of_Ratio_ok).e r_0] = (ref01_Valid m r_0).map w_ref01_Valid := by
  rw [ref01_Valid_pre]
  exact b_ref01_Valid_map m r_0
noncomputable def K_ref01_Valid (m : Nat) : KnownF C := mkK (dCons (dS of_Ratio cells_Ratio of_Ratio_ok) dNil) (fun a => ref01_Valid m a.1) w_ref01_Valid
theorem K_ref01_Valid_ok (m : Nat) : KnownAt C Try.prog 30 fun l => (K_ref01_Valid m).run _ l some :=
  mkK_known good fit (Ψ_ref01_Valid_ok m) (keep := keep) (m := m) (d := 1) fun a => ref01_Valid_fun m a.1
/-! ### signalbench/signalbenchref15.Check -/
noncomputable def Ψ_ref15_Check (m : Nat) : Known C := fun f => match f with
  | 30 => some (K_ref01_Valid m)
  | _ => none
theorem Ψ_ref15_Check_ok (m : Nat) : KnownOk C Try.prog (Ψ_ref15_Check m) := by
  intro f φ h
  unfold Ψ_ref15_Check at h
  split at h
  · injection h with h; subst h; exact K_ref01_Valid_ok m
  · cases h
def w_ref15_Check (b : Int) : List (RV C) := [(dInt .i64).e b]
noncomputable def b_ref15_Check {R : Type} (m : Nat) (ret : Int → Option R) (c_0 : Clock) : Option R :=
 (ref01_Valid m (Ratio.mk c_0.T_Num c_0.T_Den)).bind fun r0 =>
 bif !r0 then
 ret 1
 else
 bif decide (c_0.T_Num < IntKind.i64.wrap (4 * c_0.T_Den)) then
 ret 2
 else
 bif decide (c_0.T_Num > IntKind.i64.wrap (1048576 * c_0.T_Den)) then
 ret 2
 else
 ret 0
theorem ref15_Check_pre (m : Nat) (c_0 : Clock) : funK Try.prog (Ψ_ref15_Check m) keep m 1 14 [(dS of_Clock cells_Clock of_Clock_ok).e c_0] = b_ref15_Check m (fun x0 => some (w_ref15_Check x0)) c_0 := by kernel_rfl
theorem b_ref15_Check_map (m : Nat) (c_0 : Clock) : b_ref15_Check m (fun x0 => some (w_ref15_Check x0)) c_0 = (b_ref15_Check m (fun x0 => some x0) c_0).map w_ref15_Check := by
  simp only [b_ref15_Check, cond_map, bind_map, map_none, map_some]
noncomputable def ref15_Check (m : Nat) (c_0 : Clock) : Option (Int) := b_ref15_Check m (fun x0 => some x0) c_0
theorem ref15_Check_fun (m : Nat) (c_0 : Clock) : funK Try.prog (Ψ_ref15_Check m) keep m 1 14 [(dS of_Clock cells_Clock of_Clock_ok).e c_0] = (ref15_Check m c_0).map w_ref15_Check := by
  rw [ref15_Check_pre]
  exact b_ref15_Check_map m c_0
noncomputable def K_ref15_Check (m : Nat) : KnownF C := mkK (dCons (dS of_Clock cells_Clock of_Clock_ok) dNil) (fun a => ref15_Check m a.1) w_ref15_Check
theorem K_ref15_Check_ok (m : Nat) : KnownAt C Try.prog 14 fun l => (K_ref15_Check m).run _ l some :=
  mkK_known good fit (Ψ_ref15_Check_ok m) (keep := keep) (m := m) (d := 1) fun a => ref15_Check_fun m a.1
/-! ### signalbench/signalbenchlaw15.short -/
noncomputable def Ψ_law15_short (m : Nat) : Known C := fun f => match f with
  | 14 => some (K_ref15_Check m)
  | _ => none
theorem Ψ_law15_short_ok (m : Nat) : KnownOk C Try.prog (Ψ_law15_short m) := by
  intro f φ h
  unfold Ψ_law15_short at h
  split at h
  · injection h with h; subst h; exact K_ref15_Check_ok m
  · cases h
def w_law15_short (b : Bool) : List (RV C) := [dBool.e b]
noncomputable def Q_law15_short_7 (m : Nat) : St C → (Exit → St C → Option (List (RV C))) → Option (List (RV C)) := fun σ k => codeK Try.prog (Ψ_law15_short m) (callK Try.prog (Ψ_law15_short m) keep m 0) (keep 10) m (subC body10 [.r, .r, .r, .r, .l, .r, .b, .o]) σ k
noncomputable def KL_law15_short_7 (m : Nat) : Exit → St C → Option (List (RV C)) := contK Try.prog (Ψ_law15_short m) (callK Try.prog (Ψ_law15_short m) keep m 0) (keep 10) m body10 [.r, .r, .r, .r, .l, .r, .b, .o] (leaveK Try.prog Try.f10.results.toList (finK Try.prog Try.f10.resultTypes.toList))
noncomputable def L_law15_short_l7 (m n : Nat) (n_5 : Int) (i_6 : Int) (l_1 : List Event) (c1 : Clock) : Option (List (RV C)) := iterK (Q_law15_short_7 m) (St.norm (keep 10 7)) n ({ T := [.dead, .fl (.one (.sl 0)), .fl (.one (.ptr 1 0)), .dead, .dead, .fl (.one (.int .i64 n_5)), .fl (.one (.int .i64 i_6))] ++ List.replicate 63 .dead, F := [[]], H := [.row 32 false l_1, .box 25 (cells_Clock c1)] } : St C) (KL_law15_short_7 m)
noncomputable def b_law15_short_l7 {R : Type} (m : Nat) (ret : Bool → Option R) (k_l7 : Int → Int → List Event → Clock → Option R) (n_5 : Int) (i_6 : Int) (l_1 : List Event) (c1 : Clock) : Option R :=
 bif decide (i_6 < (l_1.length : Int)) then
 bif decide (0 ≤ i_6) then
 bif decide (i_6 < (l_1.length : Int)) then
 bif decide ((l_1.getD i_6.toNat dflt_Event).From ≥ 0) then
 bif decide (0 ≤ i_6) then
 bif decide (i_6 < (l_1.length : Int)) then
 bif decide (0 ≤ i_6) then
 bif decide (i_6 < (l_1.length : Int)) then
 bif decide ((l_1.getD i_6.toNat dflt_Event).To > (l_1.getD i_6.toNat dflt_Event).From) then
 bif decide (0 ≤ i_6) then
 bif decide (i_6 < (l_1.length : Int)) then
 bif decide ((l_1.getD i_6.toNat dflt_Event).To ≤ 1099511627776) then
 bif decide (0 ≤ i_6) then
 bif decide (i_6 < (l_1.length : Int)) then
 bif decide (0 ≤ i_6) then
 bif decide (i_6 < (l_1.length : Int)) then
 bif decide (c1.T_Den = 0) then
 none
 else
 bif decide (IntKind.i64.wrap (c1.T_Num.tdiv c1.T_Den) = 0) then
 none
 else
 bif decide (IntKind.i64.wrap (IntKind.i64.wrap (n_5 + IntKind.i64.wrap ((IntKind.i64.wrap ((l_1.getD i_6.toNat dflt_Event).To - (l_1.getD i_6.toNat dflt_Event).From)).tdiv (IntKind.i64.wrap (c1.T_Num.tdiv c1.T_Den)))) + 1) > 20000) then
 ret false
 else
 k_l7 (IntKind.i64.wrap (IntKind.i64.wrap (n_5 + IntKind.i64.wrap ((IntKind.i64.wrap ((l_1.getD i_6.toNat dflt_Event).To - (l_1.getD i_6.toNat dflt_Event).From)).tdiv (IntKind.i64.wrap (c1.T_Num.tdiv c1.T_Den)))) + 1)) (IntKind.i64.wrap (i_6 + 1)) l_1 c1
 else
 none
 else
 none
 else
 none
 else
 none
 else
 bif decide (n_5 > 20000) then
 ret false
 else
 k_l7 n_5 (IntKind.i64.wrap (i_6 + 1)) l_1 c1
 else
 none
 else
 none
 else
 bif decide (n_5 > 20000) then
 ret false
 else
 k_l7 n_5 (IntKind.i64.wrap (i_6 + 1)) l_1 c1
 else
 none
 else
 none
 else
 none
 else
 none
 else
 bif decide (n_5 > 20000) then
 ret false
 else
 k_l7 n_5 (IntKind.i64.wrap (i_6 + 1)) l_1 c1
 else
 none
 else
 none
 else
 ret true
theorem L_law15_short_l7_step (m n : Nat) (n_5 : Int) (i_6 : Int) (l_1 : List Event) (c1 : Clock) : L_law15_short_l7 m (n + 1) n_5 i_6 l_1 c1 = b_law15_short_l7 m (fun x0 => some (w_law15_short x0)) (fun n_5 i_6 l_1 c1 => L_law15_short_l7 m n n_5 i_6 l_1 c1) n_5 i_6 l_1 c1 := by kernel_rfl
theorem b_law15_short_l7_map (m : Nat) {k_l7 : Int → Int → List Event → Clock → Option (List (RV C))} {q_l7 : Int → Int → List Event → Clock → Option (Bool)} (h_l7 : ∀ n_5 i_6 l_1 c1, k_l7 n_5 i_6 l_1 c1 = (q_l7 n_5 i_6 l_1 c1).map w_law15_short) (n_5 : Int) (i_6 : Int) (l_1 : List Event) (c1 : Clock) : b_law15_short_l7 m (fun x0 => some (w_law15_short x0)) k_l7 n_5 i_6 l_1 c1 = (b_law15_short_l7 m (fun x0 => some x0) q_l7 n_5 i_6 l_1 c1).map w_law15_short := by
  simp only [b_law15_short_l7, cond_map, bind_map, map_none, map_some, h_l7]
noncomputable def law15_short_l7 (m : Nat) : Nat → Int → Int → List Event → Clock → Option (Bool)
  | 0, _, _, _, _ => none
  | n + 1, n_5, i_6, l_1, c1 => b_law15_short_l7 m (fun x0 => some x0) (fun n_5 i_6 l_1 c1 => law15_short_l7 m n n_5 i_6 l_1 c1) n_5 i_6 l_1 c1
theorem L_law15_short_l7_eq (m : Nat) : ∀ (n : Nat) (n_5 : Int) (i_6 : Int) (l_1 : List Event) (c1 : Clock), L_law15_short_l7 m n n_5 i_6 l_1 c1 = (law15_short_l7 m n n_5 i_6 l_1 c1).map w_law15_short
  | 0, n_5, i_6, l_1, c1 => by kernel_rfl
  | n + 1, n_5, i_6, l_1, c1 => by
    rw [L_law15_short_l7_step]
    exact b_law15_short_l7_map m (fun n_5 i_6 l_1 c1 => L_law15_short_l7_eq m n n_5 i_6 l_1 c1) n_5 i_6 l_1 c1
noncomputable def b_law15_short {R : Type} (m : Nat) (ret : Bool → Option R) (k_l7 : Int → Int → List Event → Clock → Option R) (c_0 : Clock) (l_1 : List Event) : Option R :=
 bif decide ((l_1.length : Int) > 400) then
 ret false
 else
 (ref15_Check m c_0).bind fun r0 =>
 bif r0 != 0 then
 ret true
 else
 k_l7 0 0 l_1 c_0
theorem law15_short_pre (m : Nat) (c_0 : Clock) (l_1 : List Event) : funK Try.prog (Ψ_law15_short m) keep m 1 10 [(dS of_Clock cells_Clock of_Clock_ok).e c_0, (dRow 32).e l_1] = b_law15_short m (fun x0 => some (w_law15_short x0)) (fun n_5 i_6 l_1 c1 => L_law15_short_l7 m m n_5 i_6 l_1 c1) c_0 l_1 := by kernel_rfl
theorem b_law15_short_map (m : Nat) {k_l7 : Int → Int → List Event → Clock → Option (List (RV C))} {q_l7 : Int → Int → List Event → Clock → Option (Bool)} (h_l7 : ∀ n_5 i_6 l_1 c1, k_l7 n_5 i_6 l_1 c1 = (q_l7 n_5 i_6 l_1 c1).map w_law15_short) (c_0 : Clock) (l_1 : List Event) : b_law15_short m (fun x0 => some (w_law15_short x0)) k_l7 c_0 l_1 = (b_law15_short m (fun x0 => some x0) q_l7 c_0 l_1).map w_law15_short := by
  simp only [b_law15_short, cond_map, bind_map, map_none, map_some, h_l7]
noncomputable def law15_short (m : Nat) (c_0 : Clock) (l_1 : List Event) : Option (Bool) := b_law15_short m (fun x0 => some x0) (fun n_5 i_6 l_1 c1 => law15_short_l7 m m n_5 i_6 l_1 c1) c_0 l_1
theorem law15_short_fun (m : Nat) (c_0 : Clock) (l_1 : List Event) : funK Try.prog (Ψ_law15_short m) keep m 1 10 [(dS of_Clock cells_Clock of_Clock_ok).e c_0, (dRow 32).e l_1] = (law15_short m c_0 l_1).map w_law15_short := by
  rw [law15_short_pre]
  exact b_law15_short_map m (fun n_5 i_6 l_1 c1 => L_law15_short_l7_eq m m n_5 i_6 l_1 c1) c_0 l_1
noncomputable def K_law15_short (m : Nat) : KnownF C := mkK (dCons (dS of_Clock cells_Clock of_Clock_ok) (dCons (dRow 32) dNil)) (fun a => law15_short m a.1 a.2.1) w_law15_short
theorem K_law15_short_ok (m : Nat) : KnownAt C Try.prog 10 fun l => (K_law15_short m).run _ l some :=
  mkK_known good fit (Ψ_law15_short_ok m) (keep := keep) (m := m) (d := 1) fun a => law15_short_fun m a.1 a.2.1
/-! ### signalbench/signalbenchlaw15.chained -/
def w_law15_chained (b : Bool) : List (RV C) := [dBool.e b]
noncomputable def Q_law15_chained_2 (m : Nat) : St C → (Exit → St C → Option (List (RV C))) → Option (List (RV C)) := fun σ k => codeK Try.prog Ψ0 (callK Try.prog Ψ0 keep m 0) (keep 11) m (subC body11 [.r, .l, .r, .b, .o]) σ k
noncomputable def KL_law15_chained_2 (m : Nat) : Exit → St C → Option (List (RV C)) := contK Try.prog Ψ0 (callK Try.prog Ψ0 keep m 0) (keep 11) m body11 [.r, .l, .r, .b, .o] (leaveK Try.prog Try.f11.results.toList (finK Try.prog Try.f11.resultTypes.toList))
noncomputable def L_law15_chained_l2 (m n : Nat) (i_3 : Int) (l_0 : List Event) : Option (List (RV C)) := iterK (Q_law15_chained_2 m) (St.norm (keep 11 2)) n ({ T := [.fl (.one (.sl 0)), .dead, .dead, .fl (.one (.int .i64 i_3))] ++ List.replicate 71 .dead, F := [[]], H := [.row 32 false l_0] } : St C) (KL_law15_chained_2 m)
noncomputable def b_law15_chained_l2 {R : Type} (m : Nat) (ret : Bool → Option R) (k_l2 : Int → List Event → Option R) (i_3 : Int) (l_0 : List Event) : Option R :=
 bif decide (i_3 < (l_0.length : Int)) then
 bif decide (0 ≤ i_3) then
 bif decide (i_3 < (l_0.length : Int)) then
 bif (l_0.getD i_3.toNat dflt_Event).Kind != 1 then
 ret false
 else
 bif decide ((l_0.getD i_3.toNat dflt_Event).From < 0) then
 ret false
 else
 bif decide ((l_0.getD i_3.toNat dflt_Event).From ≥ (l_0.getD i_3.toNat dflt_Event).To) then
 ret false
 else
 bif decide ((l_0.getD i_3.toNat dflt_Event).To > 1099511627776) then
 ret false
 else
 bif decide ((l_0.getD i_3.toNat dflt_Event).Value < 0) then
 ret false
 else
 bif decide ((l_0.getD i_3.toNat dflt_Event).Value > 1) then
 ret false
 else
 bif (l_0.getD i_3.toNat dflt_Event).Fault != 0 then
 ret false
 else
 bif (l_0.getD i_3.toNat dflt_Event).Aux != 0 then
 ret false
 else
 bif !(l_0.getD i_3.toNat dflt_Event).Data.toList == (bs []).toList then
 ret false
 else
 bif decide (i_3 > 0) then
 bif decide (0 ≤ IntKind.i64.wrap (i_3 - 1)) then
 bif decide (IntKind.i64.wrap (i_3 - 1) < (l_0.length : Int)) then
 bif (l_0.getD i_3.toNat dflt_Event).From != (l_0.getD (IntKind.i64.wrap (i_3 - 1)).toNat dflt_Event).To then
 ret false
 else
 k_l2 (IntKind.i64.wrap (i_3 + 1)) l_0
 else
 none
 else
 none
 else
 k_l2 (IntKind.i64.wrap (i_3 + 1)) l_0
 else
 none
 else
 none
 else
 ret true
theorem L_law15_chained_l2_step (m n : Nat) (i_3 : Int) (l_0 : List Event) : L_law15_chained_l2 m (n + 1) i_3 l_0 = b_law15_chained_l2 m (fun x0 => some (w_law15_chained x0)) (fun i_3 l_0 => L_law15_chained_l2 m n i_3 l_0) i_3 l_0 := by kernel_rfl
theorem b_law15_chained_l2_map (m : Nat) {k_l2 : Int → List Event → Option (List (RV C))} {q_l2 : Int → List Event → Option (Bool)} (h_l2 : ∀ i_3 l_0, k_l2 i_3 l_0 = (q_l2 i_3 l_0).map w_law15_chained) (i_3 : Int) (l_0 : List Event) : b_law15_chained_l2 m (fun x0 => some (w_law15_chained x0)) k_l2 i_3 l_0 = (b_law15_chained_l2 m (fun x0 => some x0) q_l2 i_3 l_0).map w_law15_chained := by
  simp only [b_law15_chained_l2, cond_map, bind_map, map_none, map_some, h_l2]
noncomputable def law15_chained_l2 (m : Nat) : Nat → Int → List Event → Option (Bool)
  | 0, _, _ => none
  | n + 1, i_3, l_0 => b_law15_chained_l2 m (fun x0 => some x0) (fun i_3 l_0 => law15_chained_l2 m n i_3 l_0) i_3 l_0
theorem L_law15_chained_l2_eq (m : Nat) : ∀ (n : Nat) (i_3 : Int) (l_0 : List Event), L_law15_chained_l2 m n i_3 l_0 = (law15_chained_l2 m n i_3 l_0).map w_law15_chained
  | 0, i_3, l_0 => by kernel_rfl
  | n + 1, i_3, l_0 => by
    rw [L_law15_chained_l2_step]
    exact b_law15_chained_l2_map m (fun i_3 l_0 => L_law15_chained_l2_eq m n i_3 l_0) i_3 l_0
noncomputable def b_law15_chained {R : Type} (m : Nat) (ret : Bool → Option R) (k_l2 : Int → List Event → Option R) (l_0 : List Event) : Option R :=
 k_l2 0 l_0
theorem law15_chained_pre (m : Nat) (l_0 : List Event) : funK Try.prog Ψ0 keep m 1 11 [(dRow 32).e l_0] = b_law15_chained m (fun x0 => some (w_law15_chained x0)) (fun i_3 l_0 => L_law15_chained_l2 m m i_3 l_0) l_0 := by kernel_rfl
theorem b_law15_chained_map (m : Nat) {k_l2 : Int → List Event → Option (List (RV C))} {q_l2 : Int → List Event → Option (Bool)} (h_l2 : ∀ i_3 l_0, k_l2 i_3 l_0 = (q_l2 i_3 l_0).map w_law15_chained) (l_0 : List Event) : b_law15_chained m (fun x0 => some (w_law15_chained x0)) k_l2 l_0 = (b_law15_chained m (fun x0 => some x0) q_l2 l_0).map w_law15_chained := by
  simp only [b_law15_chained, cond_map, bind_map, map_none, map_some, h_l2]
noncomputable def law15_chained (m : Nat) (l_0 : List Event) : Option (Bool) := b_law15_chained m (fun x0 => some x0) (fun i_3 l_0 => law15_chained_l2 m m i_3 l_0) l_0
theorem law15_chained_fun (m : Nat) (l_0 : List Event) : funK Try.prog Ψ0 keep m 1 11 [(dRow 32).e l_0] = (law15_chained m l_0).map w_law15_chained := by
  rw [law15_chained_pre]
  exact b_law15_chained_map m (fun i_3 l_0 => L_law15_chained_l2_eq m m i_3 l_0) l_0
noncomputable def K_law15_chained (m : Nat) : KnownF C := mkK (dCons (dRow 32) dNil) (fun a => law15_chained m a.1) w_law15_chained
theorem K_law15_chained_ok (m : Nat) : KnownAt C Try.prog 11 fun l => (K_law15_chained m).run _ l some :=
  mkK_known good fit Ψ0_ok (keep := keep) (m := m) (d := 1) fun a => law15_chained_fun m a.1
/-! ### signalbench/signalbenchlaw15.same -/
def w_law15_same (b : Bool) : List (RV C) := [dBool.e b]
noncomputable def Q_law15_same_4 (m : Nat) : St C → (Exit → St C → Option (List (RV C))) → Option (List (RV C)) := fun σ k => codeK Try.prog Ψ0 (callK Try.prog Ψ0 keep m 0) (keep 12) m (subC body12 [.r, .r, .l, .r, .b, .o]) σ k
noncomputable def KL_law15_same_4 (m : Nat) : Exit → St C → Option (List (RV C)) := contK Try.prog Ψ0 (callK Try.prog Ψ0 keep m 0) (keep 12) m body12 [.r, .r, .l, .r, .b, .o] (leaveK Try.prog Try.f12.results.toList (finK Try.prog Try.f12.resultTypes.toList))
noncomputable def L_law15_same_l4 (m n : Nat) (i_5 : Int) (a_0 : List Event) (b_1 : List Event) : Option (List (RV C)) := iterK (Q_law15_same_4 m) (St.norm (keep 12 4)) n ({ T := [.fl (.one (.sl 0)), .fl (.one (.sl 1)), .dead, .dead, .dead, .fl (.one (.int .i64 i_5))] ++ List.replicate 20 .dead, F := [[]], H := [.row 32 false a_0, .row 32 false b_1] } : St C) (KL_law15_same_4 m)
noncomputable def b_law15_same_l4 {R : Type} (m : Nat) (ret : Bool → Option R) (k_l4 : Int → List Event → List Event → Option R) (i_5 : Int) (a_0 : List Event) (b_1 : List Event) : Option R :=
 bif decide (i_5 < (a_0.length : Int)) then
 bif decide (0 ≤ i_5) then
 bif decide (i_5 < (a_0.length : Int)) then
 bif decide (0 ≤ i_5) then
 bif decide (i_5 < (b_1.length : Int)) then
 bif !((a_0.getD i_5.toNat dflt_Event).Kind == (b_1.getD i_5.toNat dflt_Event).Kind && ((a_0.getD i_5.toNat dflt_Event).From == (b_1.getD i_5.toNat dflt_Event).From && ((a_0.getD i_5.toNat dflt_Event).To == (b_1.getD i_5.toNat dflt_Event).To && ((a_0.getD i_5.toNat dflt_Event).Value == (b_1.getD i_5.toNat dflt_Event).Value && ((a_0.getD i_5.toNat dflt_Event).Aux == (b_1.getD i_5.toNat dflt_Event).Aux && ((a_0.getD i_5.toNat dflt_Event).Data == (b_1.getD i_5.toNat dflt_Event).Data && ((a_0.getD i_5.toNat dflt_Event).Fault == (b_1.getD i_5.toNat dflt_Event).Fault && true))))))) then
 ret false
 else
 k_l4 (IntKind.i64.wrap (i_5 + 1)) a_0 b_1
 else
 none
 else
 none
 else
 none
 else
 none
 else
 ret true
theorem L_law15_same_l4_step (m n : Nat) (i_5 : Int) (a_0 : List Event) (b_1 : List Event) : L_law15_same_l4 m (n + 1) i_5 a_0 b_1 = b_law15_same_l4 m (fun x0 => some (w_law15_same x0)) (fun i_5 a_0 b_1 => L_law15_same_l4 m n i_5 a_0 b_1) i_5 a_0 b_1 := by kernel_rfl
theorem b_law15_same_l4_map (m : Nat) {k_l4 : Int → List Event → List Event → Option (List (RV C))} {q_l4 : Int → List Event → List Event → Option (Bool)} (h_l4 : ∀ i_5 a_0 b_1, k_l4 i_5 a_0 b_1 = (q_l4 i_5 a_0 b_1).map w_law15_same) (i_5 : Int) (a_0 : List Event) (b_1 : List Event) : b_law15_same_l4 m (fun x0 => some (w_law15_same x0)) k_l4 i_5 a_0 b_1 = (b_law15_same_l4 m (fun x0 => some x0) q_l4 i_5 a_0 b_1).map w_law15_same := by
  simp only [b_law15_same_l4, cond_map, bind_map, map_none, map_some, h_l4]
noncomputable def law15_same_l4 (m : Nat) : Nat → Int → List Event → List Event → Option (Bool)
  | 0, _, _, _ => none
  | n + 1, i_5, a_0, b_1 => b_law15_same_l4 m (fun x0 => some x0) (fun i_5 a_0 b_1 => law15_same_l4 m n i_5 a_0 b_1) i_5 a_0 b_1
theorem L_law15_same_l4_eq (m : Nat) : ∀ (n : Nat) (i_5 : Int) (a_0 : List Event) (b_1 : List Event), L_law15_same_l4 m n i_5 a_0 b_1 = (law15_same_l4 m n i_5 a_0 b_1).map w_law15_same
  | 0, i_5, a_0, b_1 => by kernel_rfl
  | n + 1, i_5, a_0, b_1 => by
    rw [L_law15_same_l4_step]
    exact b_law15_same_l4_map m (fun i_5 a_0 b_1 => L_law15_same_l4_eq m n i_5 a_0 b_1) i_5 a_0 b_1
noncomputable def b_law15_same {R : Type} (m : Nat) (ret : Bool → Option R) (k_l4 : Int → List Event → List Event → Option R) (a_0 : List Event) (b_1 : List Event) : Option R :=
 bif (a_0.length : Int) != (b_1.length : Int) then
 ret false
 else
 k_l4 0 a_0 b_1
theorem law15_same_pre (m : Nat) (a_0 : List Event) (b_1 : List Event) : funK Try.prog Ψ0 keep m 1 12 [(dRow 32).e a_0, (dRow 32).e b_1] = b_law15_same m (fun x0 => some (w_law15_same x0)) (fun i_5 a_0 b_1 => L_law15_same_l4 m m i_5 a_0 b_1) a_0 b_1 := by kernel_rfl
theorem b_law15_same_map (m : Nat) {k_l4 : Int → List Event → List Event → Option (List (RV C))} {q_l4 : Int → List Event → List Event → Option (Bool)} (h_l4 : ∀ i_5 a_0 b_1, k_l4 i_5 a_0 b_1 = (q_l4 i_5 a_0 b_1).map w_law15_same) (a_0 : List Event) (b_1 : List Event) : b_law15_same m (fun x0 => some (w_law15_same x0)) k_l4 a_0 b_1 = (b_law15_same m (fun x0 => some x0) q_l4 a_0 b_1).map w_law15_same := by
  simp only [b_law15_same, cond_map, bind_map, map_none, map_some, h_l4]
noncomputable def law15_same (m : Nat) (a_0 : List Event) (b_1 : List Event) : Option (Bool) := b_law15_same m (fun x0 => some x0) (fun i_5 a_0 b_1 => law15_same_l4 m m i_5 a_0 b_1) a_0 b_1
theorem law15_same_fun (m : Nat) (a_0 : List Event) (b_1 : List Event) : funK Try.prog Ψ0 keep m 1 12 [(dRow 32).e a_0, (dRow 32).e b_1] = (law15_same m a_0 b_1).map w_law15_same := by
  rw [law15_same_pre]
  exact b_law15_same_map m (fun i_5 a_0 b_1 => L_law15_same_l4_eq m m i_5 a_0 b_1) a_0 b_1
noncomputable def K_law15_same (m : Nat) : KnownF C := mkK (dCons (dRow 32) (dCons (dRow 32) dNil)) (fun a => law15_same m a.1 a.2.1) w_law15_same
theorem K_law15_same_ok (m : Nat) : KnownAt C Try.prog 12 fun l => (K_law15_same m).run _ l some :=
  mkK_known good fit Ψ0_ok (keep := keep) (m := m) (d := 1) fun a => law15_same_fun m a.1 a.2.1
/-! ### signalbench/signalbenchlaw15.SamplerPieces -/
noncomputable def Ψ_law15_SamplerPieces (m : Nat) : Known C := fun f => match f with
  | 9 => some (K_law15_lives m)
  | 10 => some (K_law15_short m)
  | 11 => some (K_law15_chained m)
  | 13 => some (K_sampler_Decode m)
  | 12 => some (K_law15_same m)
  | _ => none
theorem Ψ_law15_SamplerPieces_ok (m : Nat) : KnownOk C Try.prog (Ψ_law15_SamplerPieces m) := by
  intro f φ h
  unfold Ψ_law15_SamplerPieces at h
  split at h
  · injection h with h; subst h; exact K_law15_lives_ok m
  · injection h with h; subst h; exact K_law15_short_ok m
  · injection h with h; subst h; exact K_law15_chained_ok m
  · injection h with h; subst h; exact K_sampler_Decode_ok m
  · injection h with h; subst h; exact K_law15_same_ok m
  · cases h
def w_law15_SamplerPieces (b : Bool) : List (RV C) := [dBool.e b]
noncomputable def Q_law15_SamplerPieces_7 (m : Nat) : St C → (Exit → St C → Option (List (RV C))) → Option (List (RV C)) := fun σ k => codeK Try.prog (Ψ_law15_SamplerPieces m) (callK Try.prog (Ψ_law15_SamplerPieces m) keep m 0) (keep 3) m (subC body3 [.r, .r, .r, .r, .l, .r, .b, .o]) σ k
noncomputable def KL_law15_SamplerPieces_7 (m : Nat) : Exit → St C → Option (List (RV C)) := contK Try.prog (Ψ_law15_SamplerPieces m) (callK Try.prog (Ψ_law15_SamplerPieces m) keep m 0) (keep 3) m body3 [.r, .r, .r, .r, .l, .r, .b, .o] (leaveK Try.prog Try.f3.results.toList (finK Try.prog Try.f3.resultTypes.toList))
noncomputable def L_law15_SamplerPieces_l7 (m n : Nat) (i_8 : Int) (l_1 : List Event) (cuts_2 : List Int) (c2 : Clock) (in_7 : List Event) : Option (List (RV C)) := iterK (Q_law15_SamplerPieces_7 m) (St.norm (keep 3 7)) n ({ T := [.dead, .fl (.one (.sl 0)), .fl (.one (.sl 1)), .fl (.one (.ptr 2 0)), .dead, .dead, .dead, .fl (.one (.sl 3)), .fl (.one (.int .i64 i_8))] ++ List.replicate 77 .dead, F := [[]], H := [.row 32 false l_1, .row 3 false cuts_2, .box 25 (cells_Clock c2), .row 32 true in_7] } : St C) (KL_law15_SamplerPieces_7 m)
noncomputable def b_law15_SamplerPieces_l7 {R : Type} (m : Nat) (ret : Bool → Option R) (k_l7 : Int → List Event → List Int → Clock → List Event → Option R) (i_8 : Int) (l_1 : List Event) (cuts_2 : List Int) (c2 : Clock) (in_7 : List Event) : Option R :=
 bif decide (i_8 < (l_1.length : Int)) then
 bif decide (0 ≤ i_8) then
 bif decide (i_8 < (l_1.length : Int)) then
 bif decide (i_8 < (cuts_2.length : Int)) then
 bif decide (0 ≤ i_8) then
 bif decide (i_8 < (cuts_2.length : Int)) then
 bif decide ((l_1.getD i_8.toNat dflt_Event).From < cuts_2.getD i_8.toNat 0) then
 bif decide (0 ≤ i_8) then
 bif decide (i_8 < (cuts_2.length : Int)) then
 bif decide (cuts_2.getD i_8.toNat 0 < (l_1.getD i_8.toNat dflt_Event).To) then
 bif decide (0 ≤ i_8) then
 bif decide (i_8 < (cuts_2.length : Int)) then
 bif decide (0 ≤ i_8) then
 bif decide (i_8 < (cuts_2.length : Int)) then
 bif decide ((in_7.length + 1) * 64 ≤ 140737488355328) then
 bif decide (((in_7 ++ [Event.mk (l_1.getD i_8.toNat dflt_Event).Kind (l_1.getD i_8.toNat dflt_Event).From (cuts_2.getD i_8.toNat 0) (l_1.getD i_8.toNat dflt_Event).Value (l_1.getD i_8.toNat dflt_Event).Aux (l_1.getD i_8.toNat dflt_Event).Data (l_1.getD i_8.toNat dflt_Event).Fault]).length + 1) * 64 ≤ 140737488355328) then
 k_l7 (IntKind.i64.wrap (i_8 + 1)) l_1 cuts_2 c2 (in_7 ++ [Event.mk (l_1.getD i_8.toNat dflt_Event).Kind (l_1.getD i_8.toNat dflt_Event).From (cuts_2.getD i_8.toNat 0) (l_1.getD i_8.toNat dflt_Event).Value (l_1.getD i_8.toNat dflt_Event).Aux (l_1.getD i_8.toNat dflt_Event).Data (l_1.getD i_8.toNat dflt_Event).Fault] ++ [Event.mk (l_1.getD i_8.toNat dflt_Event).Kind (cuts_2.getD i_8.toNat 0) (l_1.getD i_8.toNat dflt_Event).To (l_1.getD i_8.toNat dflt_Event).Value (l_1.getD i_8.toNat dflt_Event).Aux (l_1.getD i_8.toNat dflt_Event).Data (l_1.getD i_8.toNat dflt_Event).Fault])
 else
 none
 else
 none
 else
 none
 else
 none
 else
 none
 else
 none
 else
 bif decide ((in_7.length + 1) * 64 ≤ 140737488355328) then
 k_l7 (IntKind.i64.wrap (i_8 + 1)) l_1 cuts_2 c2 (in_7 ++ [l_1.getD i_8.toNat dflt_Event])
 else
 none
 else
 none
 else
 none
 else
 bif decide ((in_7.length + 1) * 64 ≤ 140737488355328) then
 k_l7 (IntKind.i64.wrap (i_8 + 1)) l_1 cuts_2 c2 (in_7 ++ [l_1.getD i_8.toNat dflt_Event])
 else
 none
 else
 none
 else
 none
 else
 bif decide ((in_7.length + 1) * 64 ≤ 140737488355328) then
 k_l7 (IntKind.i64.wrap (i_8 + 1)) l_1 cuts_2 c2 (in_7 ++ [l_1.getD i_8.toNat dflt_Event])
 else
 none
 else
 none
 else
 none
 else
 (sampler_Decode m c2 l_1).bind fun r0 =>
 (sampler_Decode m c2 in_7).bind fun r1 =>
 (law15_same m r0 r1).bind fun r2 =>
 ret r2
theorem L_law15_SamplerPieces_l7_step (m n : Nat) (i_8 : Int) (l_1 : List Event) (cuts_2 : List Int) (c2 : Clock) (in_7 : List Event) : L_law15_SamplerPieces_l7 m (n + 1) i_8 l_1 cuts_2 c2 in_7 = b_law15_SamplerPieces_l7 m (fun x0 => some (w_law15_SamplerPieces x0)) (fun i_8 l_1 cuts_2 c2 in_7 => L_law15_SamplerPieces_l7 m n i_8 l_1 cuts_2 c2 in_7) i_8 l_1 cuts_2 c2 in_7 := by kernel_rfl
theorem b_law15_SamplerPieces_l7_map (m : Nat) {k_l7 : Int → List Event → List Int → Clock → List Event → Option (List (RV C))} {q_l7 : Int → List Event → List Int → Clock → List Event → Option (Bool)} (h_l7 : ∀ i_8 l_1 cuts_2 c2 in_7, k_l7 i_8 l_1 cuts_2 c2 in_7 = (q_l7 i_8 l_1 cuts_2 c2 in_7).map w_law15_SamplerPieces) (i_8 : Int) (l_1 : List Event) (cuts_2 : List Int) (c2 : Clock) (in_7 : List Event) : b_law15_SamplerPieces_l7 m (fun x0 => some (w_law15_SamplerPieces x0)) k_l7 i_8 l_1 cuts_2 c2 in_7 = (b_law15_SamplerPieces_l7 m (fun x0 => some x0) q_l7 i_8 l_1 cuts_2 c2 in_7).map w_law15_SamplerPieces := by
  simp only [b_law15_SamplerPieces_l7, cond_map, bind_map, map_none, map_some, h_l7]
noncomputable def law15_SamplerPieces_l7 (m : Nat) : Nat → Int → List Event → List Int → Clock → List Event → Option (Bool)
  | 0, _, _, _, _, _ => none
  | n + 1, i_8, l_1, cuts_2, c2, in_7 => b_law15_SamplerPieces_l7 m (fun x0 => some x0) (fun i_8 l_1 cuts_2 c2 in_7 => law15_SamplerPieces_l7 m n i_8 l_1 cuts_2 c2 in_7) i_8 l_1 cuts_2 c2 in_7
theorem L_law15_SamplerPieces_l7_eq (m : Nat) : ∀ (n : Nat) (i_8 : Int) (l_1 : List Event) (cuts_2 : List Int) (c2 : Clock) (in_7 : List Event), L_law15_SamplerPieces_l7 m n i_8 l_1 cuts_2 c2 in_7 = (law15_SamplerPieces_l7 m n i_8 l_1 cuts_2 c2 in_7).map w_law15_SamplerPieces
  | 0, i_8, l_1, cuts_2, c2, in_7 => by kernel_rfl
  | n + 1, i_8, l_1, cuts_2, c2, in_7 => by
    rw [L_law15_SamplerPieces_l7_step]
    exact b_law15_SamplerPieces_l7_map m (fun i_8 l_1 cuts_2 c2 in_7 => L_law15_SamplerPieces_l7_eq m n i_8 l_1 cuts_2 c2 in_7) i_8 l_1 cuts_2 c2 in_7
noncomputable def b_law15_SamplerPieces {R : Type} (m : Nat) (ret : Bool → Option R) (k_l7 : Int → List Event → List Int → Clock → List Event → Option R) (c_0 : Clock) (l_1 : List Event) (cuts_2 : List Int) : Option R :=
 (law15_lives m).bind fun r0 =>
 bif !r0 then
 ret false
 else
 (law15_short m c_0 l_1).bind fun r1 =>
 bif !r1 then
 ret true
 else
 bif decide ((cuts_2.length : Int) > 400) then
 ret true
 else
 (law15_chained m l_1).bind fun r2 =>
 bif !r2 then
 ret true
 else
 k_l7 0 l_1 cuts_2 c_0 []
theorem law15_SamplerPieces_pre (m : Nat) (c_0 : Clock) (l_1 : List Event) (cuts_2 : List Int) : funK Try.prog (Ψ_law15_SamplerPieces m) keep m 1 3 [(dS of_Clock cells_Clock of_Clock_ok).e c_0, (dRow 32).e l_1, (dRow 3).e cuts_2] = b_law15_SamplerPieces m (fun x0 => some (w_law15_SamplerPieces x0)) (fun i_8 l_1 cuts_2 c2 in_7 => L_law15_SamplerPieces_l7 m m i_8 l_1 cuts_2 c2 in_7) c_0 l_1 cuts_2 := by kernel_rfl
theorem b_law15_SamplerPieces_map (m : Nat) {k_l7 : Int → List Event → List Int → Clock → List Event → Option (List (RV C))} {q_l7 : Int → List Event → List Int → Clock → List Event → Option (Bool)} (h_l7 : ∀ i_8 l_1 cuts_2 c2 in_7, k_l7 i_8 l_1 cuts_2 c2 in_7 = (q_l7 i_8 l_1 cuts_2 c2 in_7).map w_law15_SamplerPieces) (c_0 : Clock) (l_1 : List Event) (cuts_2 : List Int) : b_law15_SamplerPieces m (fun x0 => some (w_law15_SamplerPieces x0)) k_l7 c_0 l_1 cuts_2 = (b_law15_SamplerPieces m (fun x0 => some x0) q_l7 c_0 l_1 cuts_2).map w_law15_SamplerPieces := by
  simp only [b_law15_SamplerPieces, cond_map, bind_map, map_none, map_some, h_l7]
noncomputable def law15_SamplerPieces (m : Nat) (c_0 : Clock) (l_1 : List Event) (cuts_2 : List Int) : Option (Bool) := b_law15_SamplerPieces m (fun x0 => some x0) (fun i_8 l_1 cuts_2 c2 in_7 => law15_SamplerPieces_l7 m m i_8 l_1 cuts_2 c2 in_7) c_0 l_1 cuts_2
theorem law15_SamplerPieces_fun (m : Nat) (c_0 : Clock) (l_1 : List Event) (cuts_2 : List Int) : funK Try.prog (Ψ_law15_SamplerPieces m) keep m 1 3 [(dS of_Clock cells_Clock of_Clock_ok).e c_0, (dRow 32).e l_1, (dRow 3).e cuts_2] = (law15_SamplerPieces m c_0 l_1 cuts_2).map w_law15_SamplerPieces := by
  rw [law15_SamplerPieces_pre]
  exact b_law15_SamplerPieces_map m (fun i_8 l_1 cuts_2 c2 in_7 => L_law15_SamplerPieces_l7_eq m m i_8 l_1 cuts_2 c2 in_7) c_0 l_1 cuts_2
noncomputable def K_law15_SamplerPieces (m : Nat) : KnownF C := mkK (dCons (dS of_Clock cells_Clock of_Clock_ok) (dCons (dRow 32) (dCons (dRow 3) dNil))) (fun a => law15_SamplerPieces m a.1 a.2.1 a.2.2.1) w_law15_SamplerPieces
theorem K_law15_SamplerPieces_ok (m : Nat) : KnownAt C Try.prog 3 fun l => (K_law15_SamplerPieces m).run _ l some :=
  mkK_known good fit (Ψ_law15_SamplerPieces_ok m) (keep := keep) (m := m) (d := 1) fun a => law15_SamplerPieces_fun m a.1 a.2.1 a.2.2.1
/-! ### signalbench/signalbenchlaw15.SamplerGrid -/
noncomputable def Ψ_law15_SamplerGrid (m : Nat) : Known C := fun f => match f with
  | 9 => some (K_law15_lives m)
  | 14 => some (K_ref15_Check m)
  | 13 => some (K_sampler_Decode m)
  | _ => none
theorem Ψ_law15_SamplerGrid_ok (m : Nat) : KnownOk C Try.prog (Ψ_law15_SamplerGrid m) := by
  intro f φ h
  unfold Ψ_law15_SamplerGrid at h
  split at h
  · injection h with h; subst h; exact K_law15_lives_ok m
  · injection h with h; subst h; exact K_ref15_Check_ok m
  · injection h with h; subst h; exact K_sampler_Decode_ok m
  · cases h
def w_law15_SamplerGrid (b : Bool) : List (RV C) := [dBool.e b]
noncomputable def Q_law15_SamplerGrid_8 (m : Nat) : St C → (Exit → St C → Option (List (RV C))) → Option (List (RV C)) := fun σ k => codeK Try.prog (Ψ_law15_SamplerGrid m) (callK Try.prog (Ψ_law15_SamplerGrid m) keep m 0) (keep 4) m (subC body4 [.r, .r, .r, .r, .r, .l, .r, .b, .o]) σ k
noncomputable def KL_law15_SamplerGrid_8 (m : Nat) : Exit → St C → Option (List (RV C)) := contK Try.prog (Ψ_law15_SamplerGrid m) (callK Try.prog (Ψ_law15_SamplerGrid m) keep m 0) (keep 4) m body4 [.r, .r, .r, .r, .r, .l, .r, .b, .o] (leaveK Try.prog Try.f4.results.toList (finK Try.prog Try.f4.resultTypes.toList))
noncomputable def L_law15_SamplerGrid_l8 (m n : Nat) (from_1 : Int) (ticks_2 : Int) (level_3 : Int) (end_10 : Int) (i_11 : Int) (c0 : Clock) (l_9 : List Event) : Option (List (RV C)) := iterK (Q_law15_SamplerGrid_8 m) (St.norm (keep 4 8)) n ({ T := [.dead, .fl (.one (.int .i64 from_1)), .fl (.one (.int .i64 ticks_2)), .fl (.one (.int .i64 level_3)), .fl (.one (.ptr 0 0)), .dead, .dead, .dead, .dead, .fl (.one (.sl 1)), .fl (.one (.int .i64 end_10)), .fl (.one (.int .i64 i_11))] ++ List.replicate 125 .dead, F := [[]], H := [.box 25 (cells_Clock c0), .row 32 true l_9] } : St C) (KL_law15_SamplerGrid_8 m)
noncomputable def b_law15_SamplerGrid_l8 {R : Type} (m : Nat) (ret : Bool → Option R) (k_l8 : Int → Int → Int → Int → Int → Clock → List Event → Option R) (from_1 : Int) (ticks_2 : Int) (level_3 : Int) (end_10 : Int) (i_11 : Int) (c0 : Clock) (l_9 : List Event) : Option R :=
 bif decide (i_11 < (l_9.length : Int)) then
 bif decide (0 ≤ i_11) then
 bif decide (i_11 < (l_9.length : Int)) then
 bif (l_9.getD i_11.toNat dflt_Event).From != end_10 then
 ret false
 else
 bif decide (0 ≤ i_11) then
 bif decide (i_11 < (l_9.length : Int)) then
 bif decide (0 ≤ i_11) then
 bif decide (i_11 < (l_9.length : Int)) then
 bif decide ((l_9.getD i_11.toNat dflt_Event).To ≤ (l_9.getD i_11.toNat dflt_Event).From) then
 ret false
 else
 bif decide (0 ≤ i_11) then
 bif decide (i_11 < (l_9.length : Int)) then
 bif (l_9.getD i_11.toNat dflt_Event).Value != level_3 then
 ret false
 else
 bif decide (0 ≤ i_11) then
 bif decide (i_11 < (l_9.length : Int)) then
 bif (l_9.getD i_11.toNat dflt_Event).Fault != 0 then
 ret false
 else
 bif decide (0 ≤ i_11) then
 bif decide (i_11 < (l_9.length : Int)) then
 bif decide ((l_9.getD i_11.toNat dflt_Event).From ≥ IntKind.i64.wrap (from_1 + ticks_2)) then
 ret false
 else
 bif decide (0 ≤ i_11) then
 bif decide (i_11 < (l_9.length : Int)) then
 k_l8 from_1 ticks_2 level_3 ((l_9.getD i_11.toNat dflt_Event).To) (IntKind.i64.wrap (i_11 + 1)) c0 l_9
 else
 none
 else
 none
 else
 none
 else
 none
 else
 none
 else
 none
 else
 none
 else
 none
 else
 none
 else
 none
 else
 none
 else
 none
 else
 none
 else
 none
 else
 ret (decide (IntKind.i64.wrap (IntKind.i64.wrap (2 * IntKind.i64.wrap (IntKind.i64.wrap (IntKind.i64.wrap (from_1 + ticks_2) - end_10) - 1)) * c0.T_Den) ≤ c0.T_Num))
theorem L_law15_SamplerGrid_l8_step (m n : Nat) (from_1 : Int) (ticks_2 : Int) (level_3 : Int) (end_10 : Int) (i_11 : Int) (c0 : Clock) (l_9 : List Event) : L_law15_SamplerGrid_l8 m (n + 1) from_1 ticks_2 level_3 end_10 i_11 c0 l_9 = b_law15_SamplerGrid_l8 m (fun x0 => some (w_law15_SamplerGrid x0)) (fun from_1 ticks_2 level_3 end_10 i_11 c0 l_9 => L_law15_SamplerGrid_l8 m n from_1 ticks_2 level_3 end_10 i_11 c0 l_9) from_1 ticks_2 level_3 end_10 i_11 c0 l_9 := by kernel_rfl
theorem b_law15_SamplerGrid_l8_map (m : Nat) {k_l8 : Int → Int → Int → Int → Int → Clock → List Event → Option (List (RV C))} {q_l8 : Int → Int → Int → Int → Int → Clock → List Event → Option (Bool)} (h_l8 : ∀ from_1 ticks_2 level_3 end_10 i_11 c0 l_9, k_l8 from_1 ticks_2 level_3 end_10 i_11 c0 l_9 = (q_l8 from_1 ticks_2 level_3 end_10 i_11 c0 l_9).map w_law15_SamplerGrid) (from_1 : Int) (ticks_2 : Int) (level_3 : Int) (end_10 : Int) (i_11 : Int) (c0 : Clock) (l_9 : List Event) : b_law15_SamplerGrid_l8 m (fun x0 => some (w_law15_SamplerGrid x0)) k_l8 from_1 ticks_2 level_3 end_10 i_11 c0 l_9 = (b_law15_SamplerGrid_l8 m (fun x0 => some x0) q_l8 from_1 ticks_2 level_3 end_10 i_11 c0 l_9).map w_law15_SamplerGrid := by
  simp only [b_law15_SamplerGrid_l8, cond_map, bind_map, map_none, map_some, h_l8]
noncomputable def law15_SamplerGrid_l8 (m : Nat) : Nat → Int → Int → Int → Int → Int → Clock → List Event → Option (Bool)
  | 0, _, _, _, _, _, _, _ => none
  | n + 1, from_1, ticks_2, level_3, end_10, i_11, c0, l_9 => b_law15_SamplerGrid_l8 m (fun x0 => some x0) (fun from_1 ticks_2 level_3 end_10 i_11 c0 l_9 => law15_SamplerGrid_l8 m n from_1 ticks_2 level_3 end_10 i_11 c0 l_9) from_1 ticks_2 level_3 end_10 i_11 c0 l_9
theorem L_law15_SamplerGrid_l8_eq (m : Nat) : ∀ (n : Nat) (from_1 : Int) (ticks_2 : Int) (level_3 : Int) (end_10 : Int) (i_11 : Int) (c0 : Clock) (l_9 : List Event), L_law15_SamplerGrid_l8 m n from_1 ticks_2 level_3 end_10 i_11 c0 l_9 = (law15_SamplerGrid_l8 m n from_1 ticks_2 level_3 end_10 i_11 c0 l_9).map w_law15_SamplerGrid
  | 0, from_1, ticks_2, level_3, end_10, i_11, c0, l_9 => by kernel_rfl
  | n + 1, from_1, ticks_2, level_3, end_10, i_11, c0, l_9 => by
    rw [L_law15_SamplerGrid_l8_step]
    exact b_law15_SamplerGrid_l8_map m (fun from_1 ticks_2 level_3 end_10 i_11 c0 l_9 => L_law15_SamplerGrid_l8_eq m n from_1 ticks_2 level_3 end_10 i_11 c0 l_9) from_1 ticks_2 level_3 end_10 i_11 c0 l_9
noncomputable def b_law15_SamplerGrid {R : Type} (m : Nat) (ret : Bool → Option R) (k_l8 : Int → Int → Int → Int → Int → Clock → List Event → Option R) (c_0 : Clock) (from_1 : Int) (ticks_2 : Int) (level_3 : Int) : Option R :=
 (law15_lives m).bind fun r0 =>
 bif !r0 then
 ret false
 else
 (ref15_Check m c_0).bind fun r1 =>
 bif r1 != 0 then
 ret true
 else
 bif decide (from_1 < 0) then
 ret true
 else
 bif decide (from_1 > 549755813888) then
 ret true
 else
 bif decide (ticks_2 < 1) then
 ret true
 else
 bif decide (ticks_2 > 549755813888) then
 ret true
 else
 bif decide (c_0.T_Den = 0) then
 none
 else
 bif decide (IntKind.i64.wrap (c_0.T_Num.tdiv c_0.T_Den) = 0) then
 none
 else
 bif decide (IntKind.i64.wrap (ticks_2.tdiv (IntKind.i64.wrap (c_0.T_Num.tdiv c_0.T_Den))) > 10000) then
 ret true
 else
 bif decide (level_3 < 0) then
 ret true
 else
 bif decide (level_3 > 1) then
 ret true
 else
 (sampler_Decode m c_0 [Event.mk 1 from_1 (IntKind.i64.wrap (from_1 + ticks_2)) level_3 0 (bs []) 0]).bind fun r2 =>
 k_l8 from_1 ticks_2 level_3 from_1 0 c_0 r2
theorem law15_SamplerGrid_pre (m : Nat) (c_0 : Clock) (from_1 : Int) (ticks_2 : Int) (level_3 : Int) : funK Try.prog (Ψ_law15_SamplerGrid m) keep m 1 4 [(dS of_Clock cells_Clock of_Clock_ok).e c_0, (dInt .i64).e from_1, (dInt .i64).e ticks_2, (dInt .i64).e level_3] = b_law15_SamplerGrid m (fun x0 => some (w_law15_SamplerGrid x0)) (fun from_1 ticks_2 level_3 end_10 i_11 c0 l_9 => L_law15_SamplerGrid_l8 m m from_1 ticks_2 level_3 end_10 i_11 c0 l_9) c_0 from_1 ticks_2 level_3 := by kernel_rfl
theorem b_law15_SamplerGrid_map (m : Nat) {k_l8 : Int → Int → Int → Int → Int → Clock → List Event → Option (List (RV C))} {q_l8 : Int → Int → Int → Int → Int → Clock → List Event → Option (Bool)} (h_l8 : ∀ from_1 ticks_2 level_3 end_10 i_11 c0 l_9, k_l8 from_1 ticks_2 level_3 end_10 i_11 c0 l_9 = (q_l8 from_1 ticks_2 level_3 end_10 i_11 c0 l_9).map w_law15_SamplerGrid) (c_0 : Clock) (from_1 : Int) (ticks_2 : Int) (level_3 : Int) : b_law15_SamplerGrid m (fun x0 => some (w_law15_SamplerGrid x0)) k_l8 c_0 from_1 ticks_2 level_3 = (b_law15_SamplerGrid m (fun x0 => some x0) q_l8 c_0 from_1 ticks_2 level_3).map w_law15_SamplerGrid := by
  simp only [b_law15_SamplerGrid, cond_map, bind_map, map_none, map_some, h_l8]
noncomputable def law15_SamplerGrid (m : Nat) (c_0 : Clock) (from_1 : Int) (ticks_2 : Int) (level_3 : Int) : Option (Bool) := b_law15_SamplerGrid m (fun x0 => some x0) (fun from_1 ticks_2 level_3 end_10 i_11 c0 l_9 => law15_SamplerGrid_l8 m m from_1 ticks_2 level_3 end_10 i_11 c0 l_9) c_0 from_1 ticks_2 level_3
theorem law15_SamplerGrid_fun (m : Nat) (c_0 : Clock) (from_1 : Int) (ticks_2 : Int) (level_3 : Int) : funK Try.prog (Ψ_law15_SamplerGrid m) keep m 1 4 [(dS of_Clock cells_Clock of_Clock_ok).e c_0, (dInt .i64).e from_1, (dInt .i64).e ticks_2, (dInt .i64).e level_3] = (law15_SamplerGrid m c_0 from_1 ticks_2 level_3).map w_law15_SamplerGrid := by
  rw [law15_SamplerGrid_pre]
  exact b_law15_SamplerGrid_map m (fun from_1 ticks_2 level_3 end_10 i_11 c0 l_9 => L_law15_SamplerGrid_l8_eq m m from_1 ticks_2 level_3 end_10 i_11 c0 l_9) c_0 from_1 ticks_2 level_3
noncomputable def K_law15_SamplerGrid (m : Nat) : KnownF C := mkK (dCons (dS of_Clock cells_Clock of_Clock_ok) (dCons (dInt .i64) (dCons (dInt .i64) (dCons (dInt .i64) dNil)))) (fun a => law15_SamplerGrid m a.1 a.2.1 a.2.2.1 a.2.2.2.1) w_law15_SamplerGrid
theorem K_law15_SamplerGrid_ok (m : Nat) : KnownAt C Try.prog 4 fun l => (K_law15_SamplerGrid m).run _ l some :=
  mkK_known good fit (Ψ_law15_SamplerGrid_ok m) (keep := keep) (m := m) (d := 1) fun a => law15_SamplerGrid_fun m a.1 a.2.1 a.2.2.1 a.2.2.2.1
/-! ### signalbench/signalbenchref15.Start -/
def w_ref15_Start (b : State) : List (RV C) := [(dS of_State cells_State of_State_ok).e b]
noncomputable def b_ref15_Start {R : Type} (m : Nat) (ret : State → Option R) (c_0 : Clock) : Option R :=
 ret (State.mk 0 0 0 0 0 0 0 (bs []))
theorem ref15_Start_pre (m : Nat) (c_0 : Clock) : funK Try.prog Ψ0 keep m 1 16 [(dS of_Clock cells_Clock of_Clock_ok).e c_0] = b_ref15_Start m (fun x0 => some (w_ref15_Start x0)) c_0 := by kernel_rfl
theorem b_ref15_Start_map (m : Nat) (c_0 : Clock) : b_ref15_Start m (fun x0 => some (w_ref15_Start x0)) c_0 = (b_ref15_Start m (fun x0 => some x0) c_0).map w_ref15_Start := by
  simp only [b_ref15_Start, cond_map, bind_map, map_none, map_some]
noncomputable def ref15_Start (m : Nat) (c_0 : Clock) : Option (State) := b_ref15_Start m (fun x0 => some x0) c_0
theorem ref15_Start_fun (m : Nat) (c_0 : Clock) : funK Try.prog Ψ0 keep m 1 16 [(dS of_Clock cells_Clock of_Clock_ok).e c_0] = (ref15_Start m c_0).map w_ref15_Start := by
  rw [ref15_Start_pre]
  exact b_ref15_Start_map m c_0
noncomputable def K_ref15_Start (m : Nat) : KnownF C := mkK (dCons (dS of_Clock cells_Clock of_Clock_ok) dNil) (fun a => ref15_Start m a.1) w_ref15_Start
theorem K_ref15_Start_ok (m : Nat) : KnownAt C Try.prog 16 fun l => (K_ref15_Start m).run _ l some :=
  mkK_known good fit Ψ0_ok (keep := keep) (m := m) (d := 1) fun a => ref15_Start_fun m a.1
/-! ### signalbench/sampler.Step -/
noncomputable def Ψ_sampler_Step (m : Nat) : Known C := fun f => match f with
  | 22 => some (K_sampler_Check m)
  | 31 => some (K_sampler_accepts m)
  | 29 => some (K_sampler_machine_step m)
  | _ => none
theorem Ψ_sampler_Step_ok (m : Nat) : KnownOk C Try.prog (Ψ_sampler_Step m) := by
  intro f φ h
  unfold Ψ_sampler_Step at h
  split at h
  · injection h with h; subst h; exact K_sampler_Check_ok m
  · injection h with h; subst h; exact K_sampler_accepts_ok m
  · injection h with h; subst h; exact K_sampler_machine_step_ok m
  · cases h
def w_sampler_Step (b : State × List Event) : List (RV C) := [(dS of_State cells_State of_State_ok).e b.1, (dRow 32).e b.2]
noncomputable def b_sampler_Step {R : Type} (m : Nat) (ret : State → List Event → Option R) (c_0 : Clock) (s_1 : State) (e_2 : Event) : Option R :=
 (sampler_Check m c_0).bind fun r0 =>
 bif r0 != 0 then
 ret s_1 []
 else
 (sampler_accepts m s_1 e_2).bind fun r1 =>
 bif !r1 then
 ret s_1 []
 else
 (sampler_machine_step m (Sampler_machine.mk c_0.T_Num c_0.T_Den) s_1 e_2).bind fun r2 =>
 ret r2.fst r2.snd
theorem sampler_Step_pre (m : Nat) (c_0 : Clock) (s_1 : State) (e_2 : Event) : funK Try.prog (Ψ_sampler_Step m) keep m 1 17 [(dS of_Clock cells_Clock of_Clock_ok).e c_0, (dS of_State cells_State of_State_ok).e s_1, (dS of_Event cells_Event of_Event_ok).e e_2] = b_sampler_Step m (fun x0 x1 => some (w_sampler_Step (x0, x1))) c_0 s_1 e_2 := by kernel_rfl
theorem b_sampler_Step_map (m : Nat) (c_0 : Clock) (s_1 : State) (e_2 : Event) : b_sampler_Step m (fun x0 x1 => some (w_sampler_Step (x0, x1))) c_0 s_1 e_2 = (b_sampler_Step m (fun x0 x1 => some (x0, x1)) c_0 s_1 e_2).map w_sampler_Step := by
  simp only [b_sampler_Step, cond_map, bind_map, map_none, map_some]
noncomputable def sampler_Step (m : Nat) (c_0 : Clock) (s_1 : State) (e_2 : Event) : Option (State × List Event) := b_sampler_Step m (fun x0 x1 => some (x0, x1)) c_0 s_1 e_2
theorem sampler_Step_fun (m : Nat) (c_0 : Clock) (s_1 : State) (e_2 : Event) : funK Try.prog (Ψ_sampler_Step m) keep m 1 17 [(dS of_Clock cells_Clock of_Clock_ok).e c_0, (dS of_State cells_State of_State_ok).e s_1, (dS of_Event cells_Event of_Event_ok).e e_2] = (sampler_Step m c_0 s_1 e_2).map w_sampler_Step := by
  rw [sampler_Step_pre]
  exact b_sampler_Step_map m c_0 s_1 e_2
noncomputable def K_sampler_Step (m : Nat) : KnownF C := mkK (dCons (dS of_Clock cells_Clock of_Clock_ok) (dCons (dS of_State cells_State of_State_ok) (dCons (dS of_Event cells_Event of_Event_ok) dNil))) (fun a => sampler_Step m a.1 a.2.1 a.2.2.1) w_sampler_Step
theorem K_sampler_Step_ok (m : Nat) : KnownAt C Try.prog 17 fun l => (K_sampler_Step m).run _ l some :=
  mkK_known good fit (Ψ_sampler_Step_ok m) (keep := keep) (m := m) (d := 1) fun a => sampler_Step_fun m a.1 a.2.1 a.2.2.1
/-! ### signalbench/signalbenchref07.Valid -/
def w_ref07_Valid (b : Bool) : List (RV C) := [dBool.e b]
noncomputable def b_ref07_Valid {R : Type} (m : Nat) (ret : Bool → Option R) (e_0 : Event) : Option R :=
 bif decide (e_0.Kind < 1) then
 ret false
 else
 bif decide (e_0.Kind > 8) then
 ret false
 else
 bif decide (e_0.From < 0) then
 ret false
 else
 bif decide (e_0.From > e_0.To) then
 ret false
 else
 bif decide (e_0.To > 1099511627776) then
 ret false
 else
 bif decide ((e_0.Data.size : Int) > 4096) then
 ret false
 else
 bif decide (e_0.Fault < 0) then
 ret false
 else
 bif decide (e_0.Fault > 12) then
 ret false
 else
 bif decide (e_0.Value ≥ -9007199254740992) then
 bif decide (e_0.Value ≤ 9007199254740992) then
 bif decide (e_0.Aux ≥ -9007199254740992) then
 ret (decide (e_0.Aux ≤ 9007199254740992))
 else
 ret false
 else
 ret false
 else
 ret false
theorem ref07_Valid_pre (m : Nat) (e_0 : Event) : funK Try.prog Ψ0 keep m 1 47 [(dS of_Event cells_Event of_Event_ok).e e_0] = b_ref07_Valid m (fun x0 => some (w_ref07_Valid x0)) e_0 := by kernel_rfl
theorem b_ref07_Valid_map (m : Nat) (e_0 : Event) : b_ref07_Valid m (fun x0 => some (w_ref07_Valid x0)) e_0 = (b_ref07_Valid m (fun x0 => some x0) e_0).map w_ref07_Valid := by
  simp only [b_ref07_Valid, cond_map, bind_map, map_none, map_some]
noncomputable def ref07_Valid (m : Nat) (e_0 : Event) : Option (Bool) := b_ref07_Valid m (fun x0 => some x0) e_0
theorem ref07_Valid_fun (m : Nat) (e_0 : Event) : funK Try.prog Ψ0 keep m 1 47 [(dS of_Event cells_Event of_Event_ok).e e_0] = (ref07_Valid m e_0).map w_ref07_Valid := by
  rw [ref07_Valid_pre]
  exact b_ref07_Valid_map m e_0
noncomputable def K_ref07_Valid (m : Nat) : KnownF C := mkK (dCons (dS of_Event cells_Event of_Event_ok) dNil) (fun a => ref07_Valid m a.1) w_ref07_Valid
theorem K_ref07_Valid_ok (m : Nat) : KnownAt C Try.prog 47 fun l => (K_ref07_Valid m).run _ l some :=
  mkK_known good fit Ψ0_ok (keep := keep) (m := m) (d := 1) fun a => ref07_Valid_fun m a.1
/-! ### signalbench/signalbenchref15.accepted -/
noncomputable def Ψ_ref15_accepted (m : Nat) : Known C := fun f => match f with
  | 47 => some (K_ref07_Valid m)
  | _ => none
theorem Ψ_ref15_accepted_ok (m : Nat) : KnownOk C Try.prog (Ψ_ref15_accepted m) := by
  intro f φ h
  unfold Ψ_ref15_accepted at h
  split at h
  · injection h with h; subst h; exact K_ref07_Valid_ok m
  · cases h
def w_ref15_accepted (b : Bool) : List (RV C) := [dBool.e b]
noncomputable def b_ref15_accepted {R : Type} (m : Nat) (ret : Bool → Option R) (s_0 : State) (e_1 : Event) : Option R :=
 (ref07_Valid m e_1).bind fun r0 =>
 bif !r0 then
 ret false
 else
 bif e_1.Kind != 1 then
 ret false
 else
 bif e_1.Fault != 0 then
 ret false
 else
 bif decide (e_1.From ≥ e_1.To) then
 ret false
 else
 bif decide (e_1.Value < 0) then
 ret false
 else
 bif decide (e_1.Value > 1) then
 ret false
 else
 bif s_0.Phase == 0 then
 ret true
 else
 ret (e_1.From == s_0.At)
theorem ref15_accepted_pre (m : Nat) (s_0 : State) (e_1 : Event) : funK Try.prog (Ψ_ref15_accepted m) keep m 1 32 [(dS of_State cells_State of_State_ok).e s_0, (dS of_Event cells_Event of_Event_ok).e e_1] = b_ref15_accepted m (fun x0 => some (w_ref15_accepted x0)) s_0 e_1 := by kernel_rfl
theorem b_ref15_accepted_map (m : Nat) (s_0 : State) (e_1 : Event) : b_ref15_accepted m (fun x0 => some (w_ref15_accepted x0)) s_0 e_1 = (b_ref15_accepted m (fun x0 => some x0) s_0 e_1).map w_ref15_accepted := by
  simp only [b_ref15_accepted, cond_map, bind_map, map_none, map_some]
noncomputable def ref15_accepted (m : Nat) (s_0 : State) (e_1 : Event) : Option (Bool) := b_ref15_accepted m (fun x0 => some x0) s_0 e_1
theorem ref15_accepted_fun (m : Nat) (s_0 : State) (e_1 : Event) : funK Try.prog (Ψ_ref15_accepted m) keep m 1 32 [(dS of_State cells_State of_State_ok).e s_0, (dS of_Event cells_Event of_Event_ok).e e_1] = (ref15_accepted m s_0 e_1).map w_ref15_accepted := by
  rw [ref15_accepted_pre]
  exact b_ref15_accepted_map m s_0 e_1
noncomputable def K_ref15_accepted (m : Nat) : KnownF C := mkK (dCons (dS of_State cells_State of_State_ok) (dCons (dS of_Event cells_Event of_Event_ok) dNil)) (fun a => ref15_accepted m a.1 a.2.1) w_ref15_accepted
theorem K_ref15_accepted_ok (m : Nat) : KnownAt C Try.prog 32 fun l => (K_ref15_accepted m).run _ l some :=
  mkK_known good fit (Ψ_ref15_accepted_ok m) (keep := keep) (m := m) (d := 1) fun a => ref15_accepted_fun m a.1 a.2.1
/-! ### signalbench/signalbenchref15.mul -/
def w_ref15_mul (b : Int) : List (RV C) := [(dInt .i64).e b]
noncomputable def b_ref15_mul {R : Type} (m : Nat) (ret : Int → Option R) (n_0 : Int) (num_1 : Int) (den_2 : Int) : Option R :=
 bif decide (den_2 = 0) then
 none
 else
 bif decide (den_2 = 0) then
 none
 else
 bif decide (den_2 = 0) then
 none
 else
 ret (IntKind.i64.wrap (IntKind.i64.wrap (IntKind.i64.wrap (n_0.tdiv den_2) * num_1) + IntKind.i64.wrap ((IntKind.i64.wrap (n_0.tmod den_2 * num_1)).tdiv den_2)))
theorem ref15_mul_pre (m : Nat) (n_0 : Int) (num_1 : Int) (den_2 : Int) : funK Try.prog Ψ0 keep m 1 48 [(dInt .i64).e n_0, (dInt .i64).e num_1, (dInt .i64).e den_2] = b_ref15_mul m (fun x0 => some (w_ref15_mul x0)) n_0 num_1 den_2 := by kernel_rfl
theorem b_ref15_mul_map (m : Nat) (n_0 : Int) (num_1 : Int) (den_2 : Int) : b_ref15_mul m (fun x0 => some (w_ref15_mul x0)) n_0 num_1 den_2 = (b_ref15_mul m (fun x0 => some x0) n_0 num_1 den_2).map w_ref15_mul := by
  simp only [b_ref15_mul, cond_map, bind_map, map_none, map_some]
noncomputable def ref15_mul (m : Nat) (n_0 : Int) (num_1 : Int) (den_2 : Int) : Option (Int) := b_ref15_mul m (fun x0 => some x0) n_0 num_1 den_2
theorem ref15_mul_fun (m : Nat) (n_0 : Int) (num_1 : Int) (den_2 : Int) : funK Try.prog Ψ0 keep m 1 48 [(dInt .i64).e n_0, (dInt .i64).e num_1, (dInt .i64).e den_2] = (ref15_mul m n_0 num_1 den_2).map w_ref15_mul := by
  rw [ref15_mul_pre]
  exact b_ref15_mul_map m n_0 num_1 den_2
noncomputable def K_ref15_mul (m : Nat) : KnownF C := mkK (dCons (dInt .i64) (dCons (dInt .i64) (dCons (dInt .i64) dNil))) (fun a => ref15_mul m a.1 a.2.1 a.2.2.1) w_ref15_mul
theorem K_ref15_mul_ok (m : Nat) : KnownAt C Try.prog 48 fun l => (K_ref15_mul m).run _ l some :=
  mkK_known good fit Ψ0_ok (keep := keep) (m := m) (d := 1) fun a => ref15_mul_fun m a.1 a.2.1 a.2.2.1
/-! ### signalbench/signalbenchref15.Boundary -/
noncomputable def Ψ_ref15_Boundary (m : Nat) : Known C := fun f => match f with
  | 48 => some (K_ref15_mul m)
  | _ => none
theorem Ψ_ref15_Boundary_ok (m : Nat) : KnownOk C Try.prog (Ψ_ref15_Boundary m) := by
  intro f φ h
  unfold Ψ_ref15_Boundary at h
  split at h
  · injection h with h; subst h; exact K_ref15_mul_ok m
  · cases h
def w_ref15_Boundary (b : Int) : List (RV C) := [(dInt .i64).e b]
noncomputable def b_ref15_Boundary {R : Type} (m : Nat) (ret : Int → Option R) (t_0 : Ratio) (k_1 : Int) : Option R :=
 (ref15_mul m k_1 t_0.Num t_0.Den).bind fun r0 =>
 ret r0
theorem ref15_Boundary_pre (m : Nat) (t_0 : Ratio) (k_1 : Int) : funK Try.prog (Ψ_ref15_Boundary m) keep m 1 35 [(dS of_Ratio cells_Ratio of_Ratio_ok).e t_0, (dInt .i64).e k_1] = b_ref15_Boundary m (fun x0 => some (w_ref15_Boundary x0)) t_0 k_1 := by kernel_rfl
theorem b_ref15_Boundary_map (m : Nat) (t_0 : Ratio) (k_1 : Int) : b_ref15_Boundary m (fun x0 => some (w_ref15_Boundary x0)) t_0 k_1 = (b_ref15_Boundary m (fun x0 => some x0) t_0 k_1).map w_ref15_Boundary := by
  simp only [b_ref15_Boundary, cond_map, bind_map, map_none, map_some]
noncomputable def ref15_Boundary (m : Nat) (t_0 : Ratio) (k_1 : Int) : Option (Int) := b_ref15_Boundary m (fun x0 => some x0) t_0 k_1
theorem ref15_Boundary_fun (m : Nat) (t_0 : Ratio) (k_1 : Int) : funK Try.prog (Ψ_ref15_Boundary m) keep m 1 35 [(dS of_Ratio cells_Ratio of_Ratio_ok).e t_0, (dInt .i64).e k_1] = (ref15_Boundary m t_0 k_1).map w_ref15_Boundary := by
  rw [ref15_Boundary_pre]
  exact b_ref15_Boundary_map m t_0 k_1
noncomputable def K_ref15_Boundary (m : Nat) : KnownF C := mkK (dCons (dS of_Ratio cells_Ratio of_Ratio_ok) (dCons (dInt .i64) dNil)) (fun a => ref15_Boundary m a.1 a.2.1) w_ref15_Boundary
theorem K_ref15_Boundary_ok (m : Nat) : KnownAt C Try.prog 35 fun l => (K_ref15_Boundary m).run _ l some :=
  mkK_known good fit (Ψ_ref15_Boundary_ok m) (keep := keep) (m := m) (d := 1) fun a => ref15_Boundary_fun m a.1 a.2.1
/-! ### signalbench/signalbenchref15.irregular -/
noncomputable def Ψ_ref15_irregular (m : Nat) : Known C := fun f => match f with
  | 48 => some (K_ref15_mul m)
  | 35 => some (K_ref15_Boundary m)
  | _ => none
theorem Ψ_ref15_irregular_ok (m : Nat) : KnownOk C Try.prog (Ψ_ref15_irregular m) := by
  intro f φ h
  unfold Ψ_ref15_irregular at h
  split at h
  · injection h with h; subst h; exact K_ref15_mul_ok m
  · injection h with h; subst h; exact K_ref15_Boundary_ok m
  · cases h
def w_ref15_irregular (b : Bool) : List (RV C) := [dBool.e b]
noncomputable def b_ref15_irregular {R : Type} (m : Nat) (ret : Bool → Option R) (t_0 : Ratio) (d_1 : Int) : Option R :=
 (ref15_mul m d_1 t_0.Den t_0.Num).bind fun r0 =>
 (ref15_Boundary m t_0 r0).bind fun r1 =>
 (ref15_Boundary m t_0 (IntKind.i64.wrap (r0 + 1))).bind fun r2 =>
 bif decide (IntKind.i64.wrap (r2 - d_1) < IntKind.i64.wrap (d_1 - r1)) then
 ret (decide (IntKind.i64.wrap (IntKind.i64.wrap (4 * IntKind.i64.wrap (r2 - d_1)) * t_0.Den) > t_0.Num))
 else
 ret (decide (IntKind.i64.wrap (IntKind.i64.wrap (4 * IntKind.i64.wrap (d_1 - r1)) * t_0.Den) > t_0.Num))
theorem ref15_irregular_pre (m : Nat) (t_0 : Ratio) (d_1 : Int) : funK Try.prog (Ψ_ref15_irregular m) keep m 1 33 [(dS of_Ratio cells_Ratio of_Ratio_ok).e t_0, (dInt .i64).e d_1] = b_ref15_irregular m (fun x0 => some (w_ref15_irregular x0)) t_0 d_1 := by kernel_rfl
theorem b_ref15_irregular_map (m : Nat) (t_0 : Ratio) (d_1 : Int) : b_ref15_irregular m (fun x0 => some (w_ref15_irregular x0)) t_0 d_1 = (b_ref15_irregular m (fun x0 => some x0) t_0 d_1).map w_ref15_irregular := by
  simp only [b_ref15_irregular, cond_map, bind_map, map_none, map_some]
noncomputable def ref15_irregular (m : Nat) (t_0 : Ratio) (d_1 : Int) : Option (Bool) := b_ref15_irregular m (fun x0 => some x0) t_0 d_1
theorem ref15_irregular_fun (m : Nat) (t_0 : Ratio) (d_1 : Int) : funK Try.prog (Ψ_ref15_irregular m) keep m 1 33 [(dS of_Ratio cells_Ratio of_Ratio_ok).e t_0, (dInt .i64).e d_1] = (ref15_irregular m t_0 d_1).map w_ref15_irregular := by
  rw [ref15_irregular_pre]
  exact b_ref15_irregular_map m t_0 d_1
noncomputable def K_ref15_irregular (m : Nat) : KnownF C := mkK (dCons (dS of_Ratio cells_Ratio of_Ratio_ok) (dCons (dInt .i64) dNil)) (fun a => ref15_irregular m a.1 a.2.1) w_ref15_irregular
theorem K_ref15_irregular_ok (m : Nat) : KnownAt C Try.prog 33 fun l => (K_ref15_irregular m).run _ l some :=
  mkK_known good fit (Ψ_ref15_irregular_ok m) (keep := keep) (m := m) (d := 1) fun a => ref15_irregular_fun m a.1 a.2.1
/-! ### signalbench/signalbenchref15.Sample -/
noncomputable def Ψ_ref15_Sample (m : Nat) : Known C := fun f => match f with
  | 48 => some (K_ref15_mul m)
  | _ => none
theorem Ψ_ref15_Sample_ok (m : Nat) : KnownOk C Try.prog (Ψ_ref15_Sample m) := by
  intro f φ h
  unfold Ψ_ref15_Sample at h
  split at h
  · injection h with h; subst h; exact K_ref15_mul_ok m
  · cases h
def w_ref15_Sample (b : Int) : List (RV C) := [(dInt .i64).e b]
noncomputable def b_ref15_Sample {R : Type} (m : Nat) (ret : Int → Option R) (t_0 : Ratio) (k_1 : Int) : Option R :=
 (ref15_mul m (IntKind.i64.wrap (IntKind.i64.wrap (2 * k_1) + 1)) t_0.Num (IntKind.i64.wrap (2 * t_0.Den))).bind fun r0 =>
 ret r0
theorem ref15_Sample_pre (m : Nat) (t_0 : Ratio) (k_1 : Int) : funK Try.prog (Ψ_ref15_Sample m) keep m 1 34 [(dS of_Ratio cells_Ratio of_Ratio_ok).e t_0, (dInt .i64).e k_1] = b_ref15_Sample m (fun x0 => some (w_ref15_Sample x0)) t_0 k_1 := by kernel_rfl
theorem b_ref15_Sample_map (m : Nat) (t_0 : Ratio) (k_1 : Int) : b_ref15_Sample m (fun x0 => some (w_ref15_Sample x0)) t_0 k_1 = (b_ref15_Sample m (fun x0 => some x0) t_0 k_1).map w_ref15_Sample := by
  simp only [b_ref15_Sample, cond_map, bind_map, map_none, map_some]
noncomputable def ref15_Sample (m : Nat) (t_0 : Ratio) (k_1 : Int) : Option (Int) := b_ref15_Sample m (fun x0 => some x0) t_0 k_1
theorem ref15_Sample_fun (m : Nat) (t_0 : Ratio) (k_1 : Int) : funK Try.prog (Ψ_ref15_Sample m) keep m 1 34 [(dS of_Ratio cells_Ratio of_Ratio_ok).e t_0, (dInt .i64).e k_1] = (ref15_Sample m t_0 k_1).map w_ref15_Sample := by
  rw [ref15_Sample_pre]
  exact b_ref15_Sample_map m t_0 k_1
noncomputable def K_ref15_Sample (m : Nat) : KnownF C := mkK (dCons (dS of_Ratio cells_Ratio of_Ratio_ok) (dCons (dInt .i64) dNil)) (fun a => ref15_Sample m a.1 a.2.1) w_ref15_Sample
theorem K_ref15_Sample_ok (m : Nat) : KnownAt C Try.prog 34 fun l => (K_ref15_Sample m).run _ l some :=
  mkK_known good fit (Ψ_ref15_Sample_ok m) (keep := keep) (m := m) (d := 1) fun a => ref15_Sample_fun m a.1 a.2.1
/-! ### signalbench/signalbenchref15.Step -/
noncomputable def Ψ_ref15_Step (m : Nat) : Known C := fun f => match f with
  | 14 => some (K_ref15_Check m)
  | 32 => some (K_ref15_accepted m)
  | 33 => some (K_ref15_irregular m)
  | 34 => some (K_ref15_Sample m)
  | 35 => some (K_ref15_Boundary m)
  | _ => none
theorem Ψ_ref15_Step_ok (m : Nat) : KnownOk C Try.prog (Ψ_ref15_Step m) := by
  intro f φ h
  unfold Ψ_ref15_Step at h
  split at h
  · injection h with h; subst h; exact K_ref15_Check_ok m
  · injection h with h; subst h; exact K_ref15_accepted_ok m
  · injection h with h; subst h; exact K_ref15_irregular_ok m
  · injection h with h; subst h; exact K_ref15_Sample_ok m
  · injection h with h; subst h; exact K_ref15_Boundary_ok m
  · cases h
def w_ref15_Step (b : State × List Event) : List (RV C) := [(dS of_State cells_State of_State_ok).e b.1, (dRow 32).e b.2]
noncomputable def Q_ref15_Step_11 (m : Nat) : St C → (Exit → St C → Option (List (RV C))) → Option (List (RV C)) := fun σ k => codeK Try.prog (Ψ_ref15_Step m) (callK Try.prog (Ψ_ref15_Step m) keep m 0) (keep 18) m (subC body18 [.r, .r, .r, .r, .r, .l, .b, .o]) σ k
noncomputable def KL_ref15_Step_11 (m : Nat) : Exit → St C → Option (List (RV C)) := contK Try.prog (Ψ_ref15_Step m) (callK Try.prog (Ψ_ref15_Step m) keep m 0) (keep 18) m body18 [.r, .r, .r, .r, .r, .l, .b, .o] (leaveK Try.prog Try.f18.results.toList (finK Try.prog Try.f18.resultTypes.toList))
noncomputable def L_ref15_Step_l11 (m n : Nat) (c0 : Clock) (c1 : State) (c2 : Event) (c3 : State) (out_8 : List Event) : Option (List (RV C)) := iterK (Q_ref15_Step_11 m) (St.norm (keep 18 11)) n ({ T := [.dead, .dead, .dead, .fl (.one (.ptr 0 0)), .fl (.one (.ptr 1 0)), .fl (.one (.ptr 2 0)), .fl (.one (.ptr 3 0)), .dead, .fl (.one (.sl 4))] ++ List.replicate 94 .dead, F := [[]], H := [.box 25 (cells_Clock c0), .box 40 (cells_State c1), .box 32 (cells_Event c2), .box 40 (cells_State c3), .row 32 true out_8] } : St C) (KL_ref15_Step_11 m)
noncomputable def b_ref15_Step_l11 {R : Type} (m : Nat) (ret : State → List Event → Option R) (k_l11 : Clock → State → Event → State → List Event → Option R) (c0 : Clock) (c1 : State) (c2 : Event) (c3 : State) (out_8 : List Event) : Option R :=
 (ref15_Sample m (Ratio.mk c0.T_Num c0.T_Den) c1.Count).bind fun r0 =>
 bif decide (IntKind.i64.wrap (c1.From + r0) < c2.To) then
 ((ref15_Boundary m (Ratio.mk c0.T_Num c0.T_Den) c1.Count).bind fun r1 =>
 (ref15_Boundary m (Ratio.mk c0.T_Num c0.T_Den) (IntKind.i64.wrap (c1.Count + 1))).bind fun r2 =>
 bif decide (IntKind.i64.wrap (c1.From + r2) > 1099511627776) then
 bif c1.Aux == 1 then
 bif decide ((out_8.length + 1) * 64 ≤ 140737488355328) then
 k_l11 c0 { c1 with Count := IntKind.i64.wrap (c1.Count + 1), Aux := 0 } c2 c3 (out_8 ++ [Event.mk 2 (IntKind.i64.wrap (c1.From + r1)) 1099511627776 c1.Prev 0 (bs []) 6])
 else
 none
 else
 bif decide ((out_8.length + 1) * 64 ≤ 140737488355328) then
 k_l11 c0 { c1 with Count := IntKind.i64.wrap (c1.Count + 1), Aux := 0 } c2 c3 (out_8 ++ [Event.mk 2 (IntKind.i64.wrap (c1.From + r1)) 1099511627776 c1.Prev 0 (bs []) 0])
 else
 none
 else
 bif c1.Aux == 1 then
 bif decide ((out_8.length + 1) * 64 ≤ 140737488355328) then
 k_l11 c0 { c1 with Count := IntKind.i64.wrap (c1.Count + 1), Aux := 0 } c2 c3 (out_8 ++ [Event.mk 2 (IntKind.i64.wrap (c1.From + r1)) (IntKind.i64.wrap (c1.From + r2)) c1.Prev 0 (bs []) 6])
 else
 none
 else
 bif decide ((out_8.length + 1) * 64 ≤ 140737488355328) then
 k_l11 c0 { c1 with Count := IntKind.i64.wrap (c1.Count + 1), Aux := 0 } c2 c3 (out_8 ++ [Event.mk 2 (IntKind.i64.wrap (c1.From + r1)) (IntKind.i64.wrap (c1.From + r2)) c1.Prev 0 (bs []) 0])
 else
 none)
 else
 ret c1 out_8
theorem L_ref15_Step_l11_step (m n : Nat) (c0 : Clock) (c1 : State) (c2 : Event) (c3 : State) (out_8 : List Event) : L_ref15_Step_l11 m (n + 1) c0 c1 c2 c3 out_8 = b_ref15_Step_l11 m (fun x0 x1 => some (w_ref15_Step (x0, x1))) (fun c0 c1 c2 c3 out_8 => L_ref15_Step_l11 m n c0 c1 c2 c3 out_8) c0 c1 c2 c3 out_8 := by kernel_rfl
theorem b_ref15_Step_l11_map (m : Nat) {k_l11 : Clock → State → Event → State → List Event → Option (List (RV C))} {q_l11 : Clock → State → Event → State → List Event → Option (State × List Event)} (h_l11 : ∀ c0 c1 c2 c3 out_8, k_l11 c0 c1 c2 c3 out_8 = (q_l11 c0 c1 c2 c3 out_8).map w_ref15_Step) (c0 : Clock) (c1 : State) (c2 : Event) (c3 : State) (out_8 : List Event) : b_ref15_Step_l11 m (fun x0 x1 => some (w_ref15_Step (x0, x1))) k_l11 c0 c1 c2 c3 out_8 = (b_ref15_Step_l11 m (fun x0 x1 => some (x0, x1)) q_l11 c0 c1 c2 c3 out_8).map w_ref15_Step := by
  simp only [b_ref15_Step_l11, cond_map, bind_map, map_none, map_some, h_l11]
noncomputable def ref15_Step_l11 (m : Nat) : Nat → Clock → State → Event → State → List Event → Option (State × List Event)
  | 0, _, _, _, _, _ => none
  | n + 1, c0, c1, c2, c3, out_8 => b_ref15_Step_l11 m (fun x0 x1 => some (x0, x1)) (fun c0 c1 c2 c3 out_8 => ref15_Step_l11 m n c0 c1 c2 c3 out_8) c0 c1 c2 c3 out_8
theorem L_ref15_Step_l11_eq (m : Nat) : ∀ (n : Nat) (c0 : Clock) (c1 : State) (c2 : Event) (c3 : State) (out_8 : List Event), L_ref15_Step_l11 m n c0 c1 c2 c3 out_8 = (ref15_Step_l11 m n c0 c1 c2 c3 out_8).map w_ref15_Step
  | 0, c0, c1, c2, c3, out_8 => by kernel_rfl
  | n + 1, c0, c1, c2, c3, out_8 => by
    rw [L_ref15_Step_l11_step]
    exact b_ref15_Step_l11_map m (fun c0 c1 c2 c3 out_8 => L_ref15_Step_l11_eq m n c0 c1 c2 c3 out_8) c0 c1 c2 c3 out_8
noncomputable def b_ref15_Step {R : Type} (m : Nat) (ret : State → List Event → Option R) (k_l11 : Clock → State → Event → State → List Event → Option R) (c_0 : Clock) (s_1 : State) (e_2 : Event) : Option R :=
 (ref15_Check m c_0).bind fun r0 =>
 bif r0 != 0 then
 ret s_1 []
 else
 (ref15_accepted m s_1 e_2).bind fun r1 =>
 bif !r1 then
 ret s_1 []
 else
 bif s_1.Phase == 0 then
 k_l11 c_0 (State.mk 1 e_2.To e_2.From 0 0 0 e_2.Value (bs [])) e_2 (State.mk 0 0 0 0 0 0 0 (bs [])) []
 else
 bif e_2.Value != s_1.Prev then
 ((ref15_irregular m (Ratio.mk c_0.T_Num c_0.T_Den) (IntKind.i64.wrap (e_2.From - s_1.From))).bind fun r2 =>
 bif r2 then
 k_l11 c_0 (State.mk s_1.Phase e_2.To e_2.From 0 s_1.Acc 1 e_2.Value s_1.Data) e_2 (State.mk 0 0 0 0 0 0 0 (bs [])) []
 else
 k_l11 c_0 { s_1 with At := e_2.To, From := e_2.From, Count := 0, Prev := e_2.Value } e_2 (State.mk 0 0 0 0 0 0 0 (bs [])) [])
 else
 k_l11 c_0 { s_1 with At := e_2.To } e_2 (State.mk 0 0 0 0 0 0 0 (bs [])) []
theorem ref15_Step_pre (m : Nat) (c_0 : Clock) (s_1 : State) (e_2 : Event) : funK Try.prog (Ψ_ref15_Step m) keep m 1 18 [(dS of_Clock cells_Clock of_Clock_ok).e c_0, (dS of_State cells_State of_State_ok).e s_1, (dS of_Event cells_Event of_Event_ok).e e_2] = b_ref15_Step m (fun x0 x1 => some (w_ref15_Step (x0, x1))) (fun c0 c1 c2 c3 out_8 => L_ref15_Step_l11 m m c0 c1 c2 c3 out_8) c_0 s_1 e_2 := by kernel_rfl
theorem b_ref15_Step_map (m : Nat) {k_l11 : Clock → State → Event → State → List Event → Option (List (RV C))} {q_l11 : Clock → State → Event → State → List Event → Option (State × List Event)} (h_l11 : ∀ c0 c1 c2 c3 out_8, k_l11 c0 c1 c2 c3 out_8 = (q_l11 c0 c1 c2 c3 out_8).map w_ref15_Step) (c_0 : Clock) (s_1 : State) (e_2 : Event) : b_ref15_Step m (fun x0 x1 => some (w_ref15_Step (x0, x1))) k_l11 c_0 s_1 e_2 = (b_ref15_Step m (fun x0 x1 => some (x0, x1)) q_l11 c_0 s_1 e_2).map w_ref15_Step := by
  simp only [b_ref15_Step, cond_map, bind_map, map_none, map_some, h_l11]
noncomputable def ref15_Step (m : Nat) (c_0 : Clock) (s_1 : State) (e_2 : Event) : Option (State × List Event) := b_ref15_Step m (fun x0 x1 => some (x0, x1)) (fun c0 c1 c2 c3 out_8 => ref15_Step_l11 m m c0 c1 c2 c3 out_8) c_0 s_1 e_2
theorem ref15_Step_fun (m : Nat) (c_0 : Clock) (s_1 : State) (e_2 : Event) : funK Try.prog (Ψ_ref15_Step m) keep m 1 18 [(dS of_Clock cells_Clock of_Clock_ok).e c_0, (dS of_State cells_State of_State_ok).e s_1, (dS of_Event cells_Event of_Event_ok).e e_2] = (ref15_Step m c_0 s_1 e_2).map w_ref15_Step := by
  rw [ref15_Step_pre]
  exact b_ref15_Step_map m (fun c0 c1 c2 c3 out_8 => L_ref15_Step_l11_eq m m c0 c1 c2 c3 out_8) c_0 s_1 e_2
noncomputable def K_ref15_Step (m : Nat) : KnownF C := mkK (dCons (dS of_Clock cells_Clock of_Clock_ok) (dCons (dS of_State cells_State of_State_ok) (dCons (dS of_Event cells_Event of_Event_ok) dNil))) (fun a => ref15_Step m a.1 a.2.1 a.2.2.1) w_ref15_Step
theorem K_ref15_Step_ok (m : Nat) : KnownAt C Try.prog 18 fun l => (K_ref15_Step m).run _ l some :=
  mkK_known good fit (Ψ_ref15_Step_ok m) (keep := keep) (m := m) (d := 1) fun a => ref15_Step_fun m a.1 a.2.1 a.2.2.1
/-! ### signalbench/sampler.End -/
def w_sampler_End (b : List Event) : List (RV C) := [(dRow 32).e b]
noncomputable def b_sampler_End {R : Type} (m : Nat) (ret : List Event → Option R) (c_0 : Clock) (s_1 : State) : Option R :=
 ret []
theorem sampler_End_pre (m : Nat) (c_0 : Clock) (s_1 : State) : funK Try.prog Ψ0 keep m 1 19 [(dS of_Clock cells_Clock of_Clock_ok).e c_0, (dS of_State cells_State of_State_ok).e s_1] = b_sampler_End m (fun x0 => some (w_sampler_End x0)) c_0 s_1 := by kernel_rfl
theorem b_sampler_End_map (m : Nat) (c_0 : Clock) (s_1 : State) : b_sampler_End m (fun x0 => some (w_sampler_End x0)) c_0 s_1 = (b_sampler_End m (fun x0 => some x0) c_0 s_1).map w_sampler_End := by
  simp only [b_sampler_End, cond_map, bind_map, map_none, map_some]
noncomputable def sampler_End (m : Nat) (c_0 : Clock) (s_1 : State) : Option (List Event) := b_sampler_End m (fun x0 => some x0) c_0 s_1
theorem sampler_End_fun (m : Nat) (c_0 : Clock) (s_1 : State) : funK Try.prog Ψ0 keep m 1 19 [(dS of_Clock cells_Clock of_Clock_ok).e c_0, (dS of_State cells_State of_State_ok).e s_1] = (sampler_End m c_0 s_1).map w_sampler_End := by
  rw [sampler_End_pre]
  exact b_sampler_End_map m c_0 s_1
noncomputable def K_sampler_End (m : Nat) : KnownF C := mkK (dCons (dS of_Clock cells_Clock of_Clock_ok) (dCons (dS of_State cells_State of_State_ok) dNil)) (fun a => sampler_End m a.1 a.2.1) w_sampler_End
theorem K_sampler_End_ok (m : Nat) : KnownAt C Try.prog 19 fun l => (K_sampler_End m).run _ l some :=
  mkK_known good fit Ψ0_ok (keep := keep) (m := m) (d := 1) fun a => sampler_End_fun m a.1 a.2.1
/-! ### signalbench/signalbenchref15.End -/
def w_ref15_End (b : List Event) : List (RV C) := [(dRow 32).e b]
noncomputable def b_ref15_End {R : Type} (m : Nat) (ret : List Event → Option R) (c_0 : Clock) (s_1 : State) : Option R :=
 ret []
theorem ref15_End_pre (m : Nat) (c_0 : Clock) (s_1 : State) : funK Try.prog Ψ0 keep m 1 36 [(dS of_Clock cells_Clock of_Clock_ok).e c_0, (dS of_State cells_State of_State_ok).e s_1] = b_ref15_End m (fun x0 => some (w_ref15_End x0)) c_0 s_1 := by kernel_rfl
theorem b_ref15_End_map (m : Nat) (c_0 : Clock) (s_1 : State) : b_ref15_End m (fun x0 => some (w_ref15_End x0)) c_0 s_1 = (b_ref15_End m (fun x0 => some x0) c_0 s_1).map w_ref15_End := by
  simp only [b_ref15_End, cond_map, bind_map, map_none, map_some]
noncomputable def ref15_End (m : Nat) (c_0 : Clock) (s_1 : State) : Option (List Event) := b_ref15_End m (fun x0 => some x0) c_0 s_1
theorem ref15_End_fun (m : Nat) (c_0 : Clock) (s_1 : State) : funK Try.prog Ψ0 keep m 1 36 [(dS of_Clock cells_Clock of_Clock_ok).e c_0, (dS of_State cells_State of_State_ok).e s_1] = (ref15_End m c_0 s_1).map w_ref15_End := by
  rw [ref15_End_pre]
  exact b_ref15_End_map m c_0 s_1
noncomputable def K_ref15_End (m : Nat) : KnownF C := mkK (dCons (dS of_Clock cells_Clock of_Clock_ok) (dCons (dS of_State cells_State of_State_ok) dNil)) (fun a => ref15_End m a.1 a.2.1) w_ref15_End
theorem K_ref15_End_ok (m : Nat) : KnownAt C Try.prog 36 fun l => (K_ref15_End m).run _ l some :=
  mkK_known good fit Ψ0_ok (keep := keep) (m := m) (d := 1) fun a => ref15_End_fun m a.1 a.2.1
/-! ### signalbench/signalbenchref15.Decode -/
noncomputable def Ψ_ref15_Decode (m : Nat) : Known C := fun f => match f with
  | 14 => some (K_ref15_Check m)
  | 16 => some (K_ref15_Start m)
  | 18 => some (K_ref15_Step m)
  | 36 => some (K_ref15_End m)
  | _ => none
theorem Ψ_ref15_Decode_ok (m : Nat) : KnownOk C Try.prog (Ψ_ref15_Decode m) := by
  intro f φ h
  unfold Ψ_ref15_Decode at h
  split at h
  · injection h with h; subst h; exact K_ref15_Check_ok m
  · injection h with h; subst h; exact K_ref15_Start_ok m
  · injection h with h; subst h; exact K_ref15_Step_ok m
  · injection h with h; subst h; exact K_ref15_End_ok m
  · cases h
def w_ref15_Decode (b : List Event) : List (RV C) := [(dRow 32).e b]
noncomputable def Q_ref15_Decode_6 (m : Nat) : St C → (Exit → St C → Option (List (RV C))) → Option (List (RV C)) := fun σ k => codeK Try.prog (Ψ_ref15_Decode m) (callK Try.prog (Ψ_ref15_Decode m) keep m 0) (keep 20) m (subC body20 [.r, .r, .r, .r, .l, .r, .b, .o]) σ k
noncomputable def KL_ref15_Decode_6 (m : Nat) : Exit → St C → Option (List (RV C)) := contK Try.prog (Ψ_ref15_Decode m) (callK Try.prog (Ψ_ref15_Decode m) keep m 0) (keep 20) m body20 [.r, .r, .r, .r, .l, .r, .b, .o] (leaveK Try.prog Try.f20.results.toList (finK Try.prog Try.f20.resultTypes.toList))
noncomputable def L_ref15_Decode_l6 (m n : Nat) (i_7 : Int) (l_1 : List Event) (c1 : Clock) (out_5 : List Event) (c3 : State) : Option (List (RV C)) := iterK (Q_ref15_Decode_6 m) (St.norm (keep 20 6)) n ({ T := [.dead, .fl (.one (.sl 0)), .fl (.one (.ptr 1 0)), .dead, .dead, .fl (.one (.sl 2)), .fl (.one (.ptr 3 0)), .fl (.one (.int .i64 i_7))] ++ List.replicate 34 .dead, F := [[]], H := [.row 32 false l_1, .box 25 (cells_Clock c1), .row 32 true out_5, .box 40 (cells_State c3)] } : St C) (KL_ref15_Decode_6 m)
noncomputable def b_ref15_Decode_l6 {R : Type} (m : Nat) (ret : List Event → Option R) (k_l6 : Int → List Event → Clock → List Event → State → Option R) (i_7 : Int) (l_1 : List Event) (c1 : Clock) (out_5 : List Event) (c3 : State) : Option R :=
 bif decide (i_7 < (l_1.length : Int)) then
 (bif decide (0 ≤ i_7) then
 (bif decide (i_7 < (l_1.length : Int)) then
 ((ref15_Step m c1 c3 (l_1.getD i_7.toNat dflt_Event)).bind fun r0 =>
 bif decide ((out_5.length + r0.snd.length) * 64 ≤ 140737488355328) then
 k_l6 (IntKind.i64.wrap (i_7 + 1)) l_1 c1 (out_5 ++ r0.snd) r0.fst
 else
 none)
 else
 none)
 else
 none)
 else
 bif decide ((out_5.length + 0) * 64 ≤ 140737488355328) then
 ret (out_5 ++ [])
 else
 none
theorem L_ref15_Decode_l6_step (m n : Nat) (i_7 : Int) (l_1 : List Event) (c1 : Clock) (out_5 : List Event) (c3 : State) : L_ref15_Decode_l6 m (n + 1) i_7 l_1 c1 out_5 c3 = b_ref15_Decode_l6 m (fun x0 => some (w_ref15_Decode x0)) (fun i_7 l_1 c1 out_5 c3 => L_ref15_Decode_l6 m n i_7 l_1 c1 out_5 c3) i_7 l_1 c1 out_5 c3 := by kernel_rfl
theorem b_ref15_Decode_l6_map (m : Nat) {k_l6 : Int → List Event → Clock → List Event → State → Option (List (RV C))} {q_l6 : Int → List Event → Clock → List Event → State → Option (List Event)} (h_l6 : ∀ i_7 l_1 c1 out_5 c3, k_l6 i_7 l_1 c1 out_5 c3 = (q_l6 i_7 l_1 c1 out_5 c3).map w_ref15_Decode) (i_7 : Int) (l_1 : List Event) (c1 : Clock) (out_5 : List Event) (c3 : State) : b_ref15_Decode_l6 m (fun x0 => some (w_ref15_Decode x0)) k_l6 i_7 l_1 c1 out_5 c3 = (b_ref15_Decode_l6 m (fun x0 => some x0) q_l6 i_7 l_1 c1 out_5 c3).map w_ref15_Decode := by
  simp only [b_ref15_Decode_l6, cond_map, bind_map, map_none, map_some, h_l6]
noncomputable def ref15_Decode_l6 (m : Nat) : Nat → Int → List Event → Clock → List Event → State → Option (List Event)
  | 0, _, _, _, _, _ => none
  | n + 1, i_7, l_1, c1, out_5, c3 => b_ref15_Decode_l6 m (fun x0 => some x0) (fun i_7 l_1 c1 out_5 c3 => ref15_Decode_l6 m n i_7 l_1 c1 out_5 c3) i_7 l_1 c1 out_5 c3
theorem L_ref15_Decode_l6_eq (m : Nat) : ∀ (n : Nat) (i_7 : Int) (l_1 : List Event) (c1 : Clock) (out_5 : List Event) (c3 : State), L_ref15_Decode_l6 m n i_7 l_1 c1 out_5 c3 = (ref15_Decode_l6 m n i_7 l_1 c1 out_5 c3).map w_ref15_Decode
  | 0, i_7, l_1, c1, out_5, c3 => by kernel_rfl
  | n + 1, i_7, l_1, c1, out_5, c3 => by
    rw [L_ref15_Decode_l6_step]
    exact b_ref15_Decode_l6_map m (fun i_7 l_1 c1 out_5 c3 => L_ref15_Decode_l6_eq m n i_7 l_1 c1 out_5 c3) i_7 l_1 c1 out_5 c3
noncomputable def b_ref15_Decode {R : Type} (m : Nat) (ret : List Event → Option R) (k_l6 : Int → List Event → Clock → List Event → State → Option R) (c_0 : Clock) (l_1 : List Event) : Option R :=
 (ref15_Check m c_0).bind fun r0 =>
 bif r0 != 0 then
 ret []
 else
 k_l6 0 l_1 c_0 [] (State.mk 0 0 0 0 0 0 0 (bs []))
theorem ref15_Decode_pre (m : Nat) (c_0 : Clock) (l_1 : List Event) : funK Try.prog (Ψ_ref15_Decode m) keep m 1 20 [(dS of_Clock cells_Clock of_Clock_ok).e c_0, (dRow 32).e l_1] = b_ref15_Decode m (fun x0 => some (w_ref15_Decode x0)) (fun i_7 l_1 c1 out_5 c3 => L_ref15_Decode_l6 m m i_7 l_1 c1 out_5 c3) c_0 l_1 := by kernel_rfl
theorem b_ref15_Decode_map (m : Nat) {k_l6 : Int → List Event → Clock → List Event → State → Option (List (RV C))} {q_l6 : Int → List Event → Clock → List Event → State → Option (List Event)} (h_l6 : ∀ i_7 l_1 c1 out_5 c3, k_l6 i_7 l_1 c1 out_5 c3 = (q_l6 i_7 l_1 c1 out_5 c3).map w_ref15_Decode) (c_0 : Clock) (l_1 : List Event) : b_ref15_Decode m (fun x0 => some (w_ref15_Decode x0)) k_l6 c_0 l_1 = (b_ref15_Decode m (fun x0 => some x0) q_l6 c_0 l_1).map w_ref15_Decode := by
  simp only [b_ref15_Decode, cond_map, bind_map, map_none, map_some, h_l6]
noncomputable def ref15_Decode (m : Nat) (c_0 : Clock) (l_1 : List Event) : Option (List Event) := b_ref15_Decode m (fun x0 => some x0) (fun i_7 l_1 c1 out_5 c3 => ref15_Decode_l6 m m i_7 l_1 c1 out_5 c3) c_0 l_1
theorem ref15_Decode_fun (m : Nat) (c_0 : Clock) (l_1 : List Event) : funK Try.prog (Ψ_ref15_Decode m) keep m 1 20 [(dS of_Clock cells_Clock of_Clock_ok).e c_0, (dRow 32).e l_1] = (ref15_Decode m c_0 l_1).map w_ref15_Decode := by
  rw [ref15_Decode_pre]
  exact b_ref15_Decode_map m (fun i_7 l_1 c1 out_5 c3 => L_ref15_Decode_l6_eq m m i_7 l_1 c1 out_5 c3) c_0 l_1
noncomputable def K_ref15_Decode (m : Nat) : KnownF C := mkK (dCons (dS of_Clock cells_Clock of_Clock_ok) (dCons (dRow 32) dNil)) (fun a => ref15_Decode m a.1 a.2.1) w_ref15_Decode
theorem K_ref15_Decode_ok (m : Nat) : KnownAt C Try.prog 20 fun l => (K_ref15_Decode m).run _ l some :=
  mkK_known good fit (Ψ_ref15_Decode_ok m) (keep := keep) (m := m) (d := 1) fun a => ref15_Decode_fun m a.1 a.2.1
/-! ### signalbench/signalbenchlaw15.SamplerDecodes -/
noncomputable def Ψ_law15_SamplerDecodes (m : Nat) : Known C := fun f => match f with
  | 9 => some (K_law15_lives m)
  | 10 => some (K_law15_short m)
  | 15 => some (K_sampler_Start m)
  | 16 => some (K_ref15_Start m)
  | 17 => some (K_sampler_Step m)
  | 18 => some (K_ref15_Step m)
  | 12 => some (K_law15_same m)
  | 19 => some (K_sampler_End m)
  | 13 => some (K_sampler_Decode m)
  | 20 => some (K_ref15_Decode m)
  | _ => none
theorem Ψ_law15_SamplerDecodes_ok (m : Nat) : KnownOk C Try.prog (Ψ_law15_SamplerDecodes m) := by
  intro f φ h
  unfold Ψ_law15_SamplerDecodes at h
  split at h
  · injection h with h; subst h; exact K_law15_lives_ok m
  · injection h with h; subst h; exact K_law15_short_ok m
  · injection h with h; subst h; exact K_sampler_Start_ok m
  · injection h with h; subst h; exact K_ref15_Start_ok m
  · injection h with h; subst h; exact K_sampler_Step_ok m
  · injection h with h; subst h; exact K_ref15_Step_ok m
  · injection h with h; subst h; exact K_law15_same_ok m
  · injection h with h; subst h; exact K_sampler_End_ok m
  · injection h with h; subst h; exact K_sampler_Decode_ok m
  · injection h with h; subst h; exact K_ref15_Decode_ok m
  · cases h
def w_law15_SamplerDecodes (b : Bool) : List (RV C) := [dBool.e b]
noncomputable def Q_law15_SamplerDecodes_7 (m : Nat) : St C → (Exit → St C → Option (List (RV C))) → Option (List (RV C)) := fun σ k => codeK Try.prog (Ψ_law15_SamplerDecodes m) (callK Try.prog (Ψ_law15_SamplerDecodes m) keep m 0) (keep 5) m (subC body5 [.r, .r, .r, .r, .l, .r, .b, .o]) σ k
noncomputable def KL_law15_SamplerDecodes_7 (m : Nat) : Exit → St C → Option (List (RV C)) := contK Try.prog (Ψ_law15_SamplerDecodes m) (callK Try.prog (Ψ_law15_SamplerDecodes m) keep m 0) (keep 5) m body5 [.r, .r, .r, .r, .l, .r, .b, .o] (leaveK Try.prog Try.f5.results.toList (finK Try.prog Try.f5.resultTypes.toList))
noncomputable def L_law15_SamplerDecodes_l7 (m n : Nat) (i_7 : Int) (l_1 : List Event) (c1 : Clock) (c2 : State) (c3 : State) : Option (List (RV C)) := iterK (Q_law15_SamplerDecodes_7 m) (St.norm (keep 5 7)) n ({ T := [.dead, .fl (.one (.sl 0)), .fl (.one (.ptr 1 0)), .dead, .dead, .fl (.one (.ptr 2 0)), .fl (.one (.ptr 3 0)), .fl (.one (.int .i64 i_7))] ++ List.replicate 60 .dead, F := [[]], H := [.row 32 false l_1, .box 25 (cells_Clock c1), .box 40 (cells_State c2), .box 40 (cells_State c3)] } : St C) (KL_law15_SamplerDecodes_7 m)
noncomputable def b_law15_SamplerDecodes_l7 {R : Type} (m : Nat) (ret : Bool → Option R) (k_l7 : Int → List Event → Clock → State → State → Option R) (i_7 : Int) (l_1 : List Event) (c1 : Clock) (c2 : State) (c3 : State) : Option R :=
 bif decide (i_7 < (l_1.length : Int)) then
 (bif decide (0 ≤ i_7) then
 (bif decide (i_7 < (l_1.length : Int)) then
 ((sampler_Step m c1 c2 (l_1.getD i_7.toNat dflt_Event)).bind fun r0 =>
 bif decide (0 ≤ i_7) then
 (bif decide (i_7 < (l_1.length : Int)) then
 ((ref15_Step m c1 c3 (l_1.getD i_7.toNat dflt_Event)).bind fun r1 =>
 (law15_same m r0.snd r1.snd).bind fun r2 =>
 bif !r2 then
 ret false
 else
 k_l7 (IntKind.i64.wrap (i_7 + 1)) l_1 c1 r0.fst r1.fst)
 else
 none)
 else
 none)
 else
 none)
 else
 none)
 else
 (sampler_Decode m c1 l_1).bind fun r3 =>
 (ref15_Decode m c1 l_1).bind fun r4 =>
 (law15_same m r3 r4).bind fun r5 =>
 ret r5
theorem L_law15_SamplerDecodes_l7_step (m n : Nat) (i_7 : Int) (l_1 : List Event) (c1 : Clock) (c2 : State) (c3 : State) : L_law15_SamplerDecodes_l7 m (n + 1) i_7 l_1 c1 c2 c3 = b_law15_SamplerDecodes_l7 m (fun x0 => some (w_law15_SamplerDecodes x0)) (fun i_7 l_1 c1 c2 c3 => L_law15_SamplerDecodes_l7 m n i_7 l_1 c1 c2 c3) i_7 l_1 c1 c2 c3 := by kernel_rfl
theorem b_law15_SamplerDecodes_l7_map (m : Nat) {k_l7 : Int → List Event → Clock → State → State → Option (List (RV C))} {q_l7 : Int → List Event → Clock → State → State → Option (Bool)} (h_l7 : ∀ i_7 l_1 c1 c2 c3, k_l7 i_7 l_1 c1 c2 c3 = (q_l7 i_7 l_1 c1 c2 c3).map w_law15_SamplerDecodes) (i_7 : Int) (l_1 : List Event) (c1 : Clock) (c2 : State) (c3 : State) : b_law15_SamplerDecodes_l7 m (fun x0 => some (w_law15_SamplerDecodes x0)) k_l7 i_7 l_1 c1 c2 c3 = (b_law15_SamplerDecodes_l7 m (fun x0 => some x0) q_l7 i_7 l_1 c1 c2 c3).map w_law15_SamplerDecodes := by
  simp only [b_law15_SamplerDecodes_l7, cond_map, bind_map, map_none, map_some, h_l7]
noncomputable def law15_SamplerDecodes_l7 (m : Nat) : Nat → Int → List Event → Clock → State → State → Option (Bool)
  | 0, _, _, _, _, _ => none
  | n + 1, i_7, l_1, c1, c2, c3 => b_law15_SamplerDecodes_l7 m (fun x0 => some x0) (fun i_7 l_1 c1 c2 c3 => law15_SamplerDecodes_l7 m n i_7 l_1 c1 c2 c3) i_7 l_1 c1 c2 c3
theorem L_law15_SamplerDecodes_l7_eq (m : Nat) : ∀ (n : Nat) (i_7 : Int) (l_1 : List Event) (c1 : Clock) (c2 : State) (c3 : State), L_law15_SamplerDecodes_l7 m n i_7 l_1 c1 c2 c3 = (law15_SamplerDecodes_l7 m n i_7 l_1 c1 c2 c3).map w_law15_SamplerDecodes
  | 0, i_7, l_1, c1, c2, c3 => by kernel_rfl
  | n + 1, i_7, l_1, c1, c2, c3 => by
    rw [L_law15_SamplerDecodes_l7_step]
    exact b_law15_SamplerDecodes_l7_map m (fun i_7 l_1 c1 c2 c3 => L_law15_SamplerDecodes_l7_eq m n i_7 l_1 c1 c2 c3) i_7 l_1 c1 c2 c3
noncomputable def b_law15_SamplerDecodes {R : Type} (m : Nat) (ret : Bool → Option R) (k_l7 : Int → List Event → Clock → State → State → Option R) (c_0 : Clock) (l_1 : List Event) : Option R :=
 (law15_lives m).bind fun r0 =>
 bif !r0 then
 ret false
 else
 (law15_short m c_0 l_1).bind fun r1 =>
 bif !r1 then
 ret true
 else
 k_l7 0 l_1 c_0 (State.mk 0 0 0 0 0 0 0 (bs [])) (State.mk 0 0 0 0 0 0 0 (bs []))
theorem law15_SamplerDecodes_pre (m : Nat) (c_0 : Clock) (l_1 : List Event) : funK Try.prog (Ψ_law15_SamplerDecodes m) keep m 1 5 [(dS of_Clock cells_Clock of_Clock_ok).e c_0, (dRow 32).e l_1] = b_law15_SamplerDecodes m (fun x0 => some (w_law15_SamplerDecodes x0)) (fun i_7 l_1 c1 c2 c3 => L_law15_SamplerDecodes_l7 m m i_7 l_1 c1 c2 c3) c_0 l_1 := by kernel_rfl
theorem b_law15_SamplerDecodes_map (m : Nat) {k_l7 : Int → List Event → Clock → State → State → Option (List (RV C))} {q_l7 : Int → List Event → Clock → State → State → Option (Bool)} (h_l7 : ∀ i_7 l_1 c1 c2 c3, k_l7 i_7 l_1 c1 c2 c3 = (q_l7 i_7 l_1 c1 c2 c3).map w_law15_SamplerDecodes) (c_0 : Clock) (l_1 : List Event) : b_law15_SamplerDecodes m (fun x0 => some (w_law15_SamplerDecodes x0)) k_l7 c_0 l_1 = (b_law15_SamplerDecodes m (fun x0 => some x0) q_l7 c_0 l_1).map w_law15_SamplerDecodes := by
  simp only [b_law15_SamplerDecodes, cond_map, bind_map, map_none, map_some, h_l7]
noncomputable def law15_SamplerDecodes (m : Nat) (c_0 : Clock) (l_1 : List Event) : Option (Bool) := b_law15_SamplerDecodes m (fun x0 => some x0) (fun i_7 l_1 c1 c2 c3 => law15_SamplerDecodes_l7 m m i_7 l_1 c1 c2 c3) c_0 l_1
theorem law15_SamplerDecodes_fun (m : Nat) (c_0 : Clock) (l_1 : List Event) : funK Try.prog (Ψ_law15_SamplerDecodes m) keep m 1 5 [(dS of_Clock cells_Clock of_Clock_ok).e c_0, (dRow 32).e l_1] = (law15_SamplerDecodes m c_0 l_1).map w_law15_SamplerDecodes := by
  rw [law15_SamplerDecodes_pre]
  exact b_law15_SamplerDecodes_map m (fun i_7 l_1 c1 c2 c3 => L_law15_SamplerDecodes_l7_eq m m i_7 l_1 c1 c2 c3) c_0 l_1
noncomputable def K_law15_SamplerDecodes (m : Nat) : KnownF C := mkK (dCons (dS of_Clock cells_Clock of_Clock_ok) (dCons (dRow 32) dNil)) (fun a => law15_SamplerDecodes m a.1 a.2.1) w_law15_SamplerDecodes
theorem K_law15_SamplerDecodes_ok (m : Nat) : KnownAt C Try.prog 5 fun l => (K_law15_SamplerDecodes m).run _ l some :=
  mkK_known good fit (Ψ_law15_SamplerDecodes_ok m) (keep := keep) (m := m) (d := 1) fun a => law15_SamplerDecodes_fun m a.1 a.2.1
/-! ### signalbench/bits.Valid -/
def w_bits_Valid (b : Bool) : List (RV C) := [dBool.e b]
noncomputable def Q_bits_Valid_4 (m : Nat) : St C → (Exit → St C → Option (List (RV C))) → Option (List (RV C)) := fun σ k => codeK Try.prog Ψ0 (callK Try.prog Ψ0 keep m 0) (keep 49) m (subC body49 [.r, .r, .l, .r, .b, .o]) σ k
noncomputable def KL_bits_Valid_4 (m : Nat) : Exit → St C → Option (List (RV C)) := contK Try.prog Ψ0 (callK Try.prog Ψ0 keep m 0) (keep 49) m body49 [.r, .r, .l, .r, .b, .o] (leaveK Try.prog Try.f49.results.toList (finK Try.prog Try.f49.resultTypes.toList))
noncomputable def L_bits_Valid_l4 (m n : Nat) (s_0 : ByteArray) (t8 : Int) (t9 : Int) : Option (List (RV C)) := iterK (Q_bits_Valid_4 m) (St.norm (keep 49 4)) n ({ T := [.fl (.one (.str s_0)), .dead, .dead, .dead, .dead, .dead, .dead, .dead, .fl (.one (.int .i64 t8)), .fl (.one (.int .i64 t9))] ++ List.replicate 13 .dead, F := [[]], H := [] } : St C) (KL_bits_Valid_4 m)
noncomputable def b_bits_Valid_l4 {R : Type} (m : Nat) (ret : Bool → Option R) (k_l4 : ByteArray → Int → Int → Option R) (s_0 : ByteArray) (t8 : Int) (t9 : Int) : Option R :=
 bif decide (t9 < t8) then
 bif decide (0 ≤ t9) then
 bif decide (t9 < (s_0.size : Int)) then
 bif byteAt s_0 t9 != 48 then
 bif decide (0 ≤ t9) then
 bif decide (t9 < (s_0.size : Int)) then
 bif byteAt s_0 t9 != 49 then
 ret false
 else
 k_l4 s_0 t8 (IntKind.i64.wrap (t9 + 1))
 else
 none
 else
 none
 else
 k_l4 s_0 t8 (IntKind.i64.wrap (t9 + 1))
 else
 none
 else
 none
 else
 ret true
theorem L_bits_Valid_l4_step (m n : Nat) (s_0 : ByteArray) (t8 : Int) (t9 : Int) : L_bits_Valid_l4 m (n + 1) s_0 t8 t9 = b_bits_Valid_l4 m (fun x0 => some (w_bits_Valid x0)) (fun s_0 t8 t9 => L_bits_Valid_l4 m n s_0 t8 t9) s_0 t8 t9 := by kernel_rfl
theorem b_bits_Valid_l4_map (m : Nat) {k_l4 : ByteArray → Int → Int → Option (List (RV C))} {q_l4 : ByteArray → Int → Int → Option (Bool)} (h_l4 : ∀ s_0 t8 t9, k_l4 s_0 t8 t9 = (q_l4 s_0 t8 t9).map w_bits_Valid) (s_0 : ByteArray) (t8 : Int) (t9 : Int) : b_bits_Valid_l4 m (fun x0 => some (w_bits_Valid x0)) k_l4 s_0 t8 t9 = (b_bits_Valid_l4 m (fun x0 => some x0) q_l4 s_0 t8 t9).map w_bits_Valid := by
  simp only [b_bits_Valid_l4, cond_map, bind_map, map_none, map_some, h_l4]
noncomputable def bits_Valid_l4 (m : Nat) : Nat → ByteArray → Int → Int → Option (Bool)
  | 0, _, _, _ => none
  | n + 1, s_0, t8, t9 => b_bits_Valid_l4 m (fun x0 => some x0) (fun s_0 t8 t9 => bits_Valid_l4 m n s_0 t8 t9) s_0 t8 t9
theorem L_bits_Valid_l4_eq (m : Nat) : ∀ (n : Nat) (s_0 : ByteArray) (t8 : Int) (t9 : Int), L_bits_Valid_l4 m n s_0 t8 t9 = (bits_Valid_l4 m n s_0 t8 t9).map w_bits_Valid
  | 0, s_0, t8, t9 => by kernel_rfl
  | n + 1, s_0, t8, t9 => by
    rw [L_bits_Valid_l4_step]
    exact b_bits_Valid_l4_map m (fun s_0 t8 t9 => L_bits_Valid_l4_eq m n s_0 t8 t9) s_0 t8 t9
noncomputable def b_bits_Valid {R : Type} (m : Nat) (ret : Bool → Option R) (k_l4 : ByteArray → Int → Int → Option R) (s_0 : ByteArray) : Option R :=
 bif decide ((s_0.size : Int) > 65536) then
 ret false
 else
 k_l4 s_0 (s_0.size : Int) 0
theorem bits_Valid_pre (m : Nat) (s_0 : ByteArray) : funK Try.prog Ψ0 keep m 1 49 [dStr.e s_0] = b_bits_Valid m (fun x0 => some (w_bits_Valid x0)) (fun s_0 t8 t9 => L_bits_Valid_l4 m m s_0 t8 t9) s_0 := by kernel_rfl
theorem b_bits_Valid_map (m : Nat) {k_l4 : ByteArray → Int → Int → Option (List (RV C))} {q_l4 : ByteArray → Int → Int → Option (Bool)} (h_l4 : ∀ s_0 t8 t9, k_l4 s_0 t8 t9 = (q_l4 s_0 t8 t9).map w_bits_Valid) (s_0 : ByteArray) : b_bits_Valid m (fun x0 => some (w_bits_Valid x0)) k_l4 s_0 = (b_bits_Valid m (fun x0 => some x0) q_l4 s_0).map w_bits_Valid := by
  simp only [b_bits_Valid, cond_map, bind_map, map_none, map_some, h_l4]
noncomputable def bits_Valid (m : Nat) (s_0 : ByteArray) : Option (Bool) := b_bits_Valid m (fun x0 => some x0) (fun s_0 t8 t9 => bits_Valid_l4 m m s_0 t8 t9) s_0
theorem bits_Valid_fun (m : Nat) (s_0 : ByteArray) : funK Try.prog Ψ0 keep m 1 49 [dStr.e s_0] = (bits_Valid m s_0).map w_bits_Valid := by
  rw [bits_Valid_pre]
  exact b_bits_Valid_map m (fun s_0 t8 t9 => L_bits_Valid_l4_eq m m s_0 t8 t9) s_0
noncomputable def K_bits_Valid (m : Nat) : KnownF C := mkK (dCons dStr dNil) (fun a => bits_Valid m a.1) w_bits_Valid
theorem K_bits_Valid_ok (m : Nat) : KnownAt C Try.prog 49 fun l => (K_bits_Valid m).run _ l some :=
  mkK_known good fit Ψ0_ok (keep := keep) (m := m) (d := 1) fun a => bits_Valid_fun m a.1
/-! ### signalbench/sampler.checkItem -/
noncomputable def Ψ_sampler_checkItem (m : Nat) : Known C := fun f => match f with
  | 49 => some (K_bits_Valid m)
  | _ => none
theorem Ψ_sampler_checkItem_ok (m : Nat) : KnownOk C Try.prog (Ψ_sampler_checkItem m) := by
  intro f φ h
  unfold Ψ_sampler_checkItem at h
  split at h
  · injection h with h; subst h; exact K_bits_Valid_ok m
  · cases h
def w_sampler_checkItem (b : Int) : List (RV C) := [(dInt .i64).e b]
noncomputable def b_sampler_checkItem {R : Type} (m : Nat) (ret : Int → Option R) (x_0 : Item) : Option R :=
 bif x_0.Gap != 0 then
 ret 1
 else
 bif decide ((x_0.Data.size : Int) > 4096) then
 ret 6
 else
 (bits_Valid m x_0.Data).bind fun r0 =>
 bif !r0 then
 ret 4
 else
 bif x_0.Value != 0 then
 ret 1
 else
 bif x_0.Aux != 0 then
 ret 1
 else
 bif x_0.Fault != 0 then
 ret 1
 else
 ret 0
theorem sampler_checkItem_pre (m : Nat) (x_0 : Item) : funK Try.prog (Ψ_sampler_checkItem m) keep m 1 37 [(dS of_Item cells_Item of_Item_ok).e x_0] = b_sampler_checkItem m (fun x0 => some (w_sampler_checkItem x0)) x_0 := by kernel_rfl
theorem b_sampler_checkItem_map (m : Nat) (x_0 : Item) : b_sampler_checkItem m (fun x0 => some (w_sampler_checkItem x0)) x_0 = (b_sampler_checkItem m (fun x0 => some x0) x_0).map w_sampler_checkItem := by
  simp only [b_sampler_checkItem, cond_map, bind_map, map_none, map_some]
noncomputable def sampler_checkItem (m : Nat) (x_0 : Item) : Option (Int) := b_sampler_checkItem m (fun x0 => some x0) x_0
theorem sampler_checkItem_fun (m : Nat) (x_0 : Item) : funK Try.prog (Ψ_sampler_checkItem m) keep m 1 37 [(dS of_Item cells_Item of_Item_ok).e x_0] = (sampler_checkItem m x_0).map w_sampler_checkItem := by
  rw [sampler_checkItem_pre]
  exact b_sampler_checkItem_map m x_0
noncomputable def K_sampler_checkItem (m : Nat) : KnownF C := mkK (dCons (dS of_Item cells_Item of_Item_ok) dNil) (fun a => sampler_checkItem m a.1) w_sampler_checkItem
theorem K_sampler_checkItem_ok (m : Nat) : KnownAt C Try.prog 37 fun l => (K_sampler_checkItem m).run _ l some :=
  mkK_known good fit (Ψ_sampler_checkItem_ok m) (keep := keep) (m := m) (d := 1) fun a => sampler_checkItem_fun m a.1
/-! ### signalbench/sampler.Encode -/
noncomputable def Ψ_sampler_Encode (m : Nat) : Known C := fun f => match f with
  | 22 => some (K_sampler_Check m)
  | 37 => some (K_sampler_checkItem m)
  | 38 => some (K_sampler_machine_boundary m)
  | _ => none
theorem Ψ_sampler_Encode_ok (m : Nat) : KnownOk C Try.prog (Ψ_sampler_Encode m) := by
  intro f φ h
  unfold Ψ_sampler_Encode at h
  split at h
  · injection h with h; subst h; exact K_sampler_Check_ok m
  · injection h with h; subst h; exact K_sampler_checkItem_ok m
  · injection h with h; subst h; exact K_sampler_machine_boundary_ok m
  · cases h
def w_sampler_Encode (b : List Run × Int) : List (RV C) := [(dRow 54).e b.1, (dInt .i64).e b.2]
noncomputable def Q_sampler_Encode_7 (m : Nat) : St C → (Exit → St C → Option (List (RV C))) → Option (List (RV C)) := fun σ k => codeK Try.prog (Ψ_sampler_Encode m) (callK Try.prog (Ψ_sampler_Encode m) keep m 0) (keep 21) m (subC body21 [.r, .r, .r, .l, .r, .b, .o]) σ k
noncomputable def KL_sampler_Encode_7 (m : Nat) : Exit → St C → Option (List (RV C)) := contK Try.prog (Ψ_sampler_Encode m) (callK Try.prog (Ψ_sampler_Encode m) keep m 0) (keep 21) m body21 [.r, .r, .r, .l, .r, .b, .o] (leaveK Try.prog Try.f21.results.toList (finK Try.prog Try.f21.resultTypes.toList))
noncomputable def Q_sampler_Encode_17 (m : Nat) : St C → (Exit → St C → Option (List (RV C))) → Option (List (RV C)) := fun σ k => codeK Try.prog (Ψ_sampler_Encode m) (callK Try.prog (Ψ_sampler_Encode m) keep m 0) (keep 21) m (subC body21 [.r, .r, .r, .r, .r, .r, .r, .l, .r, .b, .o]) σ k
noncomputable def KL_sampler_Encode_17 (m : Nat) : Exit → St C → Option (List (RV C)) := contK Try.prog (Ψ_sampler_Encode m) (callK Try.prog (Ψ_sampler_Encode m) keep m 0) (keep 21) m body21 [.r, .r, .r, .r, .r, .r, .r, .l, .r, .b, .o] (leaveK Try.prog Try.f21.results.toList (finK Try.prog Try.f21.resultTypes.toList))
noncomputable def Q_sampler_Encode_20 (m : Nat) : St C → (Exit → St C → Option (List (RV C))) → Option (List (RV C)) := fun σ k => codeK Try.prog (Ψ_sampler_Encode m) (callK Try.prog (Ψ_sampler_Encode m) keep m 0) (keep 21) m (subC (subC body21 [.r, .r, .r, .r, .r, .r, .r, .l, .r, .b, .o]) [.r, .r, .l, .b, .r, .r, .b, .o]) σ k
noncomputable def KL_sampler_Encode_20 (m : Nat) (n17 : Nat) : Exit → St C → Option (List (RV C)) := contK Try.prog (Ψ_sampler_Encode m) (callK Try.prog (Ψ_sampler_Encode m) keep m 0) (keep 21) m (subC body21 [.r, .r, .r, .r, .r, .r, .r, .l, .r, .b, .o]) [.r, .r, .l, .b, .r, .r, .b, .o] (rndK (Q_sampler_Encode_17 m) (St.norm (keep 21 17)) n17 (KL_sampler_Encode_17 m))
noncomputable def L_sampler_Encode_l7 (m n : Nat) (t28 : Int) (t29 : Int) (l_1 : List Item) (c1 : Clock) : Option (List (RV C)) := iterK (Q_sampler_Encode_7 m) (St.norm (keep 21 7)) n ({ T := [.dead, .fl (.one (.sl 0)), .fl (.one (.ptr 1 0)), .dead, .dead, .dead, .dead, .dead, .dead, .dead, .dead, .dead, .dead, .dead, .dead, .dead, .dead, .dead, .dead, .dead, .dead, .dead, .dead, .dead, .dead, .dead, .dead, .fl (.one (.sl 0)), .fl (.one (.int .i64 t28)), .fl (.one (.int .i64 t29))] ++ List.replicate 80 .dead, F := [[]], H := [.row 49 false l_1, .box 25 (cells_Clock c1)] } : St C) (KL_sampler_Encode_7 m)
noncomputable def L_sampler_Encode_l17 (m n : Nat) (n_12 : Int) (t43 : Int) (t44 : Int) (c0 : Sampler_machine) (out_11 : List Run) (t42 : List Item) : Option (List (RV C)) := iterK (Q_sampler_Encode_17 m) (St.norm (keep 21 17)) n ({ T := [.dead, .dead, .dead, .dead, .dead, .dead, .dead, .dead, .dead, .dead, .fl (.one (.ptr 0 0)), .fl (.one (.sl 1)), .fl (.one (.int .i64 n_12)), .dead, .dead, .dead, .dead, .dead, .dead, .dead, .dead, .dead, .dead, .dead, .dead, .dead, .dead, .dead, .dead, .dead, .dead, .dead, .dead, .dead, .dead, .dead, .dead, .dead, .dead, .dead, .dead, .dead, .fl (.one (.sl 2)), .fl (.one (.int .i64 t43)), .fl (.one (.int .i64 t44))] ++ List.replicate 65 .dead, F := [[]], H := [.box 62 (cells_Sampler_machine c0), .row 54 true out_11, .row 49 false t42] } : St C) (KL_sampler_Encode_17 m)
noncomputable def L_sampler_Encode_l20 (m n17 n : Nat) (n_12 : Int) (t43 : Int) (t44 : Int) (t50 : Int) (t51 : Int) (c0 : Sampler_machine) (out_11 : List Run) (c2 : Item) (t42 : List Item) : Option (List (RV C)) := iterK (Q_sampler_Encode_20 m) (St.norm (keep 21 20)) n ({ T := [.dead, .dead, .dead, .dead, .dead, .dead, .dead, .dead, .dead, .dead, .fl (.one (.ptr 0 0)), .fl (.one (.sl 1)), .fl (.one (.int .i64 n_12)), .dead, .fl (.one (.ptr 2 0)), .dead, .dead, .dead, .dead, .dead, .dead, .dead, .dead, .dead, .dead, .dead, .dead, .dead, .dead, .dead, .dead, .dead, .dead, .dead, .dead, .dead, .dead, .dead, .dead, .dead, .dead, .dead, .fl (.one (.sl 3)), .fl (.one (.int .i64 t43)), .fl (.one (.int .i64 t44)), .dead, .dead, .dead, .dead, .dead, .fl (.one (.int .i64 t50)), .fl (.one (.int .i64 t51))] ++ List.replicate 58 .dead, F := [[]], H := [.box 62 (cells_Sampler_machine c0), .row 54 true out_11, .box 49 (cells_Item c2), .row 49 false t42] } : St C) (KL_sampler_Encode_20 m n17)
noncomputable def b_sampler_Encode_l20 {R : Type} (m : Nat) (ret : List Run → Int → Option R) (k_l20 : Int → Int → Int → Int → Int → Sampler_machine → List Run → Item → List Item → Option R) (k_l17 : Int → Int → Int → Sampler_machine → List Run → List Item → Option R) (n_12 : Int) (t43 : Int) (t44 : Int) (t50 : Int) (t51 : Int) (c0 : Sampler_machine) (out_11 : List Run) (c2 : Item) (t42 : List Item) : Option R :=
 bif decide (t51 < t50) then
 (bif decide (0 ≤ t51) then
 (bif decide (t51 < (c2.Data.size : Int)) then
 ((sampler_machine_boundary m c0 (IntKind.i64.wrap (n_12 + 1))).bind fun r0 =>
 (sampler_machine_boundary m c0 n_12).bind fun r1 =>
 bif decide ((out_11.length : Int) > 0) then
 bif decide (0 ≤ IntKind.i64.wrap ((out_11.length : Int) - 1)) then
 bif decide (IntKind.i64.wrap ((out_11.length : Int) - 1) < (out_11.length : Int)) then
 bif (out_11.getD (IntKind.i64.wrap ((out_11.length : Int) - 1)).toNat dflt_Run).Level == IntKind.i64.wrap (IntKind.u8.wrap (byteAt c2.Data t51 - 48)) then
 bif decide (0 ≤ IntKind.i64.wrap ((out_11.length : Int) - 1)) then
 bif decide (IntKind.i64.wrap ((out_11.length : Int) - 1) < (out_11.length : Int)) then
 bif decide (0 ≤ IntKind.i64.wrap ((out_11.length : Int) - 1)) then
 bif decide (IntKind.i64.wrap ((out_11.length : Int) - 1) < (out_11.length : Int)) then
 k_l20 (IntKind.i64.wrap (n_12 + 1)) t43 t44 t50 (IntKind.i64.wrap (t51 + 1)) c0 (out_11.set (IntKind.i64.wrap ((out_11.length : Int) - 1)).toNat (Run.mk (out_11.getD (IntKind.i64.wrap ((out_11.length : Int) - 1)).toNat dflt_Run).Level (IntKind.i64.wrap ((out_11.getD (IntKind.i64.wrap ((out_11.length : Int) - 1)).toNat dflt_Run).Ticks + IntKind.i64.wrap (r0 - r1))))) c2 t42
 else
 none
 else
 none
 else
 none
 else
 none
 else
 bif decide ((out_11.length + 1) * 16 ≤ 140737488355328) then
 k_l20 (IntKind.i64.wrap (n_12 + 1)) t43 t44 t50 (IntKind.i64.wrap (t51 + 1)) c0 (out_11 ++ [Run.mk (IntKind.i64.wrap (IntKind.u8.wrap (byteAt c2.Data t51 - 48))) (IntKind.i64.wrap (r0 - r1))]) c2 t42
 else
 none
 else
 none
 else
 none
 else
 bif decide ((out_11.length + 1) * 16 ≤ 140737488355328) then
 k_l20 (IntKind.i64.wrap (n_12 + 1)) t43 t44 t50 (IntKind.i64.wrap (t51 + 1)) c0 (out_11 ++ [Run.mk (IntKind.i64.wrap (IntKind.u8.wrap (byteAt c2.Data t51 - 48))) (IntKind.i64.wrap (r0 - r1))]) c2 t42
 else
 none)
 else
 none)
 else
 none)
 else
 k_l17 n_12 t43 (IntKind.i64.wrap (t44 + 1)) c0 out_11 t42
theorem L_sampler_Encode_l20_step (m n17 n : Nat) (n_12 : Int) (t43 : Int) (t44 : Int) (t50 : Int) (t51 : Int) (c0 : Sampler_machine) (out_11 : List Run) (c2 : Item) (t42 : List Item) : L_sampler_Encode_l20 m n17 (n + 1) n_12 t43 t44 t50 t51 c0 out_11 c2 t42 = b_sampler_Encode_l20 m (fun x0 x1 => some (w_sampler_Encode (x0, x1))) (fun n_12 t43 t44 t50 t51 c0 out_11 c2 t42 => L_sampler_Encode_l20 m n17 n n_12 t43 t44 t50 t51 c0 out_11 c2 t42) (fun n_12 t43 t44 c0 out_11 t42 => L_sampler_Encode_l17 m n17 n_12 t43 t44 c0 out_11 t42) n_12 t43 t44 t50 t51 c0 out_11 c2 t42 := by kernel_rfl
theorem b_sampler_Encode_l20_map (m : Nat) {k_l20 : Int → Int → Int → Int → Int → Sampler_machine → List Run → Item → List Item → Option (List (RV C))} {q_l20 : Int → Int → Int → Int → Int → Sampler_machine → List Run → Item → List Item → Option (List Run × Int)} (h_l20 : ∀ n_12 t43 t44 t50 t51 c0 out_11 c2 t42, k_l20 n_12 t43 t44 t50 t51 c0 out_11 c2 t42 = (q_l20 n_12 t43 t44 t50 t51 c0 out_11 c2 t42).map w_sampler_Encode) {k_l17 : Int → Int → Int → Sampler_machine → List Run → List Item → Option (List (RV C))} {q_l17 : Int → Int → Int → Sampler_machine → List Run → List Item → Option (List Run × Int)} (h_l17 : ∀ n_12 t43 t44 c0 out_11 t42, k_l17 n_12 t43 t44 c0 out_11 t42 = (q_l17 n_12 t43 t44 c0 out_11 t42).map w_sampler_Encode) (n_12 : Int) (t43 : Int) (t44 : Int) (t50 : Int) (t51 : Int) (c0 : Sampler_machine) (out_11 : List Run) (c2 : Item) (t42 : List Item) : b_sampler_Encode_l20 m (fun x0 x1 => some (w_sampler_Encode (x0, x1))) k_l20 k_l17 n_12 t43 t44 t50 t51 c0 out_11 c2 t42 = (b_sampler_Encode_l20 m (fun x0 x1 => some (x0, x1)) q_l20 q_l17 n_12 t43 t44 t50 t51 c0 out_11 c2 t42).map w_sampler_Encode := by
  simp only [b_sampler_Encode_l20, cond_map, bind_map, map_none, map_some, h_l20, h_l17]
noncomputable def sampler_Encode_l20 (m : Nat) (q_l17 : Int → Int → Int → Sampler_machine → List Run → List Item → Option (List Run × Int)) : Nat → Int → Int → Int → Int → Int → Sampler_machine → List Run → Item → List Item → Option (List Run × Int)
  | 0, _, _, _, _, _, _, _, _, _ => none
  | n + 1, n_12, t43, t44, t50, t51, c0, out_11, c2, t42 => b_sampler_Encode_l20 m (fun x0 x1 => some (x0, x1)) (fun n_12 t43 t44 t50 t51 c0 out_11 c2 t42 => sampler_Encode_l20 m q_l17 n n_12 t43 t44 t50 t51 c0 out_11 c2 t42) q_l17 n_12 t43 t44 t50 t51 c0 out_11 c2 t42
theorem L_sampler_Encode_l20_eq (m n17 : Nat) (q_l17 : Int → Int → Int → Sampler_machine → List Run → List Item → Option (List Run × Int)) (h_l17 : ∀ n_12 t43 t44 c0 out_11 t42, L_sampler_Encode_l17 m n17 n_12 t43 t44 c0 out_11 t42 = (q_l17 n_12 t43 t44 c0 out_11 t42).map w_sampler_Encode) : ∀ (n : Nat) (n_12 : Int) (t43 : Int) (t44 : Int) (t50 : Int) (t51 : Int) (c0 : Sampler_machine) (out_11 : List Run) (c2 : Item) (t42 : List Item), L_sampler_Encode_l20 m n17 n n_12 t43 t44 t50 t51 c0 out_11 c2 t42 = (sampler_Encode_l20 m q_l17 n n_12 t43 t44 t50 t51 c0 out_11 c2 t42).map w_sampler_Encode
  | 0, n_12, t43, t44, t50, t51, c0, out_11, c2, t42 => by kernel_rfl
  | n + 1, n_12, t43, t44, t50, t51, c0, out_11, c2, t42 => by
    rw [L_sampler_Encode_l20_step]
    exact b_sampler_Encode_l20_map m (fun n_12 t43 t44 t50 t51 c0 out_11 c2 t42 => L_sampler_Encode_l20_eq m n17 q_l17 h_l17 n n_12 t43 t44 t50 t51 c0 out_11 c2 t42) h_l17 n_12 t43 t44 t50 t51 c0 out_11 c2 t42
noncomputable def b_sampler_Encode_l17 {R : Type} (m : Nat) (ret : List Run → Int → Option R) (k_l20 : Int → Int → Int → Int → Int → Sampler_machine → List Run → Item → List Item → Option R) (n_12 : Int) (t43 : Int) (t44 : Int) (c0 : Sampler_machine) (out_11 : List Run) (t42 : List Item) : Option R :=
 bif decide (t44 < t43) then
 bif decide (0 ≤ t44) then
 bif decide (t44 < (t42.length : Int)) then
 k_l20 n_12 t43 t44 ((t42.getD t44.toNat dflt_Item).Data.size : Int) 0 c0 out_11 (t42.getD t44.toNat dflt_Item) t42
 else
 none
 else
 none
 else
 bif decide ((out_11.length : Int) > 262144) then
 ret [] 6
 else
 (sampler_machine_boundary m c0 n_12).bind fun r0 =>
 bif decide (r0 > 1099511627776) then
 ret [] 2
 else
 ret out_11 0
theorem L_sampler_Encode_l17_step (m n : Nat) (n_12 : Int) (t43 : Int) (t44 : Int) (c0 : Sampler_machine) (out_11 : List Run) (t42 : List Item) : L_sampler_Encode_l17 m (n + 1) n_12 t43 t44 c0 out_11 t42 = b_sampler_Encode_l17 m (fun x0 x1 => some (w_sampler_Encode (x0, x1))) (fun n_12 t43 t44 t50 t51 c0 out_11 c2 t42 => L_sampler_Encode_l20 m n m n_12 t43 t44 t50 t51 c0 out_11 c2 t42) n_12 t43 t44 c0 out_11 t42 := by kernel_rfl
theorem b_sampler_Encode_l17_map (m : Nat) {k_l20 : Int → Int → Int → Int → Int → Sampler_machine → List Run → Item → List Item → Option (List (RV C))} {q_l20 : Int → Int → Int → Int → Int → Sampler_machine → List Run → Item → List Item → Option (List Run × Int)} (h_l20 : ∀ n_12 t43 t44 t50 t51 c0 out_11 c2 t42, k_l20 n_12 t43 t44 t50 t51 c0 out_11 c2 t42 = (q_l20 n_12 t43 t44 t50 t51 c0 out_11 c2 t42).map w_sampler_Encode) (n_12 : Int) (t43 : Int) (t44 : Int) (c0 : Sampler_machine) (out_11 : List Run) (t42 : List Item) : b_sampler_Encode_l17 m (fun x0 x1 => some (w_sampler_Encode (x0, x1))) k_l20 n_12 t43 t44 c0 out_11 t42 = (b_sampler_Encode_l17 m (fun x0 x1 => some (x0, x1)) q_l20 n_12 t43 t44 c0 out_11 t42).map w_sampler_Encode := by
  simp only [b_sampler_Encode_l17, cond_map, bind_map, map_none, map_some, h_l20]
noncomputable def sampler_Encode_l17 (m : Nat) : Nat → Int → Int → Int → Sampler_machine → List Run → List Item → Option (List Run × Int)
  | 0, _, _, _, _, _, _ => none
  | n + 1, n_12, t43, t44, c0, out_11, t42 => b_sampler_Encode_l17 m (fun x0 x1 => some (x0, x1)) (fun n_12 t43 t44 t50 t51 c0 out_11 c2 t42 => sampler_Encode_l20 m (fun n_12 t43 t44 c0 out_11 t42 => sampler_Encode_l17 m n n_12 t43 t44 c0 out_11 t42) m n_12 t43 t44 t50 t51 c0 out_11 c2 t42) n_12 t43 t44 c0 out_11 t42
theorem L_sampler_Encode_l17_eq (m : Nat) : ∀ (n : Nat) (n_12 : Int) (t43 : Int) (t44 : Int) (c0 : Sampler_machine) (out_11 : List Run) (t42 : List Item), L_sampler_Encode_l17 m n n_12 t43 t44 c0 out_11 t42 = (sampler_Encode_l17 m n n_12 t43 t44 c0 out_11 t42).map w_sampler_Encode
  | 0, n_12, t43, t44, c0, out_11, t42 => by kernel_rfl
  | n + 1, n_12, t43, t44, c0, out_11, t42 => by
    rw [L_sampler_Encode_l17_step]
    exact b_sampler_Encode_l17_map m (fun n_12 t43 t44 t50 t51 c0 out_11 c2 t42 => L_sampler_Encode_l20_eq m n (fun n_12 t43 t44 c0 out_11 t42 => sampler_Encode_l17 m n n_12 t43 t44 c0 out_11 t42) (fun n_12 t43 t44 c0 out_11 t42 => L_sampler_Encode_l17_eq m n n_12 t43 t44 c0 out_11 t42) m n_12 t43 t44 t50 t51 c0 out_11 c2 t42) n_12 t43 t44 c0 out_11 t42
noncomputable def b_sampler_Encode_l7 {R : Type} (m : Nat) (ret : List Run → Int → Option R) (k_l7 : Int → Int → List Item → Clock → Option R) (k_l17 : Int → Int → Int → Sampler_machine → List Run → List Item → Option R) (t28 : Int) (t29 : Int) (l_1 : List Item) (c1 : Clock) : Option R :=
 bif decide (t29 < t28) then
 (bif decide (0 ≤ t29) then
 (bif decide (t29 < (l_1.length : Int)) then
 ((sampler_checkItem m (l_1.getD t29.toNat dflt_Item)).bind fun r0 =>
 bif r0 != 0 then
 ret [] r0
 else
 k_l7 t28 (IntKind.i64.wrap (t29 + 1)) l_1 c1)
 else
 none)
 else
 none)
 else
 k_l17 0 (l_1.length : Int) 0 (Sampler_machine.mk c1.T_Num c1.T_Den) [] l_1
theorem L_sampler_Encode_l7_step (m n : Nat) (t28 : Int) (t29 : Int) (l_1 : List Item) (c1 : Clock) : L_sampler_Encode_l7 m (n + 1) t28 t29 l_1 c1 = b_sampler_Encode_l7 m (fun x0 x1 => some (w_sampler_Encode (x0, x1))) (fun t28 t29 l_1 c1 => L_sampler_Encode_l7 m n t28 t29 l_1 c1) (fun n_12 t43 t44 c0 out_11 t42 => L_sampler_Encode_l17 m m n_12 t43 t44 c0 out_11 t42) t28 t29 l_1 c1 := by kernel_rfl
theorem b_sampler_Encode_l7_map (m : Nat) {k_l7 : Int → Int → List Item → Clock → Option (List (RV C))} {q_l7 : Int → Int → List Item → Clock → Option (List Run × Int)} (h_l7 : ∀ t28 t29 l_1 c1, k_l7 t28 t29 l_1 c1 = (q_l7 t28 t29 l_1 c1).map w_sampler_Encode) {k_l17 : Int → Int → Int → Sampler_machine → List Run → List Item → Option (List (RV C))} {q_l17 : Int → Int → Int → Sampler_machine → List Run → List Item → Option (List Run × Int)} (h_l17 : ∀ n_12 t43 t44 c0 out_11 t42, k_l17 n_12 t43 t44 c0 out_11 t42 = (q_l17 n_12 t43 t44 c0 out_11 t42).map w_sampler_Encode) (t28 : Int) (t29 : Int) (l_1 : List Item) (c1 : Clock) : b_sampler_Encode_l7 m (fun x0 x1 => some (w_sampler_Encode (x0, x1))) k_l7 k_l17 t28 t29 l_1 c1 = (b_sampler_Encode_l7 m (fun x0 x1 => some (x0, x1)) q_l7 q_l17 t28 t29 l_1 c1).map w_sampler_Encode := by
  simp only [b_sampler_Encode_l7, cond_map, bind_map, map_none, map_some, h_l7, h_l17]
noncomputable def sampler_Encode_l7 (m : Nat) : Nat → Int → Int → List Item → Clock → Option (List Run × Int)
  | 0, _, _, _, _ => none
  | n + 1, t28, t29, l_1, c1 => b_sampler_Encode_l7 m (fun x0 x1 => some (x0, x1)) (fun t28 t29 l_1 c1 => sampler_Encode_l7 m n t28 t29 l_1 c1) (fun n_12 t43 t44 c0 out_11 t42 => sampler_Encode_l17 m m n_12 t43 t44 c0 out_11 t42) t28 t29 l_1 c1
theorem L_sampler_Encode_l7_eq (m : Nat) : ∀ (n : Nat) (t28 : Int) (t29 : Int) (l_1 : List Item) (c1 : Clock), L_sampler_Encode_l7 m n t28 t29 l_1 c1 = (sampler_Encode_l7 m n t28 t29 l_1 c1).map w_sampler_Encode
  | 0, t28, t29, l_1, c1 => by kernel_rfl
  | n + 1, t28, t29, l_1, c1 => by
    rw [L_sampler_Encode_l7_step]
    exact b_sampler_Encode_l7_map m (fun t28 t29 l_1 c1 => L_sampler_Encode_l7_eq m n t28 t29 l_1 c1) (fun n_12 t43 t44 c0 out_11 t42 => L_sampler_Encode_l17_eq m m n_12 t43 t44 c0 out_11 t42) t28 t29 l_1 c1
noncomputable def b_sampler_Encode {R : Type} (m : Nat) (ret : List Run → Int → Option R) (k_l7 : Int → Int → List Item → Clock → Option R) (c_0 : Clock) (l_1 : List Item) : Option R :=
 (sampler_Check m c_0).bind fun r0 =>
 bif r0 != 0 then
 ret [] r0
 else
 bif decide ((l_1.length : Int) > 1024) then
 ret [] 6
 else
 k_l7 (l_1.length : Int) 0 l_1 c_0
theorem sampler_Encode_pre (m : Nat) (c_0 : Clock) (l_1 : List Item) : funK Try.prog (Ψ_sampler_Encode m) keep m 1 21 [(dS of_Clock cells_Clock of_Clock_ok).e c_0, (dRow 49).e l_1] = b_sampler_Encode m (fun x0 x1 => some (w_sampler_Encode (x0, x1))) (fun t28 t29 l_1 c1 => L_sampler_Encode_l7 m m t28 t29 l_1 c1) c_0 l_1 := by kernel_rfl
theorem b_sampler_Encode_map (m : Nat) {k_l7 : Int → Int → List Item → Clock → Option (List (RV C))} {q_l7 : Int → Int → List Item → Clock → Option (List Run × Int)} (h_l7 : ∀ t28 t29 l_1 c1, k_l7 t28 t29 l_1 c1 = (q_l7 t28 t29 l_1 c1).map w_sampler_Encode) (c_0 : Clock) (l_1 : List Item) : b_sampler_Encode m (fun x0 x1 => some (w_sampler_Encode (x0, x1))) k_l7 c_0 l_1 = (b_sampler_Encode m (fun x0 x1 => some (x0, x1)) q_l7 c_0 l_1).map w_sampler_Encode := by
  simp only [b_sampler_Encode, cond_map, bind_map, map_none, map_some, h_l7]
noncomputable def sampler_Encode (m : Nat) (c_0 : Clock) (l_1 : List Item) : Option (List Run × Int) := b_sampler_Encode m (fun x0 x1 => some (x0, x1)) (fun t28 t29 l_1 c1 => sampler_Encode_l7 m m t28 t29 l_1 c1) c_0 l_1
theorem sampler_Encode_fun (m : Nat) (c_0 : Clock) (l_1 : List Item) : funK Try.prog (Ψ_sampler_Encode m) keep m 1 21 [(dS of_Clock cells_Clock of_Clock_ok).e c_0, (dRow 49).e l_1] = (sampler_Encode m c_0 l_1).map w_sampler_Encode := by
  rw [sampler_Encode_pre]
  exact b_sampler_Encode_map m (fun t28 t29 l_1 c1 => L_sampler_Encode_l7_eq m m t28 t29 l_1 c1) c_0 l_1
noncomputable def K_sampler_Encode (m : Nat) : KnownF C := mkK (dCons (dS of_Clock cells_Clock of_Clock_ok) (dCons (dRow 49) dNil)) (fun a => sampler_Encode m a.1 a.2.1) w_sampler_Encode
theorem K_sampler_Encode_ok (m : Nat) : KnownAt C Try.prog 21 fun l => (K_sampler_Encode m).run _ l some :=
  mkK_known good fit (Ψ_sampler_Encode_ok m) (keep := keep) (m := m) (d := 1) fun a => sampler_Encode_fun m a.1 a.2.1
/-! ### signalbench/signalbenchlaw15.SamplerChecks -/
noncomputable def Ψ_law15_SamplerChecks (m : Nat) : Known C := fun f => match f with
  | 9 => some (K_law15_lives m)
  | 21 => some (K_sampler_Encode m)
  | 22 => some (K_sampler_Check m)
  | 14 => some (K_ref15_Check m)
  | _ => none
theorem Ψ_law15_SamplerChecks_ok (m : Nat) : KnownOk C Try.prog (Ψ_law15_SamplerChecks m) := by
  intro f φ h
  unfold Ψ_law15_SamplerChecks at h
  split at h
  · injection h with h; subst h; exact K_law15_lives_ok m
  · injection h with h; subst h; exact K_sampler_Encode_ok m
  · injection h with h; subst h; exact K_sampler_Check_ok m
  · injection h with h; subst h; exact K_ref15_Check_ok m
  · cases h
def w_law15_SamplerChecks (b : Bool) : List (RV C) := [dBool.e b]
noncomputable def b_law15_SamplerChecks {R : Type} (m : Nat) (ret : Bool → Option R) (c_0 : Clock) : Option R :=
 (law15_lives m).bind fun r0 =>
 bif !r0 then
 ret false
 else
 (sampler_Encode m c_0 [Item.mk 0 0 0 (bs []) 0]).bind fun r1 =>
 (sampler_Check m c_0).bind fun r2 =>
 (ref15_Check m c_0).bind fun r3 =>
 bif r2 == r3 then
 ((ref15_Check m c_0).bind fun r4 =>
 bif r1.snd == r4 then
 ret ((r1.fst.length : Int) == 0)
 else
 ret false)
 else
 ret false
theorem law15_SamplerChecks_pre (m : Nat) (c_0 : Clock) : funK Try.prog (Ψ_law15_SamplerChecks m) keep m 1 6 [(dS of_Clock cells_Clock of_Clock_ok).e c_0] = b_law15_SamplerChecks m (fun x0 => some (w_law15_SamplerChecks x0)) c_0 := by kernel_rfl
theorem b_law15_SamplerChecks_map (m : Nat) (c_0 : Clock) : b_law15_SamplerChecks m (fun x0 => some (w_law15_SamplerChecks x0)) c_0 = (b_law15_SamplerChecks m (fun x0 => some x0) c_0).map w_law15_SamplerChecks := by
  simp only [b_law15_SamplerChecks, cond_map, bind_map, map_none, map_some]
noncomputable def law15_SamplerChecks (m : Nat) (c_0 : Clock) : Option (Bool) := b_law15_SamplerChecks m (fun x0 => some x0) c_0
theorem law15_SamplerChecks_fun (m : Nat) (c_0 : Clock) : funK Try.prog (Ψ_law15_SamplerChecks m) keep m 1 6 [(dS of_Clock cells_Clock of_Clock_ok).e c_0] = (law15_SamplerChecks m c_0).map w_law15_SamplerChecks := by
  rw [law15_SamplerChecks_pre]
  exact b_law15_SamplerChecks_map m c_0
noncomputable def K_law15_SamplerChecks (m : Nat) : KnownF C := mkK (dCons (dS of_Clock cells_Clock of_Clock_ok) dNil) (fun a => law15_SamplerChecks m a.1) w_law15_SamplerChecks
theorem K_law15_SamplerChecks_ok (m : Nat) : KnownAt C Try.prog 6 fun l => (K_law15_SamplerChecks m).run _ l some :=
  mkK_known good fit (Ψ_law15_SamplerChecks_ok m) (keep := keep) (m := m) (d := 1) fun a => law15_SamplerChecks_fun m a.1
/-! ### signalbench/signalbenchlaw15.few -/
def w_law15_few (b : Bool) : List (RV C) := [dBool.e b]
noncomputable def Q_law15_few_5 (m : Nat) : St C → (Exit → St C → Option (List (RV C))) → Option (List (RV C)) := fun σ k => codeK Try.prog Ψ0 (callK Try.prog Ψ0 keep m 0) (keep 23) m (subC body23 [.r, .r, .r, .l, .r, .b, .o]) σ k
noncomputable def KL_law15_few_5 (m : Nat) : Exit → St C → Option (List (RV C)) := contK Try.prog Ψ0 (callK Try.prog Ψ0 keep m 0) (keep 23) m body23 [.r, .r, .r, .l, .r, .b, .o] (leaveK Try.prog Try.f23.results.toList (finK Try.prog Try.f23.resultTypes.toList))
noncomputable def L_law15_few_l5 (m n : Nat) (n_3 : Int) (i_4 : Int) (l_0 : List Item) : Option (List (RV C)) := iterK (Q_law15_few_5 m) (St.norm (keep 23 5)) n ({ T := [.fl (.one (.sl 0)), .dead, .dead, .fl (.one (.int .i64 n_3)), .fl (.one (.int .i64 i_4))] ++ List.replicate 19 .dead, F := [[]], H := [.row 49 false l_0] } : St C) (KL_law15_few_5 m)
noncomputable def b_law15_few_l5 {R : Type} (m : Nat) (ret : Bool → Option R) (k_l5 : Int → Int → List Item → Option R) (n_3 : Int) (i_4 : Int) (l_0 : List Item) : Option R :=
 bif decide (i_4 < (l_0.length : Int)) then
 bif decide (0 ≤ i_4) then
 bif decide (i_4 < (l_0.length : Int)) then
 bif decide (IntKind.i64.wrap (n_3 + ((l_0.getD i_4.toNat dflt_Item).Data.size : Int)) > 20000) then
 ret false
 else
 k_l5 (IntKind.i64.wrap (n_3 + ((l_0.getD i_4.toNat dflt_Item).Data.size : Int))) (IntKind.i64.wrap (i_4 + 1)) l_0
 else
 none
 else
 none
 else
 ret true
theorem L_law15_few_l5_step (m n : Nat) (n_3 : Int) (i_4 : Int) (l_0 : List Item) : L_law15_few_l5 m (n + 1) n_3 i_4 l_0 = b_law15_few_l5 m (fun x0 => some (w_law15_few x0)) (fun n_3 i_4 l_0 => L_law15_few_l5 m n n_3 i_4 l_0) n_3 i_4 l_0 := by kernel_rfl
theorem b_law15_few_l5_map (m : Nat) {k_l5 : Int → Int → List Item → Option (List (RV C))} {q_l5 : Int → Int → List Item → Option (Bool)} (h_l5 : ∀ n_3 i_4 l_0, k_l5 n_3 i_4 l_0 = (q_l5 n_3 i_4 l_0).map w_law15_few) (n_3 : Int) (i_4 : Int) (l_0 : List Item) : b_law15_few_l5 m (fun x0 => some (w_law15_few x0)) k_l5 n_3 i_4 l_0 = (b_law15_few_l5 m (fun x0 => some x0) q_l5 n_3 i_4 l_0).map w_law15_few := by
  simp only [b_law15_few_l5, cond_map, bind_map, map_none, map_some, h_l5]
noncomputable def law15_few_l5 (m : Nat) : Nat → Int → Int → List Item → Option (Bool)
  | 0, _, _, _ => none
  | n + 1, n_3, i_4, l_0 => b_law15_few_l5 m (fun x0 => some x0) (fun n_3 i_4 l_0 => law15_few_l5 m n n_3 i_4 l_0) n_3 i_4 l_0
theorem L_law15_few_l5_eq (m : Nat) : ∀ (n : Nat) (n_3 : Int) (i_4 : Int) (l_0 : List Item), L_law15_few_l5 m n n_3 i_4 l_0 = (law15_few_l5 m n n_3 i_4 l_0).map w_law15_few
  | 0, n_3, i_4, l_0 => by kernel_rfl
  | n + 1, n_3, i_4, l_0 => by
    rw [L_law15_few_l5_step]
    exact b_law15_few_l5_map m (fun n_3 i_4 l_0 => L_law15_few_l5_eq m n n_3 i_4 l_0) n_3 i_4 l_0
noncomputable def b_law15_few {R : Type} (m : Nat) (ret : Bool → Option R) (k_l5 : Int → Int → List Item → Option R) (l_0 : List Item) : Option R :=
 bif decide ((l_0.length : Int) > 1100) then
 ret false
 else
 k_l5 0 0 l_0
theorem law15_few_pre (m : Nat) (l_0 : List Item) : funK Try.prog Ψ0 keep m 1 23 [(dRow 49).e l_0] = b_law15_few m (fun x0 => some (w_law15_few x0)) (fun n_3 i_4 l_0 => L_law15_few_l5 m m n_3 i_4 l_0) l_0 := by kernel_rfl
theorem b_law15_few_map (m : Nat) {k_l5 : Int → Int → List Item → Option (List (RV C))} {q_l5 : Int → Int → List Item → Option (Bool)} (h_l5 : ∀ n_3 i_4 l_0, k_l5 n_3 i_4 l_0 = (q_l5 n_3 i_4 l_0).map w_law15_few) (l_0 : List Item) : b_law15_few m (fun x0 => some (w_law15_few x0)) k_l5 l_0 = (b_law15_few m (fun x0 => some x0) q_l5 l_0).map w_law15_few := by
  simp only [b_law15_few, cond_map, bind_map, map_none, map_some, h_l5]
noncomputable def law15_few (m : Nat) (l_0 : List Item) : Option (Bool) := b_law15_few m (fun x0 => some x0) (fun n_3 i_4 l_0 => law15_few_l5 m m n_3 i_4 l_0) l_0
theorem law15_few_fun (m : Nat) (l_0 : List Item) : funK Try.prog Ψ0 keep m 1 23 [(dRow 49).e l_0] = (law15_few m l_0).map w_law15_few := by
  rw [law15_few_pre]
  exact b_law15_few_map m (fun n_3 i_4 l_0 => L_law15_few_l5_eq m m n_3 i_4 l_0) l_0
noncomputable def K_law15_few (m : Nat) : KnownF C := mkK (dCons (dRow 49) dNil) (fun a => law15_few m a.1) w_law15_few
theorem K_law15_few_ok (m : Nat) : KnownAt C Try.prog 23 fun l => (K_law15_few m).run _ l some :=
  mkK_known good fit Ψ0_ok (keep := keep) (m := m) (d := 1) fun a => law15_few_fun m a.1
/-! ### signalbench/signalbenchlaw15.SamplerRoundTrips -/
noncomputable def Ψ_law15_SamplerRoundTrips (m : Nat) : Known C := fun f => match f with
  | 9 => some (K_law15_lives m)
  | 23 => some (K_law15_few m)
  | 21 => some (K_sampler_Encode m)
  | 13 => some (K_sampler_Decode m)
  | _ => none
theorem Ψ_law15_SamplerRoundTrips_ok (m : Nat) : KnownOk C Try.prog (Ψ_law15_SamplerRoundTrips m) := by
  intro f φ h
  unfold Ψ_law15_SamplerRoundTrips at h
  split at h
  · injection h with h; subst h; exact K_law15_lives_ok m
  · injection h with h; subst h; exact K_law15_few_ok m
  · injection h with h; subst h; exact K_sampler_Encode_ok m
  · injection h with h; subst h; exact K_sampler_Decode_ok m
  · cases h
def w_law15_SamplerRoundTrips (b : Bool) : List (RV C) := [dBool.e b]
noncomputable def Q_law15_SamplerRoundTrips_10 (m : Nat) : St C → (Exit → St C → Option (List (RV C))) → Option (List (RV C)) := fun σ k => codeK Try.prog (Ψ_law15_SamplerRoundTrips m) (callK Try.prog (Ψ_law15_SamplerRoundTrips m) keep m 0) (keep 7) m (subC body7 [.r, .r, .r, .r, .r, .r, .l, .r, .b, .o]) σ k
noncomputable def KL_law15_SamplerRoundTrips_10 (m : Nat) : Exit → St C → Option (List (RV C)) := contK Try.prog (Ψ_law15_SamplerRoundTrips m) (callK Try.prog (Ψ_law15_SamplerRoundTrips m) keep m 0) (keep 7) m body7 [.r, .r, .r, .r, .r, .r, .l, .r, .b, .o] (leaveK Try.prog Try.f7.results.toList (finK Try.prog Try.f7.resultTypes.toList))
noncomputable def Q_law15_SamplerRoundTrips_16 (m : Nat) : St C → (Exit → St C → Option (List (RV C))) → Option (List (RV C)) := fun σ k => codeK Try.prog (Ψ_law15_SamplerRoundTrips m) (callK Try.prog (Ψ_law15_SamplerRoundTrips m) keep m 0) (keep 7) m (subC body7 [.r, .r, .r, .r, .r, .r, .r, .r, .r, .l, .r, .b, .o]) σ k
noncomputable def KL_law15_SamplerRoundTrips_16 (m : Nat) : Exit → St C → Option (List (RV C)) := contK Try.prog (Ψ_law15_SamplerRoundTrips m) (callK Try.prog (Ψ_law15_SamplerRoundTrips m) keep m 0) (keep 7) m body7 [.r, .r, .r, .r, .r, .r, .r, .r, .r, .l, .r, .b, .o] (leaveK Try.prog Try.f7.results.toList (finK Try.prog Try.f7.resultTypes.toList))
noncomputable def Q_law15_SamplerRoundTrips_26 (m : Nat) : St C → (Exit → St C → Option (List (RV C))) → Option (List (RV C)) := fun σ k => codeK Try.prog (Ψ_law15_SamplerRoundTrips m) (callK Try.prog (Ψ_law15_SamplerRoundTrips m) keep m 0) (keep 7) m (subC body7 [.r, .r, .r, .r, .r, .r, .r, .r, .r, .r, .r, .r, .l, .r, .b, .o]) σ k
noncomputable def KL_law15_SamplerRoundTrips_26 (m : Nat) : Exit → St C → Option (List (RV C)) := contK Try.prog (Ψ_law15_SamplerRoundTrips m) (callK Try.prog (Ψ_law15_SamplerRoundTrips m) keep m 0) (keep 7) m body7 [.r, .r, .r, .r, .r, .r, .r, .r, .r, .r, .r, .r, .l, .r, .b, .o] (leaveK Try.prog Try.f7.results.toList (finK Try.prog Try.f7.resultTypes.toList))
noncomputable def L_law15_SamplerRoundTrips_l10 (m n : Nat) (s_7 : ByteArray) (i_8 : Int) (l_1 : List Item) (c1 : Clock) (runs_5 : List Run) : Option (List (RV C)) := iterK (Q_law15_SamplerRoundTrips_10 m) (St.norm (keep 7 10)) n ({ T := [.dead, .fl (.one (.sl 0)), .fl (.one (.ptr 1 0)), .dead, .dead, .fl (.one (.sl 2)), .dead, .fl (.one (.str s_7)), .fl (.one (.int .i64 i_8))] ++ List.replicate 140 .dead, F := [[]], H := [.row 49 false l_1, .box 25 (cells_Clock c1), .row 54 true runs_5] } : St C) (KL_law15_SamplerRoundTrips_10 m)
noncomputable def L_law15_SamplerRoundTrips_l16 (m n : Nat) (s_7 : ByteArray) (at_10 : Int) (i_11 : Int) (c0 : Clock) (runs_5 : List Run) (in_9 : List Event) : Option (List (RV C)) := iterK (Q_law15_SamplerRoundTrips_16 m) (St.norm (keep 7 16)) n ({ T := [.dead, .dead, .fl (.one (.ptr 0 0)), .dead, .dead, .fl (.one (.sl 1)), .dead, .fl (.one (.str s_7)), .dead, .fl (.one (.sl 2)), .fl (.one (.int .i64 at_10)), .fl (.one (.int .i64 i_11))] ++ List.replicate 137 .dead, F := [[]], H := [.box 25 (cells_Clock c0), .row 54 true runs_5, .row 32 true in_9] } : St C) (KL_law15_SamplerRoundTrips_16 m)
noncomputable def L_law15_SamplerRoundTrips_l26 (m n : Nat) (s_7 : ByteArray) (i_13 : Int) (out_12 : List Event) : Option (List (RV C)) := iterK (Q_law15_SamplerRoundTrips_26 m) (St.norm (keep 7 26)) n ({ T := [.dead, .dead, .dead, .dead, .dead, .dead, .dead, .fl (.one (.str s_7)), .dead, .dead, .dead, .dead, .fl (.one (.sl 0)), .fl (.one (.int .i64 i_13))] ++ List.replicate 135 .dead, F := [[]], H := [.row 32 true out_12] } : St C) (KL_law15_SamplerRoundTrips_26 m)
noncomputable def b_law15_SamplerRoundTrips_l26 {R : Type} (m : Nat) (ret : Bool → Option R) (k_l26 : ByteArray → Int → List Event → Option R) (s_7 : ByteArray) (i_13 : Int) (out_12 : List Event) : Option R :=
 bif decide (i_13 < (out_12.length : Int)) then
 bif decide (0 ≤ i_13) then
 bif decide (i_13 < (out_12.length : Int)) then
 bif (out_12.getD i_13.toNat dflt_Event).Kind != 2 then
 ret false
 else
 bif decide (0 ≤ i_13) then
 bif decide (i_13 < (out_12.length : Int)) then
 bif decide (0 ≤ i_13) then
 bif decide (i_13 < (s_7.size : Int)) then
 bif (out_12.getD i_13.toNat dflt_Event).Value != IntKind.i64.wrap (IntKind.u8.wrap (byteAt s_7 i_13 - 48)) then
 ret false
 else
 bif decide (0 ≤ i_13) then
 bif decide (i_13 < (out_12.length : Int)) then
 bif (out_12.getD i_13.toNat dflt_Event).Fault != 0 then
 ret false
 else
 bif decide (i_13 > 0) then
 bif decide (0 ≤ i_13) then
 bif decide (i_13 < (out_12.length : Int)) then
 bif decide (0 ≤ IntKind.i64.wrap (i_13 - 1)) then
 bif decide (IntKind.i64.wrap (i_13 - 1) < (out_12.length : Int)) then
 bif decide ((out_12.getD i_13.toNat dflt_Event).From < (out_12.getD (IntKind.i64.wrap (i_13 - 1)).toNat dflt_Event).From) then
 ret false
 else
 k_l26 s_7 (IntKind.i64.wrap (i_13 + 1)) out_12
 else
 none
 else
 none
 else
 none
 else
 none
 else
 k_l26 s_7 (IntKind.i64.wrap (i_13 + 1)) out_12
 else
 none
 else
 none
 else
 none
 else
 none
 else
 none
 else
 none
 else
 none
 else
 none
 else
 ret true
theorem L_law15_SamplerRoundTrips_l26_step (m n : Nat) (s_7 : ByteArray) (i_13 : Int) (out_12 : List Event) : L_law15_SamplerRoundTrips_l26 m (n + 1) s_7 i_13 out_12 = b_law15_SamplerRoundTrips_l26 m (fun x0 => some (w_law15_SamplerRoundTrips x0)) (fun s_7 i_13 out_12 => L_law15_SamplerRoundTrips_l26 m n s_7 i_13 out_12) s_7 i_13 out_12 := by kernel_rfl
theorem b_law15_SamplerRoundTrips_l26_map (m : Nat) {k_l26 : ByteArray → Int → List Event → Option (List (RV C))} {q_l26 : ByteArray → Int → List Event → Option (Bool)} (h_l26 : ∀ s_7 i_13 out_12, k_l26 s_7 i_13 out_12 = (q_l26 s_7 i_13 out_12).map w_law15_SamplerRoundTrips) (s_7 : ByteArray) (i_13 : Int) (out_12 : List Event) : b_law15_SamplerRoundTrips_l26 m (fun x0 => some (w_law15_SamplerRoundTrips x0)) k_l26 s_7 i_13 out_12 = (b_law15_SamplerRoundTrips_l26 m (fun x0 => some x0) q_l26 s_7 i_13 out_12).map w_law15_SamplerRoundTrips := by
  simp only [b_law15_SamplerRoundTrips_l26, cond_map, bind_map, map_none, map_some, h_l26]
noncomputable def law15_SamplerRoundTrips_l26 (m : Nat) : Nat → ByteArray → Int → List Event → Option (Bool)
  | 0, _, _, _ => none
  | n + 1, s_7, i_13, out_12 => b_law15_SamplerRoundTrips_l26 m (fun x0 => some x0) (fun s_7 i_13 out_12 => law15_SamplerRoundTrips_l26 m n s_7 i_13 out_12) s_7 i_13 out_12
theorem L_law15_SamplerRoundTrips_l26_eq (m : Nat) : ∀ (n : Nat) (s_7 : ByteArray) (i_13 : Int) (out_12 : List Event), L_law15_SamplerRoundTrips_l26 m n s_7 i_13 out_12 = (law15_SamplerRoundTrips_l26 m n s_7 i_13 out_12).map w_law15_SamplerRoundTrips
  | 0, s_7, i_13, out_12 => by kernel_rfl
  | n + 1, s_7, i_13, out_12 => by
    rw [L_law15_SamplerRoundTrips_l26_step]
    exact b_law15_SamplerRoundTrips_l26_map m (fun s_7 i_13 out_12 => L_law15_SamplerRoundTrips_l26_eq m n s_7 i_13 out_12) s_7 i_13 out_12
noncomputable def b_law15_SamplerRoundTrips_l16 {R : Type} (m : Nat) (ret : Bool → Option R) (k_l16 : ByteArray → Int → Int → Clock → List Run → List Event → Option R) (k_l26 : ByteArray → Int → List Event → Option R) (s_7 : ByteArray) (at_10 : Int) (i_11 : Int) (c0 : Clock) (runs_5 : List Run) (in_9 : List Event) : Option R :=
 bif decide (i_11 < (runs_5.length : Int)) then
 bif decide (0 ≤ i_11) then
 bif decide (i_11 < (runs_5.length : Int)) then
 bif decide ((runs_5.getD i_11.toNat dflt_Run).Ticks < 1) then
 ret false
 else
 bif decide (0 ≤ i_11) then
 bif decide (i_11 < (runs_5.length : Int)) then
 bif decide ((runs_5.getD i_11.toNat dflt_Run).Ticks > IntKind.i64.wrap (1099511627776 - at_10)) then
 ret false
 else
 bif decide (0 ≤ i_11) then
 bif decide (i_11 < (runs_5.length : Int)) then
 bif decide (0 ≤ i_11) then
 bif decide (i_11 < (runs_5.length : Int)) then
 bif decide ((in_9.length + 1) * 64 ≤ 140737488355328) then
 bif decide (0 ≤ i_11) then
 bif decide (i_11 < (runs_5.length : Int)) then
 k_l16 s_7 (IntKind.i64.wrap (at_10 + (runs_5.getD i_11.toNat dflt_Run).Ticks)) (IntKind.i64.wrap (i_11 + 1)) c0 runs_5 (in_9 ++ [Event.mk 1 at_10 (IntKind.i64.wrap (at_10 + (runs_5.getD i_11.toNat dflt_Run).Ticks)) (runs_5.getD i_11.toNat dflt_Run).Level 0 (bs []) 0])
 else
 none
 else
 none
 else
 none
 else
 none
 else
 none
 else
 none
 else
 none
 else
 none
 else
 none
 else
 none
 else
 none
 else
 (sampler_Decode m c0 in_9).bind fun r0 =>
 bif (r0.length : Int) != (s_7.size : Int) then
 ret false
 else
 k_l26 s_7 0 r0
theorem L_law15_SamplerRoundTrips_l16_step (m n : Nat) (s_7 : ByteArray) (at_10 : Int) (i_11 : Int) (c0 : Clock) (runs_5 : List Run) (in_9 : List Event) : L_law15_SamplerRoundTrips_l16 m (n + 1) s_7 at_10 i_11 c0 runs_5 in_9 = b_law15_SamplerRoundTrips_l16 m (fun x0 => some (w_law15_SamplerRoundTrips x0)) (fun s_7 at_10 i_11 c0 runs_5 in_9 => L_law15_SamplerRoundTrips_l16 m n s_7 at_10 i_11 c0 runs_5 in_9) (fun s_7 i_13 out_12 => L_law15_SamplerRoundTrips_l26 m m s_7 i_13 out_12) s_7 at_10 i_11 c0 runs_5 in_9 := by kernel_rfl
theorem b_law15_SamplerRoundTrips_l16_map (m : Nat) {k_l16 : ByteArray → Int → Int → Clock → List Run → List Event → Option (List (RV C))} {q_l16 : ByteArray → Int → Int → Clock → List Run → List Event → Option (Bool)} (h_l16 : ∀ s_7 at_10 i_11 c0 runs_5 in_9, k_l16 s_7 at_10 i_11 c0 runs_5 in_9 = (q_l16 s_7 at_10 i_11 c0 runs_5 in_9).map w_law15_SamplerRoundTrips) {k_l26 : ByteArray → Int → List Event → Option (List (RV C))} {q_l26 : ByteArray → Int → List Event → Option (Bool)} (h_l26 : ∀ s_7 i_13 out_12, k_l26 s_7 i_13 out_12 = (q_l26 s_7 i_13 out_12).map w_law15_SamplerRoundTrips) (s_7 : ByteArray) (at_10 : Int) (i_11 : Int) (c0 : Clock) (runs_5 : List Run) (in_9 : List Event) : b_law15_SamplerRoundTrips_l16 m (fun x0 => some (w_law15_SamplerRoundTrips x0)) k_l16 k_l26 s_7 at_10 i_11 c0 runs_5 in_9 = (b_law15_SamplerRoundTrips_l16 m (fun x0 => some x0) q_l16 q_l26 s_7 at_10 i_11 c0 runs_5 in_9).map w_law15_SamplerRoundTrips := by
  simp only [b_law15_SamplerRoundTrips_l16, cond_map, bind_map, map_none, map_some, h_l16, h_l26]
noncomputable def law15_SamplerRoundTrips_l16 (m : Nat) : Nat → ByteArray → Int → Int → Clock → List Run → List Event → Option (Bool)
  | 0, _, _, _, _, _, _ => none
  | n + 1, s_7, at_10, i_11, c0, runs_5, in_9 => b_law15_SamplerRoundTrips_l16 m (fun x0 => some x0) (fun s_7 at_10 i_11 c0 runs_5 in_9 => law15_SamplerRoundTrips_l16 m n s_7 at_10 i_11 c0 runs_5 in_9) (fun s_7 i_13 out_12 => law15_SamplerRoundTrips_l26 m m s_7 i_13 out_12) s_7 at_10 i_11 c0 runs_5 in_9
theorem L_law15_SamplerRoundTrips_l16_eq (m : Nat) : ∀ (n : Nat) (s_7 : ByteArray) (at_10 : Int) (i_11 : Int) (c0 : Clock) (runs_5 : List Run) (in_9 : List Event), L_law15_SamplerRoundTrips_l16 m n s_7 at_10 i_11 c0 runs_5 in_9 = (law15_SamplerRoundTrips_l16 m n s_7 at_10 i_11 c0 runs_5 in_9).map w_law15_SamplerRoundTrips
  | 0, s_7, at_10, i_11, c0, runs_5, in_9 => by kernel_rfl
  | n + 1, s_7, at_10, i_11, c0, runs_5, in_9 => by
    rw [L_law15_SamplerRoundTrips_l16_step]
    exact b_law15_SamplerRoundTrips_l16_map m (fun s_7 at_10 i_11 c0 runs_5 in_9 => L_law15_SamplerRoundTrips_l16_eq m n s_7 at_10 i_11 c0 runs_5 in_9) (fun s_7 i_13 out_12 => L_law15_SamplerRoundTrips_l26_eq m m s_7 i_13 out_12) s_7 at_10 i_11 c0 runs_5 in_9
noncomputable def b_law15_SamplerRoundTrips_l10 {R : Type} (m : Nat) (ret : Bool → Option R) (k_l10 : ByteArray → Int → List Item → Clock → List Run → Option R) (k_l16 : ByteArray → Int → Int → Clock → List Run → List Event → Option R) (s_7 : ByteArray) (i_8 : Int) (l_1 : List Item) (c1 : Clock) (runs_5 : List Run) : Option R :=
 bif decide (i_8 < (l_1.length : Int)) then
 bif decide (0 ≤ i_8) then
 bif decide (i_8 < (l_1.length : Int)) then
 bif decide (((s_7.size + (l_1.getD i_8.toNat dflt_Item).Data.size) : Int) > 9223372036854775807) then
 none
 else
 k_l10 (s_7 ++ (l_1.getD i_8.toNat dflt_Item).Data) (IntKind.i64.wrap (i_8 + 1)) l_1 c1 runs_5
 else
 none
 else
 none
 else
 k_l16 s_7 0 0 c1 runs_5 []
theorem L_law15_SamplerRoundTrips_l10_step (m n : Nat) (s_7 : ByteArray) (i_8 : Int) (l_1 : List Item) (c1 : Clock) (runs_5 : List Run) : L_law15_SamplerRoundTrips_l10 m (n + 1) s_7 i_8 l_1 c1 runs_5 = b_law15_SamplerRoundTrips_l10 m (fun x0 => some (w_law15_SamplerRoundTrips x0)) (fun s_7 i_8 l_1 c1 runs_5 => L_law15_SamplerRoundTrips_l10 m n s_7 i_8 l_1 c1 runs_5) (fun s_7 at_10 i_11 c0 runs_5 in_9 => L_law15_SamplerRoundTrips_l16 m m s_7 at_10 i_11 c0 runs_5 in_9) s_7 i_8 l_1 c1 runs_5 := by kernel_rfl
theorem b_law15_SamplerRoundTrips_l10_map (m : Nat) {k_l10 : ByteArray → Int → List Item → Clock → List Run → Option (List (RV C))} {q_l10 : ByteArray → Int → List Item → Clock → List Run → Option (Bool)} (h_l10 : ∀ s_7 i_8 l_1 c1 runs_5, k_l10 s_7 i_8 l_1 c1 runs_5 = (q_l10 s_7 i_8 l_1 c1 runs_5).map w_law15_SamplerRoundTrips) {k_l16 : ByteArray → Int → Int → Clock → List Run → List Event → Option (List (RV C))} {q_l16 : ByteArray → Int → Int → Clock → List Run → List Event → Option (Bool)} (h_l16 : ∀ s_7 at_10 i_11 c0 runs_5 in_9, k_l16 s_7 at_10 i_11 c0 runs_5 in_9 = (q_l16 s_7 at_10 i_11 c0 runs_5 in_9).map w_law15_SamplerRoundTrips) (s_7 : ByteArray) (i_8 : Int) (l_1 : List Item) (c1 : Clock) (runs_5 : List Run) : b_law15_SamplerRoundTrips_l10 m (fun x0 => some (w_law15_SamplerRoundTrips x0)) k_l10 k_l16 s_7 i_8 l_1 c1 runs_5 = (b_law15_SamplerRoundTrips_l10 m (fun x0 => some x0) q_l10 q_l16 s_7 i_8 l_1 c1 runs_5).map w_law15_SamplerRoundTrips := by
  simp only [b_law15_SamplerRoundTrips_l10, cond_map, bind_map, map_none, map_some, h_l10, h_l16]
noncomputable def law15_SamplerRoundTrips_l10 (m : Nat) : Nat → ByteArray → Int → List Item → Clock → List Run → Option (Bool)
  | 0, _, _, _, _, _ => none
  | n + 1, s_7, i_8, l_1, c1, runs_5 => b_law15_SamplerRoundTrips_l10 m (fun x0 => some x0) (fun s_7 i_8 l_1 c1 runs_5 => law15_SamplerRoundTrips_l10 m n s_7 i_8 l_1 c1 runs_5) (fun s_7 at_10 i_11 c0 runs_5 in_9 => law15_SamplerRoundTrips_l16 m m s_7 at_10 i_11 c0 runs_5 in_9) s_7 i_8 l_1 c1 runs_5
theorem L_law15_SamplerRoundTrips_l10_eq (m : Nat) : ∀ (n : Nat) (s_7 : ByteArray) (i_8 : Int) (l_1 : List Item) (c1 : Clock) (runs_5 : List Run), L_law15_SamplerRoundTrips_l10 m n s_7 i_8 l_1 c1 runs_5 = (law15_SamplerRoundTrips_l10 m n s_7 i_8 l_1 c1 runs_5).map w_law15_SamplerRoundTrips
  | 0, s_7, i_8, l_1, c1, runs_5 => by kernel_rfl
  | n + 1, s_7, i_8, l_1, c1, runs_5 => by
    rw [L_law15_SamplerRoundTrips_l10_step]
    exact b_law15_SamplerRoundTrips_l10_map m (fun s_7 i_8 l_1 c1 runs_5 => L_law15_SamplerRoundTrips_l10_eq m n s_7 i_8 l_1 c1 runs_5) (fun s_7 at_10 i_11 c0 runs_5 in_9 => L_law15_SamplerRoundTrips_l16_eq m m s_7 at_10 i_11 c0 runs_5 in_9) s_7 i_8 l_1 c1 runs_5
noncomputable def b_law15_SamplerRoundTrips {R : Type} (m : Nat) (ret : Bool → Option R) (k_l10 : ByteArray → Int → List Item → Clock → List Run → Option R) (c_0 : Clock) (l_1 : List Item) : Option R :=
 (law15_lives m).bind fun r0 =>
 bif !r0 then
 ret false
 else
 (law15_few m l_1).bind fun r1 =>
 bif !r1 then
 ret true
 else
 (sampler_Encode m c_0 l_1).bind fun r2 =>
 bif r2.snd != 0 then
 ret ((r2.fst.length : Int) == 0)
 else
 k_l10 (bs []) 0 l_1 c_0 r2.fst
theorem law15_SamplerRoundTrips_pre (m : Nat) (c_0 : Clock) (l_1 : List Item) : funK Try.prog (Ψ_law15_SamplerRoundTrips m) keep m 1 7 [(dS of_Clock cells_Clock of_Clock_ok).e c_0, (dRow 49).e l_1] = b_law15_SamplerRoundTrips m (fun x0 => some (w_law15_SamplerRoundTrips x0)) (fun s_7 i_8 l_1 c1 runs_5 => L_law15_SamplerRoundTrips_l10 m m s_7 i_8 l_1 c1 runs_5) c_0 l_1 := by kernel_rfl
theorem b_law15_SamplerRoundTrips_map (m : Nat) {k_l10 : ByteArray → Int → List Item → Clock → List Run → Option (List (RV C))} {q_l10 : ByteArray → Int → List Item → Clock → List Run → Option (Bool)} (h_l10 : ∀ s_7 i_8 l_1 c1 runs_5, k_l10 s_7 i_8 l_1 c1 runs_5 = (q_l10 s_7 i_8 l_1 c1 runs_5).map w_law15_SamplerRoundTrips) (c_0 : Clock) (l_1 : List Item) : b_law15_SamplerRoundTrips m (fun x0 => some (w_law15_SamplerRoundTrips x0)) k_l10 c_0 l_1 = (b_law15_SamplerRoundTrips m (fun x0 => some x0) q_l10 c_0 l_1).map w_law15_SamplerRoundTrips := by
  simp only [b_law15_SamplerRoundTrips, cond_map, bind_map, map_none, map_some, h_l10]
noncomputable def law15_SamplerRoundTrips (m : Nat) (c_0 : Clock) (l_1 : List Item) : Option (Bool) := b_law15_SamplerRoundTrips m (fun x0 => some x0) (fun s_7 i_8 l_1 c1 runs_5 => law15_SamplerRoundTrips_l10 m m s_7 i_8 l_1 c1 runs_5) c_0 l_1
theorem law15_SamplerRoundTrips_fun (m : Nat) (c_0 : Clock) (l_1 : List Item) : funK Try.prog (Ψ_law15_SamplerRoundTrips m) keep m 1 7 [(dS of_Clock cells_Clock of_Clock_ok).e c_0, (dRow 49).e l_1] = (law15_SamplerRoundTrips m c_0 l_1).map w_law15_SamplerRoundTrips := by
  rw [law15_SamplerRoundTrips_pre]
  exact b_law15_SamplerRoundTrips_map m (fun s_7 i_8 l_1 c1 runs_5 => L_law15_SamplerRoundTrips_l10_eq m m s_7 i_8 l_1 c1 runs_5) c_0 l_1
noncomputable def K_law15_SamplerRoundTrips (m : Nat) : KnownF C := mkK (dCons (dS of_Clock cells_Clock of_Clock_ok) (dCons (dRow 49) dNil)) (fun a => law15_SamplerRoundTrips m a.1 a.2.1) w_law15_SamplerRoundTrips
theorem K_law15_SamplerRoundTrips_ok (m : Nat) : KnownAt C Try.prog 7 fun l => (K_law15_SamplerRoundTrips m).run _ l some :=
  mkK_known good fit (Ψ_law15_SamplerRoundTrips_ok m) (keep := keep) (m := m) (d := 1) fun a => law15_SamplerRoundTrips_fun m a.1 a.2.1
/-! ### signalbench/signalbenchref03.Valid -/
def w_ref03_Valid (b : Bool) : List (RV C) := [dBool.e b]
noncomputable def Q_ref03_Valid_4 (m : Nat) : St C → (Exit → St C → Option (List (RV C))) → Option (List (RV C)) := fun σ k => codeK Try.prog Ψ0 (callK Try.prog Ψ0 keep m 0) (keep 53) m (subC body53 [.r, .r, .l, .r, .b, .o]) σ k
noncomputable def KL_ref03_Valid_4 (m : Nat) : Exit → St C → Option (List (RV C)) := contK Try.prog Ψ0 (callK Try.prog Ψ0 keep m 0) (keep 53) m body53 [.r, .r, .l, .r, .b, .o] (leaveK Try.prog Try.f53.results.toList (finK Try.prog Try.f53.resultTypes.toList))
noncomputable def L_ref03_Valid_l4 (m n : Nat) (s_0 : ByteArray) (i_3 : Int) : Option (List (RV C)) := iterK (Q_ref03_Valid_4 m) (St.norm (keep 53 4)) n ({ T := [.fl (.one (.str s_0)), .dead, .dead, .fl (.one (.int .i64 i_3))] ++ List.replicate 19 .dead, F := [[]], H := [] } : St C) (KL_ref03_Valid_4 m)
noncomputable def b_ref03_Valid_l4 {R : Type} (m : Nat) (ret : Bool → Option R) (k_l4 : ByteArray → Int → Option R) (s_0 : ByteArray) (i_3 : Int) : Option R :=
 bif decide (i_3 < (s_0.size : Int)) then
 bif decide (0 ≤ i_3) then
 bif decide (i_3 < (s_0.size : Int)) then
 bif byteAt s_0 i_3 != 48 then
 bif decide (0 ≤ i_3) then
 bif decide (i_3 < (s_0.size : Int)) then
 bif byteAt s_0 i_3 != 49 then
 ret false
 else
 k_l4 s_0 (IntKind.i64.wrap (i_3 + 1))
 else
 none
 else
 none
 else
 k_l4 s_0 (IntKind.i64.wrap (i_3 + 1))
 else
 none
 else
 none
 else
 ret true
theorem L_ref03_Valid_l4_step (m n : Nat) (s_0 : ByteArray) (i_3 : Int) : L_ref03_Valid_l4 m (n + 1) s_0 i_3 = b_ref03_Valid_l4 m (fun x0 => some (w_ref03_Valid x0)) (fun s_0 i_3 => L_ref03_Valid_l4 m n s_0 i_3) s_0 i_3 := by kernel_rfl
theorem b_ref03_Valid_l4_map (m : Nat) {k_l4 : ByteArray → Int → Option (List (RV C))} {q_l4 : ByteArray → Int → Option (Bool)} (h_l4 : ∀ s_0 i_3, k_l4 s_0 i_3 = (q_l4 s_0 i_3).map w_ref03_Valid) (s_0 : ByteArray) (i_3 : Int) : b_ref03_Valid_l4 m (fun x0 => some (w_ref03_Valid x0)) k_l4 s_0 i_3 = (b_ref03_Valid_l4 m (fun x0 => some x0) q_l4 s_0 i_3).map w_ref03_Valid := by
  simp only [b_ref03_Valid_l4, cond_map, bind_map, map_none, map_some, h_l4]
noncomputable def ref03_Valid_l4 (m : Nat) : Nat → ByteArray → Int → Option (Bool)
  | 0, _, _ => none
  | n + 1, s_0, i_3 => b_ref03_Valid_l4 m (fun x0 => some x0) (fun s_0 i_3 => ref03_Valid_l4 m n s_0 i_3) s_0 i_3
theorem L_ref03_Valid_l4_eq (m : Nat) : ∀ (n : Nat) (s_0 : ByteArray) (i_3 : Int), L_ref03_Valid_l4 m n s_0 i_3 = (ref03_Valid_l4 m n s_0 i_3).map w_ref03_Valid
  | 0, s_0, i_3 => by kernel_rfl
  | n + 1, s_0, i_3 => by
    rw [L_ref03_Valid_l4_step]
    exact b_ref03_Valid_l4_map m (fun s_0 i_3 => L_ref03_Valid_l4_eq m n s_0 i_3) s_0 i_3
noncomputable def b_ref03_Valid {R : Type} (m : Nat) (ret : Bool → Option R) (k_l4 : ByteArray → Int → Option R) (s_0 : ByteArray) : Option R :=
 bif decide ((s_0.size : Int) > 65536) then
 ret false
 else
 k_l4 s_0 0
theorem ref03_Valid_pre (m : Nat) (s_0 : ByteArray) : funK Try.prog Ψ0 keep m 1 53 [dStr.e s_0] = b_ref03_Valid m (fun x0 => some (w_ref03_Valid x0)) (fun s_0 i_3 => L_ref03_Valid_l4 m m s_0 i_3) s_0 := by kernel_rfl
theorem b_ref03_Valid_map (m : Nat) {k_l4 : ByteArray → Int → Option (List (RV C))} {q_l4 : ByteArray → Int → Option (Bool)} (h_l4 : ∀ s_0 i_3, k_l4 s_0 i_3 = (q_l4 s_0 i_3).map w_ref03_Valid) (s_0 : ByteArray) : b_ref03_Valid m (fun x0 => some (w_ref03_Valid x0)) k_l4 s_0 = (b_ref03_Valid m (fun x0 => some x0) q_l4 s_0).map w_ref03_Valid := by
  simp only [b_ref03_Valid, cond_map, bind_map, map_none, map_some, h_l4]
noncomputable def ref03_Valid (m : Nat) (s_0 : ByteArray) : Option (Bool) := b_ref03_Valid m (fun x0 => some x0) (fun s_0 i_3 => ref03_Valid_l4 m m s_0 i_3) s_0
theorem ref03_Valid_fun (m : Nat) (s_0 : ByteArray) : funK Try.prog Ψ0 keep m 1 53 [dStr.e s_0] = (ref03_Valid m s_0).map w_ref03_Valid := by
  rw [ref03_Valid_pre]
  exact b_ref03_Valid_map m (fun s_0 i_3 => L_ref03_Valid_l4_eq m m s_0 i_3) s_0
noncomputable def K_ref03_Valid (m : Nat) : KnownF C := mkK (dCons dStr dNil) (fun a => ref03_Valid m a.1) w_ref03_Valid
theorem K_ref03_Valid_ok (m : Nat) : KnownAt C Try.prog 53 fun l => (K_ref03_Valid m).run _ l some :=
  mkK_known good fit Ψ0_ok (keep := keep) (m := m) (d := 1) fun a => ref03_Valid_fun m a.1
/-! ### signalbench/signalbenchref15.item -/
noncomputable def Ψ_ref15_item (m : Nat) : Known C := fun f => match f with
  | 53 => some (K_ref03_Valid m)
  | _ => none
theorem Ψ_ref15_item_ok (m : Nat) : KnownOk C Try.prog (Ψ_ref15_item m) := by
  intro f φ h
  unfold Ψ_ref15_item at h
  split at h
  · injection h with h; subst h; exact K_ref03_Valid_ok m
  · cases h
def w_ref15_item (b : Int) : List (RV C) := [(dInt .i64).e b]
noncomputable def b_ref15_item {R : Type} (m : Nat) (ret : Int → Option R) (x_0 : Item) : Option R :=
 bif x_0.Gap != 0 then
 ret 1
 else
 bif decide ((x_0.Data.size : Int) > 4096) then
 ret 6
 else
 (ref03_Valid m x_0.Data).bind fun r0 =>
 bif !r0 then
 ret 4
 else
 bif x_0.Value != 0 then
 ret 1
 else
 bif x_0.Aux != 0 then
 ret 1
 else
 bif x_0.Fault != 0 then
 ret 1
 else
 ret 0
theorem ref15_item_pre (m : Nat) (x_0 : Item) : funK Try.prog (Ψ_ref15_item m) keep m 1 40 [(dS of_Item cells_Item of_Item_ok).e x_0] = b_ref15_item m (fun x0 => some (w_ref15_item x0)) x_0 := by kernel_rfl
theorem b_ref15_item_map (m : Nat) (x_0 : Item) : b_ref15_item m (fun x0 => some (w_ref15_item x0)) x_0 = (b_ref15_item m (fun x0 => some x0) x_0).map w_ref15_item := by
  simp only [b_ref15_item, cond_map, bind_map, map_none, map_some]
noncomputable def ref15_item (m : Nat) (x_0 : Item) : Option (Int) := b_ref15_item m (fun x0 => some x0) x_0
theorem ref15_item_fun (m : Nat) (x_0 : Item) : funK Try.prog (Ψ_ref15_item m) keep m 1 40 [(dS of_Item cells_Item of_Item_ok).e x_0] = (ref15_item m x_0).map w_ref15_item := by
  rw [ref15_item_pre]
  exact b_ref15_item_map m x_0
noncomputable def K_ref15_item (m : Nat) : KnownF C := mkK (dCons (dS of_Item cells_Item of_Item_ok) dNil) (fun a => ref15_item m a.1) w_ref15_item
theorem K_ref15_item_ok (m : Nat) : KnownAt C Try.prog 40 fun l => (K_ref15_item m).run _ l some :=
  mkK_known good fit (Ψ_ref15_item_ok m) (keep := keep) (m := m) (d := 1) fun a => ref15_item_fun m a.1
end Go.Abs.K
