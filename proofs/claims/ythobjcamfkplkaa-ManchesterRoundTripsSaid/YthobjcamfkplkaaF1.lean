/- Plain functions for the functions of the seat, printed by a program of this claim's own, with their proofs. -/
import Derived.Test.YthobjcamfkplkaaB
set_option linter.unusedVariables false
set_option linter.unusedSimpArgs false
set_option maxRecDepth 100000
namespace Go.Abs.K
open Go Go.Abs Go.Proofs
/-! ### signalbench/ratio.size -/
def w_ratio_size (b : Int) : List (RV C) := [(dInt .u64).e b]
noncomputable def b_ratio_size {R : Type} (m : Nat) (ret : Int → Option R) (n_0 : Int) : Option R :=
 bif decide (n_0 < 0) then
 ret (IntKind.u64.wrap (IntKind.u64.wrap (IntKind.i64.wrap (0 - IntKind.i64.wrap (n_0 + 1))) + 1))
 else
 ret (IntKind.u64.wrap n_0)
theorem ratio_size_pre (m : Nat) (n_0 : Int) : funK Try.prog Ψ0 keep m 1 51 [(dInt .i64).e n_0] = b_ratio_size m (fun x0 => some (w_ratio_size x0)) n_0 := by kernel_rfl
theorem b_ratio_size_map (m : Nat) (n_0 : Int) : b_ratio_size m (fun x0 => some (w_ratio_size x0)) n_0 = (b_ratio_size m (fun x0 => some x0) n_0).map w_ratio_size := by
  simp only [b_ratio_size, cond_map, bind_map, map_none, map_some]
noncomputable def ratio_size (m : Nat) (n_0 : Int) : Option (Int) := b_ratio_size m (fun x0 => some x0) n_0
theorem ratio_size_fun (m : Nat) (n_0 : Int) : funK Try.prog Ψ0 keep m 1 51 [(dInt .i64).e n_0] = (ratio_size m n_0).map w_ratio_size := by
  rw [ratio_size_pre]
  exact b_ratio_size_map m n_0
noncomputable def K_ratio_size (m : Nat) : KnownF C := mkK (dCons (dInt .i64) dNil) (fun a => ratio_size m a.1) w_ratio_size
theorem K_ratio_size_ok (m : Nat) : KnownAt C Try.prog 51 fun l => (K_ratio_size m).run _ l some :=
  mkK_known good fit Ψ0_ok (keep := keep) (m := m) (d := 1) fun a => ratio_size_fun m a.1
/-! ### signalbench/ratio.common -/
def w_ratio_common (b : Int) : List (RV C) := [(dInt .u64).e b]
noncomputable def Q_ratio_common_1 (m : Nat) : St C → (Exit → St C → Option (List (RV C))) → Option (List (RV C)) := fun σ k => codeK Try.prog Ψ0 (callK Try.prog Ψ0 keep m 0) (keep 50) m (subC body50 [.r, .l, .b, .o]) σ k
noncomputable def KL_ratio_common_1 (m : Nat) : Exit → St C → Option (List (RV C)) := contK Try.prog Ψ0 (callK Try.prog Ψ0 keep m 0) (keep 50) m body50 [.r, .l, .b, .o] (leaveK Try.prog Try.f50.results.toList (finK Try.prog Try.f50.resultTypes.toList))
noncomputable def L_ratio_common_l1 (m n : Nat) (a_0 : Int) (b_1 : Int) : Option (List (RV C)) := iterK (Q_ratio_common_1 m) (St.norm (keep 50 1)) n ({ T := [.fl (.one (.int .u64 a_0)), .fl (.one (.int .u64 b_1))] ++ List.replicate 10 .dead, F := [[]], H := [] } : St C) (KL_ratio_common_1 m)
noncomputable def b_ratio_common_l1 {R : Type} (m : Nat) (ret : Int → Option R) (k_l1 : Int → Int → Option R) (a_0 : Int) (b_1 : Int) : Option R :=
 bif b_1 != 0 then
 bif decide (b_1 = 0) then
 none
 else
 k_l1 b_1 (a_0.tmod b_1)
 else
 ret a_0
theorem L_ratio_common_l1_step (m n : Nat) (a_0 : Int) (b_1 : Int) : L_ratio_common_l1 m (n + 1) a_0 b_1 = b_ratio_common_l1 m (fun x0 => some (w_ratio_common x0)) (fun a_0 b_1 => L_ratio_common_l1 m n a_0 b_1) a_0 b_1 := by kernel_rfl
theorem b_ratio_common_l1_map (m : Nat) {k_l1 : Int → Int → Option (List (RV C))} {q_l1 : Int → Int → Option (Int)} (h_l1 : ∀ a_0 b_1, k_l1 a_0 b_1 = (q_l1 a_0 b_1).map w_ratio_common) (a_0 : Int) (b_1 : Int) : b_ratio_common_l1 m (fun x0 => some (w_ratio_common x0)) k_l1 a_0 b_1 = (b_ratio_common_l1 m (fun x0 => some x0) q_l1 a_0 b_1).map w_ratio_common := by
  simp only [b_ratio_common_l1, cond_map, bind_map, map_none, map_some, h_l1]
noncomputable def ratio_common_l1 (m : Nat) : Nat → Int → Int → Option (Int)
  | 0, _, _ => none
  | n + 1, a_0, b_1 => b_ratio_common_l1 m (fun x0 => some x0) (fun a_0 b_1 => ratio_common_l1 m n a_0 b_1) a_0 b_1
theorem L_ratio_common_l1_eq (m : Nat) : ∀ (n : Nat) (a_0 : Int) (b_1 : Int), L_ratio_common_l1 m n a_0 b_1 = (ratio_common_l1 m n a_0 b_1).map w_ratio_common
  | 0, a_0, b_1 => by kernel_rfl
  | n + 1, a_0, b_1 => by
    rw [L_ratio_common_l1_step]
    exact b_ratio_common_l1_map m (fun a_0 b_1 => L_ratio_common_l1_eq m n a_0 b_1) a_0 b_1
noncomputable def b_ratio_common {R : Type} (m : Nat) (ret : Int → Option R) (k_l1 : Int → Int → Option R) (a_0 : Int) (b_1 : Int) : Option R :=
 k_l1 a_0 b_1
theorem ratio_common_pre (m : Nat) (a_0 : Int) (b_1 : Int) : funK Try.prog Ψ0 keep m 1 50 [(dInt .u64).e a_0, (dInt .u64).e b_1] = b_ratio_common m (fun x0 => some (w_ratio_common x0)) (fun a_0 b_1 => L_ratio_common_l1 m m a_0 b_1) a_0 b_1 := by kernel_rfl
theorem b_ratio_common_map (m : Nat) {k_l1 : Int → Int → Option (List (RV C))} {q_l1 : Int → Int → Option (Int)} (h_l1 : ∀ a_0 b_1, k_l1 a_0 b_1 = (q_l1 a_0 b_1).map w_ratio_common) (a_0 : Int) (b_1 : Int) : b_ratio_common m (fun x0 => some (w_ratio_common x0)) k_l1 a_0 b_1 = (b_ratio_common m (fun x0 => some x0) q_l1 a_0 b_1).map w_ratio_common := by
  simp only [b_ratio_common, cond_map, bind_map, map_none, map_some, h_l1]
noncomputable def ratio_common (m : Nat) (a_0 : Int) (b_1 : Int) : Option (Int) := b_ratio_common m (fun x0 => some x0) (fun a_0 b_1 => ratio_common_l1 m m a_0 b_1) a_0 b_1
theorem ratio_common_fun (m : Nat) (a_0 : Int) (b_1 : Int) : funK Try.prog Ψ0 keep m 1 50 [(dInt .u64).e a_0, (dInt .u64).e b_1] = (ratio_common m a_0 b_1).map w_ratio_common := by
  rw [ratio_common_pre]
  exact b_ratio_common_map m (fun a_0 b_1 => L_ratio_common_l1_eq m m a_0 b_1) a_0 b_1
noncomputable def K_ratio_common (m : Nat) : KnownF C := mkK (dCons (dInt .u64) (dCons (dInt .u64) dNil)) (fun a => ratio_common m a.1 a.2.1) w_ratio_common
theorem K_ratio_common_ok (m : Nat) : KnownAt C Try.prog 50 fun l => (K_ratio_common m).run _ l some :=
  mkK_known good fit Ψ0_ok (keep := keep) (m := m) (d := 1) fun a => ratio_common_fun m a.1 a.2.1
/-! ### signalbench/ratio.Valid -/
noncomputable def Ψ_ratio_Valid (m : Nat) : Known C := fun f => match f with
  | 51 => some (K_ratio_size m)
  | 50 => some (K_ratio_common m)
  | _ => none
theorem Ψ_ratio_Valid_ok (m : Nat) : KnownOk C Try.prog (Ψ_ratio_Valid m) := by
  intro f φ h
  unfold Ψ_ratio_Valid at h
  split at h
  · injection h with h; subst h; exact K_ratio_size_ok m
  · injection h with h; subst h; exact K_ratio_common_ok m
  · cases h
def w_ratio_Valid (b : Bool) : List (RV C) := [dBool.e b]
noncomputable def b_ratio_Valid {R : Type} (m : Nat) (ret : Bool → Option R) (r_0 : Ratio) : Option R :=
 bif decide (r_0.Den < 1) then
 ret false
 else
 bif decide (r_0.Den > 1073741824) then
 ret false
 else
 bif decide (r_0.Num < -1073741824) then
 ret false
 else
 bif decide (r_0.Num > 1073741824) then
 ret false
 else
 (ratio_size m r_0.Num).bind fun r0 =>
 (ratio_size m r_0.Den).bind fun r1 =>
 (ratio_common m r0 r1).bind fun r2 =>
 ret (r2 == 1)
theorem ratio_Valid_pre (m : Nat) (r_0 : Ratio) : funK Try.prog (Ψ_ratio_Valid m) keep m 1 30 [(dS of_Ratio cells_Ratio of_Ratio_ok).e r_0] = b_ratio_Valid m (fun x0 => some (w_ratio_Valid x0)) r_0 := by kernel_rfl
theorem b_ratio_Valid_map (m : Nat) (r_0 : Ratio) : b_ratio_Valid m (fun x0 => some (w_ratio_Valid x0)) r_0 = (b_ratio_Valid m (fun x0 => some x0) r_0).map w_ratio_Valid := by
  simp only [b_ratio_Valid, cond_map, bind_map, map_none, map_some]
noncomputable def ratio_Valid (m : Nat) (r_0 : Ratio) : Option (Bool) := b_ratio_Valid m (fun x0 => some x0) r_0
theorem ratio_Valid_fun (m : Nat) (r_0 : Ratio) : funK Try.prog (Ψ_ratio_Valid m) keep m 1 30 [(dS of_Ratio cells_Ratio of_Ratio_ok).e r_0] = (ratio_Valid m r_0).map w_ratio_Valid := by
  rw [ratio_Valid_pre]
  exact b_ratio_Valid_map m r_0
noncomputable def K_ratio_Valid (m : Nat) : KnownF C := mkK (dCons (dS of_Ratio cells_Ratio of_Ratio_ok) dNil) (fun a => ratio_Valid m a.1) w_ratio_Valid
theorem K_ratio_Valid_ok (m : Nat) : KnownAt C Try.prog 30 fun l => (K_ratio_Valid m).run _ l some :=
  mkK_known good fit (Ψ_ratio_Valid_ok m) (keep := keep) (m := m) (d := 1) fun a => ratio_Valid_fun m a.1
/-! ### signalbench/manchester.Check -/
noncomputable def Ψ_manchester_Check (m : Nat) : Known C := fun f => match f with
  | 30 => some (K_ratio_Valid m)
  | _ => none
theorem Ψ_manchester_Check_ok (m : Nat) : KnownOk C Try.prog (Ψ_manchester_Check m) := by
  intro f φ h
  unfold Ψ_manchester_Check at h
  split at h
  · injection h with h; subst h; exact K_ratio_Valid_ok m
  · cases h
def w_manchester_Check (b : Int) : List (RV C) := [(dInt .i64).e b]
noncomputable def b_manchester_Check {R : Type} (m : Nat) (ret : Int → Option R) (c_0 : Manchester) : Option R :=
 (ratio_Valid m (Ratio.mk c_0.T_Num c_0.T_Den)).bind fun r0 =>
 bif !r0 then
 ret 1
 else
 bif decide (c_0.T_Num < IntKind.i64.wrap (4 * c_0.T_Den)) then
 ret 2
 else
 bif decide (c_0.T_Num > IntKind.i64.wrap (c_0.T_Den * 1048576)) then
 ret 2
 else
 ret 0
theorem manchester_Check_pre (m : Nat) (c_0 : Manchester) : funK Try.prog (Ψ_manchester_Check m) keep m 1 10 [(dS of_Manchester cells_Manchester of_Manchester_ok).e c_0] = b_manchester_Check m (fun x0 => some (w_manchester_Check x0)) c_0 := by kernel_rfl
theorem b_manchester_Check_map (m : Nat) (c_0 : Manchester) : b_manchester_Check m (fun x0 => some (w_manchester_Check x0)) c_0 = (b_manchester_Check m (fun x0 => some x0) c_0).map w_manchester_Check := by
  simp only [b_manchester_Check, cond_map, bind_map, map_none, map_some]
noncomputable def manchester_Check (m : Nat) (c_0 : Manchester) : Option (Int) := b_manchester_Check m (fun x0 => some x0) c_0
theorem manchester_Check_fun (m : Nat) (c_0 : Manchester) : funK Try.prog (Ψ_manchester_Check m) keep m 1 10 [(dS of_Manchester cells_Manchester of_Manchester_ok).e c_0] = (manchester_Check m c_0).map w_manchester_Check := by
  rw [manchester_Check_pre]
  exact b_manchester_Check_map m c_0
noncomputable def K_manchester_Check (m : Nat) : KnownF C := mkK (dCons (dS of_Manchester cells_Manchester of_Manchester_ok) dNil) (fun a => manchester_Check m a.1) w_manchester_Check
theorem K_manchester_Check_ok (m : Nat) : KnownAt C Try.prog 10 fun l => (K_manchester_Check m).run _ l some :=
  mkK_known good fit (Ψ_manchester_Check_ok m) (keep := keep) (m := m) (d := 1) fun a => manchester_Check_fun m a.1
/-! ### signalbench/signalbenchref01.size -/
def w_ref01_size (b : Int) : List (RV C) := [(dInt .u64).e b]
noncomputable def b_ref01_size {R : Type} (m : Nat) (ret : Int → Option R) (n_0 : Int) : Option R :=
 bif decide (n_0 < 0) then
 ret (IntKind.u64.wrap (IntKind.u64.wrap (IntKind.i64.wrap (0 - IntKind.i64.wrap (n_0 + 1))) + 1))
 else
 ret (IntKind.u64.wrap n_0)
theorem ref01_size_pre (m : Nat) (n_0 : Int) : funK Try.prog Ψ0 keep m 1 53 [(dInt .i64).e n_0] = b_ref01_size m (fun x0 => some (w_ref01_size x0)) n_0 := by kernel_rfl
theorem b_ref01_size_map (m : Nat) (n_0 : Int) : b_ref01_size m (fun x0 => some (w_ref01_size x0)) n_0 = (b_ref01_size m (fun x0 => some x0) n_0).map w_ref01_size := by
  simp only [b_ref01_size, cond_map, bind_map, map_none, map_some]
noncomputable def ref01_size (m : Nat) (n_0 : Int) : Option (Int) := b_ref01_size m (fun x0 => some x0) n_0
theorem ref01_size_fun (m : Nat) (n_0 : Int) : funK Try.prog Ψ0 keep m 1 53 [(dInt .i64).e n_0] = (ref01_size m n_0).map w_ref01_size := by
  rw [ref01_size_pre]
  exact b_ref01_size_map m n_0
noncomputable def K_ref01_size (m : Nat) : KnownF C := mkK (dCons (dInt .i64) dNil) (fun a => ref01_size m a.1) w_ref01_size
theorem K_ref01_size_ok (m : Nat) : KnownAt C Try.prog 53 fun l => (K_ref01_size m).run _ l some :=
  mkK_known good fit Ψ0_ok (keep := keep) (m := m) (d := 1) fun a => ref01_size_fun m a.1
/-! ### signalbench/signalbenchref01.gcd -/
def w_ref01_gcd (b : Int) : List (RV C) := [(dInt .u64).e b]
noncomputable def Ψ_ref01_gcd (m : Nat) (F : Int → Int → Option (Int)) : Known C := fun f => match f with
  | 52 => some (mkK (dCons (dInt .u64) (dCons (dInt .u64) dNil)) (fun a => F a.1 a.2.1) w_ref01_gcd)
  | _ => none
theorem Ψ_ref01_gcd_ok (m : Nat) (F : Int → Int → Option (Int)) (hF : KnownAt C Try.prog 52 fun l => (mkK (dCons (dInt .u64) (dCons (dInt .u64) dNil)) (fun a => F a.1 a.2.1) w_ref01_gcd).run _ l some) : KnownOk C Try.prog (Ψ_ref01_gcd m F) := by
  intro f φ h
  unfold Ψ_ref01_gcd at h
  split at h
  · injection h with h; subst h; exact hF
  · cases h
noncomputable def b_ref01_gcd {R : Type} (m : Nat) (F : Int → Int → Option (Int)) (ret : Int → Option R) (a_0 : Int) (b_1 : Int) : Option R :=
 bif b_1 == 0 then
 ret a_0
 else
 bif decide (b_1 = 0) then
 none
 else
 (F b_1 (a_0.tmod b_1)).bind fun r0 =>
 ret r0
theorem ref01_gcd_pre (m : Nat) (F : Int → Int → Option (Int)) (a_0 : Int) (b_1 : Int) : funK Try.prog (Ψ_ref01_gcd m F) keep m 1 52 [(dInt .u64).e a_0, (dInt .u64).e b_1] = b_ref01_gcd m F (fun x0 => some (w_ref01_gcd x0)) a_0 b_1 := by kernel_rfl
theorem b_ref01_gcd_map (m : Nat) (F : Int → Int → Option (Int)) (a_0 : Int) (b_1 : Int) : b_ref01_gcd m F (fun x0 => some (w_ref01_gcd x0)) a_0 b_1 = (b_ref01_gcd m F (fun x0 => some x0) a_0 b_1).map w_ref01_gcd := by
  simp only [b_ref01_gcd, cond_map, bind_map, map_none, map_some]
noncomputable def ref01_gcd_at (m : Nat) : Nat → Int → Int → Option (Int)
  | 0, _, _ => none
  | n + 1, a_0, b_1 => b_ref01_gcd m (fun a_0 b_1 => ref01_gcd_at m n a_0 b_1) (fun x0 => some x0) a_0 b_1
theorem ref01_gcd_known (m : Nat) : ∀ n, KnownAt C Try.prog 52 fun l => (mkK (dCons (dInt .u64) (dCons (dInt .u64) dNil)) (fun a => ref01_gcd_at m n a.1 a.2.1) w_ref01_gcd).run _ l some
  | 0 => mkK_none
  | n + 1 => mkK_known good fit (Ψ_ref01_gcd_ok m (fun a_0 b_1 => ref01_gcd_at m n a_0 b_1) (ref01_gcd_known m n)) (keep := keep) (m := m) (d := 1) fun a => by
    refine Eq.trans (ref01_gcd_pre m (fun a_0 b_1 => ref01_gcd_at m n a_0 b_1) a.1 a.2.1) ?_
    exact b_ref01_gcd_map m (fun a_0 b_1 => ref01_gcd_at m n a_0 b_1) a.1 a.2.1
noncomputable def ref01_gcd (m : Nat) (a_0 : Int) (b_1 : Int) : Option (Int) := ref01_gcd_at m m a_0 b_1
noncomputable def K_ref01_gcd (m : Nat) : KnownF C := mkK (dCons (dInt .u64) (dCons (dInt .u64) dNil)) (fun a => ref01_gcd m a.1 a.2.1) w_ref01_gcd
theorem K_ref01_gcd_ok (m : Nat) : KnownAt C Try.prog 52 fun l => (K_ref01_gcd m).run _ l some := ref01_gcd_known m m
/-! ### signalbench/signalbenchref01.Valid -/
noncomputable def Ψ_ref01_Valid (m : Nat) : Known C := fun f => match f with
  | 53 => some (K_ref01_size m)
  | 52 => some (K_ref01_gcd m)
  | _ => none
theorem Ψ_ref01_Valid_ok (m : Nat) : KnownOk C Try.prog (Ψ_ref01_Valid m) := by
  intro f φ h
  unfold Ψ_ref01_Valid at h
  split at h
  · injection h with h; subst h; exact K_ref01_size_ok m
  · injection h with h; subst h; exact K_ref01_gcd_ok m
  · cases h
def w_ref01_Valid (b : Bool) : List (RV C) := [dBool.e b]
noncomputable def b_ref01_Valid {R : Type} (m : Nat) (ret : Bool → Option R) (r_0 : Ratio) : Option R :=
 bif decide (r_0.Den < 1) then
 ret false
 else
 bif decide (r_0.Den > 1073741824) then
 ret false
 else
 bif decide (r_0.Num < -1073741824) then
 ret false
 else
 bif decide (r_0.Num > 1073741824) then
 ret false
 else
 (ref01_size m r_0.Num).bind fun r0 =>
 (ref01_size m r_0.Den).bind fun r1 =>
 (ref01_gcd m r0 r1).bind fun r2 =>
 ret (r2 == 1)
theorem ref01_Valid_pre (m : Nat) (r_0 : Ratio) : funK Try.prog (Ψ_ref01_Valid m) keep m 1 31 [(dS of_Ratio cells_Ratio of_Ratio_ok).e r_0] = b_ref01_Valid m (fun x0 => some (w_ref01_Valid x0)) r_0 := by kernel_rfl
theorem b_ref01_Valid_map (m : Nat) (r_0 : Ratio) : b_ref01_Valid m (fun x0 => some (w_ref01_Valid x0)) r_0 = (b_ref01_Valid m (fun x0 => some x0) r_0).map w_ref01_Valid := by
  simp only [b_ref01_Valid, cond_map, bind_map, map_none, map_some]
noncomputable def ref01_Valid (m : Nat) (r_0 : Ratio) : Option (Bool) := b_ref01_Valid m (fun x0 => some x0) r_0
theorem ref01_Valid_fun (m : Nat) (r_0 : Ratio) : funK Try.prog (Ψ_ref01_Valid m) keep m 1 31 [(dS of_Ratio cells_Ratio of_Ratio_ok).e r_0] = (ref01_Valid m r_0).map w_ref01_Valid := by
  rw [ref01_Valid_pre]
  exact b_ref01_Valid_map m r_0
noncomputable def K_ref01_Valid (m : Nat) : KnownF C := mkK (dCons (dS of_Ratio cells_Ratio of_Ratio_ok) dNil) (fun a => ref01_Valid m a.1) w_ref01_Valid
theorem K_ref01_Valid_ok (m : Nat) : KnownAt C Try.prog 31 fun l => (K_ref01_Valid m).run _ l some :=
  mkK_known good fit (Ψ_ref01_Valid_ok m) (keep := keep) (m := m) (d := 1) fun a => ref01_Valid_fun m a.1
/-! ### signalbench/signalbenchref17.Check -/
noncomputable def Ψ_ref17_Check (m : Nat) : Known C := fun f => match f with
  | 31 => some (K_ref01_Valid m)
  | _ => none
theorem Ψ_ref17_Check_ok (m : Nat) : KnownOk C Try.prog (Ψ_ref17_Check m) := by
  intro f φ h
  unfold Ψ_ref17_Check at h
  split at h
  · injection h with h; subst h; exact K_ref01_Valid_ok m
  · cases h
def w_ref17_Check (b : Int) : List (RV C) := [(dInt .i64).e b]
noncomputable def b_ref17_Check {R : Type} (m : Nat) (ret : Int → Option R) (c_0 : Manchester) : Option R :=
 (ref01_Valid m (Ratio.mk c_0.T_Num c_0.T_Den)).bind fun r0 =>
 bif !r0 then
 ret 1
 else
 bif decide (c_0.T_Num < IntKind.i64.wrap (4 * c_0.T_Den)) then
 ret 2
 else
 bif decide (c_0.T_Num > IntKind.i64.wrap (c_0.T_Den * 1048576)) then
 ret 2
 else
 ret 0
theorem ref17_Check_pre (m : Nat) (c_0 : Manchester) : funK Try.prog (Ψ_ref17_Check m) keep m 1 11 [(dS of_Manchester cells_Manchester of_Manchester_ok).e c_0] = b_ref17_Check m (fun x0 => some (w_ref17_Check x0)) c_0 := by kernel_rfl
theorem b_ref17_Check_map (m : Nat) (c_0 : Manchester) : b_ref17_Check m (fun x0 => some (w_ref17_Check x0)) c_0 = (b_ref17_Check m (fun x0 => some x0) c_0).map w_ref17_Check := by
  simp only [b_ref17_Check, cond_map, bind_map, map_none, map_some]
noncomputable def ref17_Check (m : Nat) (c_0 : Manchester) : Option (Int) := b_ref17_Check m (fun x0 => some x0) c_0
theorem ref17_Check_fun (m : Nat) (c_0 : Manchester) : funK Try.prog (Ψ_ref17_Check m) keep m 1 11 [(dS of_Manchester cells_Manchester of_Manchester_ok).e c_0] = (ref17_Check m c_0).map w_ref17_Check := by
  rw [ref17_Check_pre]
  exact b_ref17_Check_map m c_0
noncomputable def K_ref17_Check (m : Nat) : KnownF C := mkK (dCons (dS of_Manchester cells_Manchester of_Manchester_ok) dNil) (fun a => ref17_Check m a.1) w_ref17_Check
theorem K_ref17_Check_ok (m : Nat) : KnownAt C Try.prog 11 fun l => (K_ref17_Check m).run _ l some :=
  mkK_known good fit (Ψ_ref17_Check_ok m) (keep := keep) (m := m) (d := 1) fun a => ref17_Check_fun m a.1
/-! ### signalbench/signalbenchlaw17.Example -/
def w_law17_Example (b : Manchester) : List (RV C) := [(dS of_Manchester cells_Manchester of_Manchester_ok).e b]
noncomputable def b_law17_Example {R : Type} (m : Nat) (ret : Manchester → Option R) : Option R :=
 ret (Manchester.mk 8 1 true)
theorem law17_Example_pre (m : Nat) : funK Try.prog Ψ0 keep m 1 32 [] = b_law17_Example m (fun x0 => some (w_law17_Example x0)) := by kernel_rfl
theorem b_law17_Example_map (m : Nat) : b_law17_Example m (fun x0 => some (w_law17_Example x0)) = (b_law17_Example m (fun x0 => some x0)).map w_law17_Example := by
  simp only [b_law17_Example, cond_map, bind_map, map_none, map_some]
noncomputable def law17_Example (m : Nat) : Option (Manchester) := b_law17_Example m (fun x0 => some x0)
theorem law17_Example_fun (m : Nat) : funK Try.prog Ψ0 keep m 1 32 [] = (law17_Example m).map w_law17_Example := by
  rw [law17_Example_pre]
  exact b_law17_Example_map m
noncomputable def K_law17_Example (m : Nat) : KnownF C := mkK dNil (fun a => law17_Example m) w_law17_Example
theorem K_law17_Example_ok (m : Nat) : KnownAt C Try.prog 32 fun l => (K_law17_Example m).run _ l some :=
  mkK_known good fit Ψ0_ok (keep := keep) (m := m) (d := 1) fun a => law17_Example_fun m
/-! ### signalbench/manchester.signal -/
def w_manchester_signal (b : Int) : List (RV C) := [(dInt .i64).e b]
noncomputable def b_manchester_signal {R : Type} (m : Nat) (ret : Int → Option R) (c_0 : Manchester) (level_1 : Int) : Option R :=
 bif c_0.Ieee then
 ret level_1
 else
 ret (IntKind.i64.wrap (1 - level_1))
theorem manchester_signal_pre (m : Nat) (c_0 : Manchester) (level_1 : Int) : funK Try.prog Ψ0 keep m 1 36 [(dS of_Manchester cells_Manchester of_Manchester_ok).e c_0, (dInt .i64).e level_1] = b_manchester_signal m (fun x0 => some (w_manchester_signal x0)) c_0 level_1 := by kernel_rfl
theorem b_manchester_signal_map (m : Nat) (c_0 : Manchester) (level_1 : Int) : b_manchester_signal m (fun x0 => some (w_manchester_signal x0)) c_0 level_1 = (b_manchester_signal m (fun x0 => some x0) c_0 level_1).map w_manchester_signal := by
  simp only [b_manchester_signal, cond_map, bind_map, map_none, map_some]
noncomputable def manchester_signal (m : Nat) (c_0 : Manchester) (level_1 : Int) : Option (Int) := b_manchester_signal m (fun x0 => some x0) c_0 level_1
theorem manchester_signal_fun (m : Nat) (c_0 : Manchester) (level_1 : Int) : funK Try.prog Ψ0 keep m 1 36 [(dS of_Manchester cells_Manchester of_Manchester_ok).e c_0, (dInt .i64).e level_1] = (manchester_signal m c_0 level_1).map w_manchester_signal := by
  rw [manchester_signal_pre]
  exact b_manchester_signal_map m c_0 level_1
noncomputable def K_manchester_signal (m : Nat) : KnownF C := mkK (dCons (dS of_Manchester cells_Manchester of_Manchester_ok) (dCons (dInt .i64) dNil)) (fun a => manchester_signal m a.1 a.2.1) w_manchester_signal
theorem K_manchester_signal_ok (m : Nat) : KnownAt C Try.prog 36 fun l => (K_manchester_signal m).run _ l some :=
  mkK_known good fit Ψ0_ok (keep := keep) (m := m) (d := 1) fun a => manchester_signal_fun m a.1 a.2.1
/-! ### signalbench/manchester.boundary -/
def w_manchester_boundary (b : Int) : List (RV C) := [(dInt .i64).e b]
noncomputable def b_manchester_boundary {R : Type} (m : Nat) (ret : Int → Option R) (c_0 : Manchester) (k_1 : Int) : Option R :=
 bif decide (c_0.T_Den = 0) then
 none
 else
 ret (IntKind.i64.wrap ((IntKind.i64.wrap (k_1 * c_0.T_Num)).tdiv c_0.T_Den))
theorem manchester_boundary_pre (m : Nat) (c_0 : Manchester) (k_1 : Int) : funK Try.prog Ψ0 keep m 1 39 [(dS of_Manchester cells_Manchester of_Manchester_ok).e c_0, (dInt .i64).e k_1] = b_manchester_boundary m (fun x0 => some (w_manchester_boundary x0)) c_0 k_1 := by kernel_rfl
theorem b_manchester_boundary_map (m : Nat) (c_0 : Manchester) (k_1 : Int) : b_manchester_boundary m (fun x0 => some (w_manchester_boundary x0)) c_0 k_1 = (b_manchester_boundary m (fun x0 => some x0) c_0 k_1).map w_manchester_boundary := by
  simp only [b_manchester_boundary, cond_map, bind_map, map_none, map_some]
noncomputable def manchester_boundary (m : Nat) (c_0 : Manchester) (k_1 : Int) : Option (Int) := b_manchester_boundary m (fun x0 => some x0) c_0 k_1
theorem manchester_boundary_fun (m : Nat) (c_0 : Manchester) (k_1 : Int) : funK Try.prog Ψ0 keep m 1 39 [(dS of_Manchester cells_Manchester of_Manchester_ok).e c_0, (dInt .i64).e k_1] = (manchester_boundary m c_0 k_1).map w_manchester_boundary := by
  rw [manchester_boundary_pre]
  exact b_manchester_boundary_map m c_0 k_1
noncomputable def K_manchester_boundary (m : Nat) : KnownF C := mkK (dCons (dS of_Manchester cells_Manchester of_Manchester_ok) (dCons (dInt .i64) dNil)) (fun a => manchester_boundary m a.1 a.2.1) w_manchester_boundary
theorem K_manchester_boundary_ok (m : Nat) : KnownAt C Try.prog 39 fun l => (K_manchester_boundary m).run _ l some :=
  mkK_known good fit Ψ0_ok (keep := keep) (m := m) (d := 1) fun a => manchester_boundary_fun m a.1 a.2.1
/-! ### signalbench/manchester.add -/
def w_manchester_add (b : List Run) : List (RV C) := [(dRow 59).e b]
noncomputable def b_manchester_add {R : Type} (m : Nat) (ret : List Run → Option R) (l_0 : List Run) (level_1 : Int) (ticks_2 : Int) : Option R :=
 bif decide ((l_0.length : Int) > 0) then
 bif decide (0 ≤ IntKind.i64.wrap ((l_0.length : Int) - 1)) then
 bif decide (IntKind.i64.wrap ((l_0.length : Int) - 1) < (l_0.length : Int)) then
 bif (l_0.getD (IntKind.i64.wrap ((l_0.length : Int) - 1)).toNat dflt_Run).Level == level_1 then
 bif decide (0 ≤ IntKind.i64.wrap ((l_0.length : Int) - 1)) then
 bif decide (IntKind.i64.wrap ((l_0.length : Int) - 1) < (l_0.length : Int)) then
 bif decide (0 ≤ IntKind.i64.wrap ((l_0.length : Int) - 1)) then
 bif decide (IntKind.i64.wrap ((l_0.length : Int) - 1) < (l_0.length : Int)) then
 ret (l_0.set (IntKind.i64.wrap ((l_0.length : Int) - 1)).toNat (Run.mk (l_0.getD (IntKind.i64.wrap ((l_0.length : Int) - 1)).toNat dflt_Run).Level (IntKind.i64.wrap ((l_0.getD (IntKind.i64.wrap ((l_0.length : Int) - 1)).toNat dflt_Run).Ticks + ticks_2))))
 else
 none
 else
 none
 else
 none
 else
 none
 else
 bif ticks_2 == 0 then
 ret l_0
 else
 bif decide ((l_0.length + 1) * 16 ≤ 140737488355328) then
 ret (l_0 ++ [Run.mk level_1 ticks_2])
 else
 none
 else
 none
 else
 none
 else
 bif ticks_2 == 0 then
 ret l_0
 else
 bif decide ((l_0.length + 1) * 16 ≤ 140737488355328) then
 ret (l_0 ++ [Run.mk level_1 ticks_2])
 else
 none
theorem manchester_add_pre (m : Nat) (l_0 : List Run) (level_1 : Int) (ticks_2 : Int) : funE Try.prog Ψ0 keep m 1 38 [.row, .no, .no] [(dRow 59).e l_0, (dInt .i64).e level_1, (dInt .i64).e ticks_2] = b_manchester_add m (fun x0 => some (w_manchester_add x0)) l_0 level_1 ticks_2 := by kernel_rfl
theorem b_manchester_add_map (m : Nat) (l_0 : List Run) (level_1 : Int) (ticks_2 : Int) : b_manchester_add m (fun x0 => some (w_manchester_add x0)) l_0 level_1 ticks_2 = (b_manchester_add m (fun x0 => some x0) l_0 level_1 ticks_2).map w_manchester_add := by
  simp only [b_manchester_add, cond_map, bind_map, map_none, map_some]
noncomputable def manchester_add (m : Nat) (l_0 : List Run) (level_1 : Int) (ticks_2 : Int) : Option (List Run) := b_manchester_add m (fun x0 => some x0) l_0 level_1 ticks_2
theorem manchester_add_fun (m : Nat) (l_0 : List Run) (level_1 : Int) (ticks_2 : Int) : funE Try.prog Ψ0 keep m 1 38 [.row, .no, .no] [(dRow 59).e l_0, (dInt .i64).e level_1, (dInt .i64).e ticks_2] = (manchester_add m l_0 level_1 ticks_2).map w_manchester_add := by
  rw [manchester_add_pre]
  exact b_manchester_add_map m l_0 level_1 ticks_2
noncomputable def K_manchester_add (m : Nat) : KnownF C := mkE [.row, .no, .no] (dCons (dRow 59) (dCons (dInt .i64) (dCons (dInt .i64) dNil))) (fun a => manchester_add m a.1 a.2.1 a.2.2.1) w_manchester_add
theorem K_manchester_add_ok (m : Nat) : KnownAtE C Try.prog 38 [.row, .no, .no] fun l => (K_manchester_add m).run _ l some :=
  mkE_known good fit Ψ0_ok (keep := keep) (m := m) (d := 1) fun a => manchester_add_fun m a.1 a.2.1 a.2.2.1
/-! ### signalbench/bits.Valid -/
def w_bits_Valid (b : Bool) : List (RV C) := [dBool.e b]
noncomputable def Q_bits_Valid_4 (m : Nat) : St C → (Exit → St C → Option (List (RV C))) → Option (List (RV C)) := fun σ k => codeK Try.prog Ψ0 (callK Try.prog Ψ0 keep m 0) (keep 55) m (subC body55 [.r, .r, .l, .r, .b, .o]) σ k
noncomputable def KL_bits_Valid_4 (m : Nat) : Exit → St C → Option (List (RV C)) := contK Try.prog Ψ0 (callK Try.prog Ψ0 keep m 0) (keep 55) m body55 [.r, .r, .l, .r, .b, .o] (leaveK Try.prog Try.f55.results.toList (finK Try.prog Try.f55.resultTypes.toList))
noncomputable def L_bits_Valid_l4 (m n : Nat) (s_0 : ByteArray) (t8 : Int) (t9 : Int) : Option (List (RV C)) := iterK (Q_bits_Valid_4 m) (St.norm (keep 55 4)) n ({ T := [.fl (.one (.str s_0)), .dead, .dead, .dead, .dead, .dead, .dead, .dead, .fl (.one (.int .i64 t8)), .fl (.one (.int .i64 t9))] ++ List.replicate 13 .dead, F := [[]], H := [] } : St C) (KL_bits_Valid_4 m)
noncomputable def b_bits_Valid_l4 {R : Type} (m : Nat) (ret : Bool → Option R) (k_l4 : ByteArray → Int → Int → Option R) (s_0 : ByteArray) (t8 : Int) (t9 : Int) : Option R :=
 bif decide (t9 < t8) then
 bif decide (0 ≤ t9) then
 bif decide (t9 < (s_0.size : Int)) then
 bif byteAt s_0 t9 != 48 then
 bif decide (0 ≤ t9) then
 bif decide (t9 < (s_0.size : Int)) then
 bif byteAt s_0 t9 != 49 then
 ret false
 else
 k_l4 s_0 t8 (IntKind.i64.wrap (t9 + 1))
 else
 none
 else
 none
 else
 k_l4 s_0 t8 (IntKind.i64.wrap (t9 + 1))
 else
 none
 else
 none
 else
 ret true
theorem L_bits_Valid_l4_step (m n : Nat) (s_0 : ByteArray) (t8 : Int) (t9 : Int) : L_bits_Valid_l4 m (n + 1) s_0 t8 t9 = b_bits_Valid_l4 m (fun x0 => some (w_bits_Valid x0)) (fun s_0 t8 t9 => L_bits_Valid_l4 m n s_0 t8 t9) s_0 t8 t9 := by kernel_rfl
theorem b_bits_Valid_l4_map (m : Nat) {k_l4 : ByteArray → Int → Int → Option (List (RV C))} {q_l4 : ByteArray → Int → Int → Option (Bool)} (h_l4 : ∀ s_0 t8 t9, k_l4 s_0 t8 t9 = (q_l4 s_0 t8 t9).map w_bits_Valid) (s_0 : ByteArray) (t8 : Int) (t9 : Int) : b_bits_Valid_l4 m (fun x0 => some (w_bits_Valid x0)) k_l4 s_0 t8 t9 = (b_bits_Valid_l4 m (fun x0 => some x0) q_l4 s_0 t8 t9).map w_bits_Valid := by
  simp only [b_bits_Valid_l4, cond_map, bind_map, map_none, map_some, h_l4]
noncomputable def bits_Valid_l4 (m : Nat) : Nat → ByteArray → Int → Int → Option (Bool)
  | 0, _, _, _ => none
  | n + 1, s_0, t8, t9 => b_bits_Valid_l4 m (fun x0 => some x0) (fun s_0 t8 t9 => bits_Valid_l4 m n s_0 t8 t9) s_0 t8 t9
theorem L_bits_Valid_l4_eq (m : Nat) : ∀ (n : Nat) (s_0 : ByteArray) (t8 : Int) (t9 : Int), L_bits_Valid_l4 m n s_0 t8 t9 = (bits_Valid_l4 m n s_0 t8 t9).map w_bits_Valid
  | 0, s_0, t8, t9 => by kernel_rfl
  | n + 1, s_0, t8, t9 => by
    rw [L_bits_Valid_l4_step]
    exact b_bits_Valid_l4_map m (fun s_0 t8 t9 => L_bits_Valid_l4_eq m n s_0 t8 t9) s_0 t8 t9
noncomputable def b_bits_Valid {R : Type} (m : Nat) (ret : Bool → Option R) (k_l4 : ByteArray → Int → Int → Option R) (s_0 : ByteArray) : Option R :=
 bif decide ((s_0.size : Int) > 65536) then
 ret false
 else
 k_l4 s_0 (s_0.size : Int) 0
theorem bits_Valid_pre (m : Nat) (s_0 : ByteArray) : funK Try.prog Ψ0 keep m 1 55 [dStr.e s_0] = b_bits_Valid m (fun x0 => some (w_bits_Valid x0)) (fun s_0 t8 t9 => L_bits_Valid_l4 m m s_0 t8 t9) s_0 := by kernel_rfl
theorem b_bits_Valid_map (m : Nat) {k_l4 : ByteArray → Int → Int → Option (List (RV C))} {q_l4 : ByteArray → Int → Int → Option (Bool)} (h_l4 : ∀ s_0 t8 t9, k_l4 s_0 t8 t9 = (q_l4 s_0 t8 t9).map w_bits_Valid) (s_0 : ByteArray) : b_bits_Valid m (fun x0 => some (w_bits_Valid x0)) k_l4 s_0 = (b_bits_Valid m (fun x0 => some x0) q_l4 s_0).map w_bits_Valid := by
  simp only [b_bits_Valid, cond_map, bind_map, map_none, map_some, h_l4]
noncomputable def bits_Valid (m : Nat) (s_0 : ByteArray) : Option (Bool) := b_bits_Valid m (fun x0 => some x0) (fun s_0 t8 t9 => bits_Valid_l4 m m s_0 t8 t9) s_0
theorem bits_Valid_fun (m : Nat) (s_0 : ByteArray) : funK Try.prog Ψ0 keep m 1 55 [dStr.e s_0] = (bits_Valid m s_0).map w_bits_Valid := by
  rw [bits_Valid_pre]
  exact b_bits_Valid_map m (fun s_0 t8 t9 => L_bits_Valid_l4_eq m m s_0 t8 t9) s_0
noncomputable def K_bits_Valid (m : Nat) : KnownF C := mkK (dCons dStr dNil) (fun a => bits_Valid m a.1) w_bits_Valid
theorem K_bits_Valid_ok (m : Nat) : KnownAt C Try.prog 55 fun l => (K_bits_Valid m).run _ l some :=
  mkK_known good fit Ψ0_ok (keep := keep) (m := m) (d := 1) fun a => bits_Valid_fun m a.1
/-! ### signalbench/manchester.check -/
noncomputable def Ψ_manchester_check (m : Nat) : Known C := fun f => match f with
  | 55 => some (K_bits_Valid m)
  | _ => none
theorem Ψ_manchester_check_ok (m : Nat) : KnownOk C Try.prog (Ψ_manchester_check m) := by
  intro f φ h
  unfold Ψ_manchester_check at h
  split at h
  · injection h with h; subst h; exact K_bits_Valid_ok m
  · cases h
def w_manchester_check (b : Int) : List (RV C) := [(dInt .i64).e b]
noncomputable def b_manchester_check {R : Type} (m : Nat) (ret : Int → Option R) (x_0 : Item) : Option R :=
 bif decide (x_0.Gap < 0) then
 ret 1
 else
 bif decide (x_0.Gap > 1048576) then
 ret 1
 else
 bif decide ((x_0.Data.size : Int) > 4096) then
 ret 6
 else
 (bits_Valid m x_0.Data).bind fun r0 =>
 bif !r0 then
 ret 4
 else
 bif x_0.Fault != 0 then
 bif x_0.Fault != 5 then
 ret 1
 else
 bif x_0.Fault == 5 then
 bif decide (x_0.Aux < 0) then
 ret 17
 else
 bif decide (x_0.Aux ≥ (x_0.Data.size : Int)) then
 ret 17
 else
 bif x_0.Value != 0 then
 ret 1
 else
 bif x_0.Fault == 0 then
 bif x_0.Aux != 0 then
 ret 1
 else
 ret 0
 else
 ret 0
 else
 bif x_0.Value != 0 then
 ret 1
 else
 bif x_0.Fault == 0 then
 bif x_0.Aux != 0 then
 ret 1
 else
 ret 0
 else
 ret 0
 else
 bif x_0.Fault == 5 then
 bif decide (x_0.Aux < 0) then
 ret 17
 else
 bif decide (x_0.Aux ≥ (x_0.Data.size : Int)) then
 ret 17
 else
 bif x_0.Value != 0 then
 ret 1
 else
 bif x_0.Fault == 0 then
 bif x_0.Aux != 0 then
 ret 1
 else
 ret 0
 else
 ret 0
 else
 bif x_0.Value != 0 then
 ret 1
 else
 bif x_0.Fault == 0 then
 bif x_0.Aux != 0 then
 ret 1
 else
 ret 0
 else
 ret 0
theorem manchester_check_pre (m : Nat) (x_0 : Item) : funK Try.prog (Ψ_manchester_check m) keep m 1 40 [(dS of_Item cells_Item of_Item_ok).e x_0] = b_manchester_check m (fun x0 => some (w_manchester_check x0)) x_0 := by kernel_rfl
theorem b_manchester_check_map (m : Nat) (x_0 : Item) : b_manchester_check m (fun x0 => some (w_manchester_check x0)) x_0 = (b_manchester_check m (fun x0 => some x0) x_0).map w_manchester_check := by
  simp only [b_manchester_check, cond_map, bind_map, map_none, map_some]
noncomputable def manchester_check (m : Nat) (x_0 : Item) : Option (Int) := b_manchester_check m (fun x0 => some x0) x_0
theorem manchester_check_fun (m : Nat) (x_0 : Item) : funK Try.prog (Ψ_manchester_check m) keep m 1 40 [(dS of_Item cells_Item of_Item_ok).e x_0] = (manchester_check m x_0).map w_manchester_check := by
  rw [manchester_check_pre]
  exact b_manchester_check_map m x_0
noncomputable def K_manchester_check (m : Nat) : KnownF C := mkK (dCons (dS of_Item cells_Item of_Item_ok) dNil) (fun a => manchester_check m a.1) w_manchester_check
theorem K_manchester_check_ok (m : Nat) : KnownAt C Try.prog 40 fun l => (K_manchester_check m).run _ l some :=
  mkK_known good fit (Ψ_manchester_check_ok m) (keep := keep) (m := m) (d := 1) fun a => manchester_check_fun m a.1
/-! ### signalbench/manchester.sample -/
def w_manchester_sample (b : Int) : List (RV C) := [(dInt .i64).e b]
noncomputable def b_manchester_sample {R : Type} (m : Nat) (ret : Int → Option R) (c_0 : Manchester) (k_1 : Int) : Option R :=
 bif decide (IntKind.i64.wrap (2 * c_0.T_Den) = 0) then
 none
 else
 ret (IntKind.i64.wrap ((IntKind.i64.wrap (IntKind.i64.wrap (IntKind.i64.wrap (2 * k_1) + 1) * c_0.T_Num)).tdiv (IntKind.i64.wrap (2 * c_0.T_Den))))
theorem manchester_sample_pre (m : Nat) (c_0 : Manchester) (k_1 : Int) : funK Try.prog Ψ0 keep m 1 56 [(dS of_Manchester cells_Manchester of_Manchester_ok).e c_0, (dInt .i64).e k_1] = b_manchester_sample m (fun x0 => some (w_manchester_sample x0)) c_0 k_1 := by kernel_rfl
theorem b_manchester_sample_map (m : Nat) (c_0 : Manchester) (k_1 : Int) : b_manchester_sample m (fun x0 => some (w_manchester_sample x0)) c_0 k_1 = (b_manchester_sample m (fun x0 => some x0) c_0 k_1).map w_manchester_sample := by
  simp only [b_manchester_sample, cond_map, bind_map, map_none, map_some]
noncomputable def manchester_sample (m : Nat) (c_0 : Manchester) (k_1 : Int) : Option (Int) := b_manchester_sample m (fun x0 => some x0) c_0 k_1
theorem manchester_sample_fun (m : Nat) (c_0 : Manchester) (k_1 : Int) : funK Try.prog Ψ0 keep m 1 56 [(dS of_Manchester cells_Manchester of_Manchester_ok).e c_0, (dInt .i64).e k_1] = (manchester_sample m c_0 k_1).map w_manchester_sample := by
  rw [manchester_sample_pre]
  exact b_manchester_sample_map m c_0 k_1
noncomputable def K_manchester_sample (m : Nat) : KnownF C := mkK (dCons (dS of_Manchester cells_Manchester of_Manchester_ok) (dCons (dInt .i64) dNil)) (fun a => manchester_sample m a.1 a.2.1) w_manchester_sample
theorem K_manchester_sample_ok (m : Nat) : KnownAt C Try.prog 56 fun l => (K_manchester_sample m).run _ l some :=
  mkK_known good fit Ψ0_ok (keep := keep) (m := m) (d := 1) fun a => manchester_sample_fun m a.1 a.2.1
/-! ### signalbench/manchester.transmit -/
noncomputable def Ψ_manchester_transmit (m : Nat) : Known C := fun f => match f with
  | 36 => some (K_manchester_signal m)
  | 56 => some (K_manchester_sample m)
  | 39 => some (K_manchester_boundary m)
  | 38 => some (K_manchester_add m)
  | _ => none
theorem Ψ_manchester_transmit_ok (m : Nat) : KnownOk C Try.prog (Ψ_manchester_transmit m) := by
  intro f φ h
  unfold Ψ_manchester_transmit at h
  split at h
  · injection h with h; subst h; exact K_manchester_signal_ok m
  · injection h with h; subst h; exact K_manchester_sample_ok m
  · injection h with h; subst h; exact K_manchester_boundary_ok m
  · injection h with h; subst h; exact K_manchester_add_ok m
  · cases h
def w_manchester_transmit (b : List Run) : List (RV C) := [(dRow 59).e b]
noncomputable def Q_manchester_transmit_6 (m : Nat) : St C → (Exit → St C → Option (List (RV C))) → Option (List (RV C)) := fun σ k => codeK Try.prog (Ψ_manchester_transmit m) (callK Try.prog (Ψ_manchester_transmit m) keep m 0) (keep 41) m (subC body41 [.r, .r, .r, .r, .l, .r, .b, .o]) σ k
noncomputable def KL_manchester_transmit_6 (m : Nat) : Exit → St C → Option (List (RV C)) := contK Try.prog (Ψ_manchester_transmit m) (callK Try.prog (Ψ_manchester_transmit m) keep m 0) (keep 41) m body41 [.r, .r, .r, .r, .l, .r, .b, .o] (leaveK Try.prog Try.f41.results.toList (finE Try.prog [.no, .row, .no] Try.f41.resultTypes.toList))
noncomputable def L_manchester_transmit_l6 (m n : Nat) (data_7 : ByteArray) (n_8 : Int) (t22 : Int) (t23 : Int) (l_1 : List Run) (c1 : Manchester) (c2 : Item) : Option (List (RV C)) := iterK (Q_manchester_transmit_6 m) (St.norm (keep 41 6)) n ({ T := [.dead, .fl (.one (.sl 0)), .dead, .fl (.one (.ptr 1 0)), .dead, .fl (.one (.ptr 2 0)), .dead, .fl (.one (.str data_7)), .fl (.one (.int .i64 n_8)), .dead, .dead, .dead, .dead, .dead, .dead, .dead, .dead, .dead, .dead, .dead, .dead, .dead, .fl (.one (.int .i64 t22)), .fl (.one (.int .i64 t23))] ++ List.replicate 55 .dead, F := [[.dead, .dead, .dead]], H := [.row 59 true l_1, .box 25 (cells_Manchester c1), .box 52 (cells_Item c2)] } : St C) (KL_manchester_transmit_6 m)
noncomputable def b_manchester_transmit_l6 {R : Type} (m : Nat) (ret : List Run → Option R) (k_l6 : ByteArray → Int → Int → Int → List Run → Manchester → Item → Option R) (data_7 : ByteArray) (n_8 : Int) (t22 : Int) (t23 : Int) (l_1 : List Run) (c1 : Manchester) (c2 : Item) : Option R :=
 bif decide (t23 < t22) then
 (bif decide (0 ≤ t23) then
 (bif decide (t23 < (data_7.size : Int)) then
 ((manchester_signal m c1 (IntKind.i64.wrap (1 - IntKind.i64.wrap (IntKind.u8.wrap (byteAt data_7 t23 - 48))))).bind fun r0 =>
 (manchester_sample m c1 t23).bind fun r1 =>
 (manchester_boundary m c1 t23).bind fun r2 =>
 (manchester_add m l_1 r0 (IntKind.i64.wrap (r1 - r2))).bind fun r3 =>
 (manchester_signal m c1 (IntKind.i64.wrap (IntKind.u8.wrap (byteAt data_7 t23 - 48)))).bind fun r4 =>
 (manchester_boundary m c1 (IntKind.i64.wrap (t23 + 1))).bind fun r5 =>
 (manchester_sample m c1 t23).bind fun r6 =>
 (manchester_add m r3 r4 (IntKind.i64.wrap (r5 - r6))).bind fun r7 =>
 k_l6 data_7 n_8 t22 (IntKind.i64.wrap (t23 + 1)) r7 c1 c2)
 else
 none)
 else
 none)
 else
 bif c2.Fault == 5 then
 ((manchester_signal m c1 1).bind fun r8 =>
 (manchester_boundary m c1 (IntKind.i64.wrap (n_8 + 1))).bind fun r9 =>
 (manchester_boundary m c1 n_8).bind fun r10 =>
 (manchester_add m l_1 r8 (IntKind.i64.wrap (r9 - r10))).bind fun r11 =>
 (manchester_signal m c1 0).bind fun r12 =>
 (manchester_boundary m c1 2).bind fun r13 =>
 (manchester_add m r11 r12 r13).bind fun r14 =>
 ret r14)
 else
 (manchester_signal m c1 0).bind fun r15 =>
 (manchester_boundary m c1 2).bind fun r16 =>
 (manchester_add m l_1 r15 r16).bind fun r17 =>
 ret r17
theorem L_manchester_transmit_l6_step (m n : Nat) (data_7 : ByteArray) (n_8 : Int) (t22 : Int) (t23 : Int) (l_1 : List Run) (c1 : Manchester) (c2 : Item) : L_manchester_transmit_l6 m (n + 1) data_7 n_8 t22 t23 l_1 c1 c2 = b_manchester_transmit_l6 m (fun x0 => some (w_manchester_transmit x0)) (fun data_7 n_8 t22 t23 l_1 c1 c2 => L_manchester_transmit_l6 m n data_7 n_8 t22 t23 l_1 c1 c2) data_7 n_8 t22 t23 l_1 c1 c2 := by kernel_rfl
theorem b_manchester_transmit_l6_map (m : Nat) {k_l6 : ByteArray → Int → Int → Int → List Run → Manchester → Item → Option (List (RV C))} {q_l6 : ByteArray → Int → Int → Int → List Run → Manchester → Item → Option (List Run)} (h_l6 : ∀ data_7 n_8 t22 t23 l_1 c1 c2, k_l6 data_7 n_8 t22 t23 l_1 c1 c2 = (q_l6 data_7 n_8 t22 t23 l_1 c1 c2).map w_manchester_transmit) (data_7 : ByteArray) (n_8 : Int) (t22 : Int) (t23 : Int) (l_1 : List Run) (c1 : Manchester) (c2 : Item) : b_manchester_transmit_l6 m (fun x0 => some (w_manchester_transmit x0)) k_l6 data_7 n_8 t22 t23 l_1 c1 c2 = (b_manchester_transmit_l6 m (fun x0 => some x0) q_l6 data_7 n_8 t22 t23 l_1 c1 c2).map w_manchester_transmit := by
  simp only [b_manchester_transmit_l6, cond_map, bind_map, map_none, map_some, h_l6]
noncomputable def manchester_transmit_l6 (m : Nat) : Nat → ByteArray → Int → Int → Int → List Run → Manchester → Item → Option (List Run)
  | 0, _, _, _, _, _, _, _ => none
  | n + 1, data_7, n_8, t22, t23, l_1, c1, c2 => b_manchester_transmit_l6 m (fun x0 => some x0) (fun data_7 n_8 t22 t23 l_1 c1 c2 => manchester_transmit_l6 m n data_7 n_8 t22 t23 l_1 c1 c2) data_7 n_8 t22 t23 l_1 c1 c2
theorem L_manchester_transmit_l6_eq (m : Nat) : ∀ (n : Nat) (data_7 : ByteArray) (n_8 : Int) (t22 : Int) (t23 : Int) (l_1 : List Run) (c1 : Manchester) (c2 : Item), L_manchester_transmit_l6 m n data_7 n_8 t22 t23 l_1 c1 c2 = (manchester_transmit_l6 m n data_7 n_8 t22 t23 l_1 c1 c2).map w_manchester_transmit
  | 0, data_7, n_8, t22, t23, l_1, c1, c2 => by kernel_rfl
  | n + 1, data_7, n_8, t22, t23, l_1, c1, c2 => by
    rw [L_manchester_transmit_l6_step]
    exact b_manchester_transmit_l6_map m (fun data_7 n_8 t22 t23 l_1 c1 c2 => L_manchester_transmit_l6_eq m n data_7 n_8 t22 t23 l_1 c1 c2) data_7 n_8 t22 t23 l_1 c1 c2
noncomputable def b_manchester_transmit {R : Type} (m : Nat) (ret : List Run → Option R) (k_l6 : ByteArray → Int → Int → Int → List Run → Manchester → Item → Option R) (c_0 : Manchester) (l_1 : List Run) (x_2 : Item) : Option R :=
 bif decide (((1 + x_2.Data.size) : Int) > 9223372036854775807) then
 none
 else
 bif x_2.Fault == 5 then
 k_l6 (bs [49] ++ x_2.Data) (IntKind.i64.wrap (x_2.Aux + 1)) (IntKind.i64.wrap (x_2.Aux + 1)) 0 l_1 c_0 x_2
 else
 k_l6 (bs [49] ++ x_2.Data) ((bs [49] ++ x_2.Data).size : Int) ((bs [49] ++ x_2.Data).size : Int) 0 l_1 c_0 x_2
theorem manchester_transmit_pre (m : Nat) (c_0 : Manchester) (l_1 : List Run) (x_2 : Item) : funE Try.prog (Ψ_manchester_transmit m) keep m 1 41 [.no, .row, .no] [(dS of_Manchester cells_Manchester of_Manchester_ok).e c_0, (dRow 59).e l_1, (dS of_Item cells_Item of_Item_ok).e x_2] = b_manchester_transmit m (fun x0 => some (w_manchester_transmit x0)) (fun data_7 n_8 t22 t23 l_1 c1 c2 => L_manchester_transmit_l6 m m data_7 n_8 t22 t23 l_1 c1 c2) c_0 l_1 x_2 := by kernel_rfl
theorem b_manchester_transmit_map (m : Nat) {k_l6 : ByteArray → Int → Int → Int → List Run → Manchester → Item → Option (List (RV C))} {q_l6 : ByteArray → Int → Int → Int → List Run → Manchester → Item → Option (List Run)} (h_l6 : ∀ data_7 n_8 t22 t23 l_1 c1 c2, k_l6 data_7 n_8 t22 t23 l_1 c1 c2 = (q_l6 data_7 n_8 t22 t23 l_1 c1 c2).map w_manchester_transmit) (c_0 : Manchester) (l_1 : List Run) (x_2 : Item) : b_manchester_transmit m (fun x0 => some (w_manchester_transmit x0)) k_l6 c_0 l_1 x_2 = (b_manchester_transmit m (fun x0 => some x0) q_l6 c_0 l_1 x_2).map w_manchester_transmit := by
  simp only [b_manchester_transmit, cond_map, bind_map, map_none, map_some, h_l6]
noncomputable def manchester_transmit (m : Nat) (c_0 : Manchester) (l_1 : List Run) (x_2 : Item) : Option (List Run) := b_manchester_transmit m (fun x0 => some x0) (fun data_7 n_8 t22 t23 l_1 c1 c2 => manchester_transmit_l6 m m data_7 n_8 t22 t23 l_1 c1 c2) c_0 l_1 x_2
theorem manchester_transmit_fun (m : Nat) (c_0 : Manchester) (l_1 : List Run) (x_2 : Item) : funE Try.prog (Ψ_manchester_transmit m) keep m 1 41 [.no, .row, .no] [(dS of_Manchester cells_Manchester of_Manchester_ok).e c_0, (dRow 59).e l_1, (dS of_Item cells_Item of_Item_ok).e x_2] = (manchester_transmit m c_0 l_1 x_2).map w_manchester_transmit := by
  rw [manchester_transmit_pre]
  exact b_manchester_transmit_map m (fun data_7 n_8 t22 t23 l_1 c1 c2 => L_manchester_transmit_l6_eq m m data_7 n_8 t22 t23 l_1 c1 c2) c_0 l_1 x_2
noncomputable def K_manchester_transmit (m : Nat) : KnownF C := mkE [.no, .row, .no] (dCons (dS of_Manchester cells_Manchester of_Manchester_ok) (dCons (dRow 59) (dCons (dS of_Item cells_Item of_Item_ok) dNil))) (fun a => manchester_transmit m a.1 a.2.1 a.2.2.1) w_manchester_transmit
theorem K_manchester_transmit_ok (m : Nat) : KnownAtE C Try.prog 41 [.no, .row, .no] fun l => (K_manchester_transmit m).run _ l some :=
  mkE_known good fit (Ψ_manchester_transmit_ok m) (keep := keep) (m := m) (d := 1) fun a => manchester_transmit_fun m a.1 a.2.1 a.2.2.1
/-! ### signalbench/manchester.Encode -/
noncomputable def Ψ_manchester_Encode (m : Nat) : Known C := fun f => match f with
  | 10 => some (K_manchester_Check m)
  | 36 => some (K_manchester_signal m)
  | 39 => some (K_manchester_boundary m)
  | 38 => some (K_manchester_add m)
  | 40 => some (K_manchester_check m)
  | 41 => some (K_manchester_transmit m)
  | _ => none
theorem Ψ_manchester_Encode_ok (m : Nat) : KnownOk C Try.prog (Ψ_manchester_Encode m) := by
  intro f φ h
  unfold Ψ_manchester_Encode at h
  split at h
  · injection h with h; subst h; exact K_manchester_Check_ok m
  · injection h with h; subst h; exact K_manchester_signal_ok m
  · injection h with h; subst h; exact K_manchester_boundary_ok m
  · injection h with h; subst h; exact K_manchester_add_ok m
  · injection h with h; subst h; exact K_manchester_check_ok m
  · injection h with h; subst h; exact K_manchester_transmit_ok m
  · cases h
def w_manchester_Encode (b : List Run × Int) : List (RV C) := [(dRow 59).e b.1, (dInt .i64).e b.2]
noncomputable def Q_manchester_Encode_8 (m : Nat) : St C → (Exit → St C → Option (List (RV C))) → Option (List (RV C)) := fun σ k => codeK Try.prog (Ψ_manchester_Encode m) (callK Try.prog (Ψ_manchester_Encode m) keep m 0) (keep 14) m (subC body14 [.r, .r, .r, .r, .l, .r, .b, .o]) σ k
noncomputable def KL_manchester_Encode_8 (m : Nat) : Exit → St C → Option (List (RV C)) := contK Try.prog (Ψ_manchester_Encode m) (callK Try.prog (Ψ_manchester_Encode m) keep m 0) (keep 14) m body14 [.r, .r, .r, .r, .l, .r, .b, .o] (leaveK Try.prog Try.f14.results.toList (finK Try.prog Try.f14.resultTypes.toList))
noncomputable def Q_manchester_Encode_19 (m : Nat) : St C → (Exit → St C → Option (List (RV C))) → Option (List (RV C)) := fun σ k => codeK Try.prog (Ψ_manchester_Encode m) (callK Try.prog (Ψ_manchester_Encode m) keep m 0) (keep 14) m (subC body14 [.r, .r, .r, .r, .r, .r, .r, .l, .r, .b, .o]) σ k
noncomputable def KL_manchester_Encode_19 (m : Nat) : Exit → St C → Option (List (RV C)) := contK Try.prog (Ψ_manchester_Encode m) (callK Try.prog (Ψ_manchester_Encode m) keep m 0) (keep 14) m body14 [.r, .r, .r, .r, .r, .r, .r, .l, .r, .b, .o] (leaveK Try.prog Try.f14.results.toList (finK Try.prog Try.f14.resultTypes.toList))
noncomputable def L_manchester_Encode_l8 (m n : Nat) (t28 : Int) (t29 : Int) (c0 : Manchester) (out_7 : List Run) (t27 : List Item) : Option (List (RV C)) := iterK (Q_manchester_Encode_8 m) (St.norm (keep 14 8)) n ({ T := [.dead, .dead, .fl (.one (.ptr 0 0)), .dead, .dead, .dead, .dead, .fl (.one (.sl 1)), .dead, .dead, .dead, .dead, .dead, .dead, .dead, .dead, .dead, .dead, .dead, .dead, .dead, .dead, .dead, .dead, .dead, .dead, .dead, .fl (.one (.sl 2)), .fl (.one (.int .i64 t28)), .fl (.one (.int .i64 t29))] ++ List.replicate 35 .dead, F := [[]], H := [.box 25 (cells_Manchester c0), .row 59 true out_7, .row 52 false t27] } : St C) (KL_manchester_Encode_8 m)
noncomputable def L_manchester_Encode_l19 (m n : Nat) (long_11 : Int) (t52 : Int) (t53 : Int) (out_7 : List Run) : Option (List (RV C)) := iterK (Q_manchester_Encode_19 m) (St.norm (keep 14 19)) n ({ T := [.dead, .dead, .dead, .dead, .dead, .dead, .dead, .fl (.one (.sl 0)), .dead, .dead, .dead, .fl (.one (.int .i64 long_11)), .dead, .dead, .dead, .dead, .dead, .dead, .dead, .dead, .dead, .dead, .dead, .dead, .dead, .dead, .dead, .dead, .dead, .dead, .dead, .dead, .dead, .dead, .dead, .dead, .dead, .dead, .dead, .dead, .dead, .dead, .dead, .dead, .dead, .dead, .dead, .dead, .dead, .dead, .dead, .fl (.one (.sl 0)), .fl (.one (.int .i64 t52)), .fl (.one (.int .i64 t53))] ++ List.replicate 11 .dead, F := [[]], H := [.row 59 true out_7] } : St C) (KL_manchester_Encode_19 m)
noncomputable def b_manchester_Encode_l19 {R : Type} (m : Nat) (ret : List Run → Int → Option R) (k_l19 : Int → Int → Int → List Run → Option R) (long_11 : Int) (t52 : Int) (t53 : Int) (out_7 : List Run) : Option R :=
 bif decide (t53 < t52) then
 bif decide (0 ≤ t53) then
 bif decide (t53 < (out_7.length : Int)) then
 k_l19 (IntKind.i64.wrap (long_11 + (out_7.getD t53.toNat dflt_Run).Ticks)) t52 (IntKind.i64.wrap (t53 + 1)) out_7
 else
 none
 else
 none
 else
 bif decide (long_11 > 1099511627776) then
 ret [] 2
 else
 ret out_7 0
theorem L_manchester_Encode_l19_step (m n : Nat) (long_11 : Int) (t52 : Int) (t53 : Int) (out_7 : List Run) : L_manchester_Encode_l19 m (n + 1) long_11 t52 t53 out_7 = b_manchester_Encode_l19 m (fun x0 x1 => some (w_manchester_Encode (x0, x1))) (fun long_11 t52 t53 out_7 => L_manchester_Encode_l19 m n long_11 t52 t53 out_7) long_11 t52 t53 out_7 := by kernel_rfl
theorem b_manchester_Encode_l19_map (m : Nat) {k_l19 : Int → Int → Int → List Run → Option (List (RV C))} {q_l19 : Int → Int → Int → List Run → Option (List Run × Int)} (h_l19 : ∀ long_11 t52 t53 out_7, k_l19 long_11 t52 t53 out_7 = (q_l19 long_11 t52 t53 out_7).map w_manchester_Encode) (long_11 : Int) (t52 : Int) (t53 : Int) (out_7 : List Run) : b_manchester_Encode_l19 m (fun x0 x1 => some (w_manchester_Encode (x0, x1))) k_l19 long_11 t52 t53 out_7 = (b_manchester_Encode_l19 m (fun x0 x1 => some (x0, x1)) q_l19 long_11 t52 t53 out_7).map w_manchester_Encode := by
  simp only [b_manchester_Encode_l19, cond_map, bind_map, map_none, map_some, h_l19]
noncomputable def manchester_Encode_l19 (m : Nat) : Nat → Int → Int → Int → List Run → Option (List Run × Int)
  | 0, _, _, _, _ => none
  | n + 1, long_11, t52, t53, out_7 => b_manchester_Encode_l19 m (fun x0 x1 => some (x0, x1)) (fun long_11 t52 t53 out_7 => manchester_Encode_l19 m n long_11 t52 t53 out_7) long_11 t52 t53 out_7
theorem L_manchester_Encode_l19_eq (m : Nat) : ∀ (n : Nat) (long_11 : Int) (t52 : Int) (t53 : Int) (out_7 : List Run), L_manchester_Encode_l19 m n long_11 t52 t53 out_7 = (manchester_Encode_l19 m n long_11 t52 t53 out_7).map w_manchester_Encode
  | 0, long_11, t52, t53, out_7 => by kernel_rfl
  | n + 1, long_11, t52, t53, out_7 => by
    rw [L_manchester_Encode_l19_step]
    exact b_manchester_Encode_l19_map m (fun long_11 t52 t53 out_7 => L_manchester_Encode_l19_eq m n long_11 t52 t53 out_7) long_11 t52 t53 out_7
noncomputable def b_manchester_Encode_l8 {R : Type} (m : Nat) (ret : List Run → Int → Option R) (k_l8 : Int → Int → Manchester → List Run → List Item → Option R) (k_l19 : Int → Int → Int → List Run → Option R) (t28 : Int) (t29 : Int) (c0 : Manchester) (out_7 : List Run) (t27 : List Item) : Option R :=
 bif decide (t29 < t28) then
 (bif decide (0 ≤ t29) then
 (bif decide (t29 < (t27.length : Int)) then
 ((manchester_check m (t27.getD t29.toNat dflt_Item)).bind fun r0 =>
 bif r0 != 0 then
 ret [] r0
 else
 (manchester_signal m c0 0).bind fun r1 =>
 (manchester_add m out_7 r1 (t27.getD t29.toNat dflt_Item).Gap).bind fun r2 =>
 (manchester_transmit m c0 r2 (t27.getD t29.toNat dflt_Item)).bind fun r3 =>
 k_l8 t28 (IntKind.i64.wrap (t29 + 1)) c0 r3 t27)
 else
 none)
 else
 none)
 else
 bif decide ((out_7.length : Int) > 262144) then
 ret [] 6
 else
 k_l19 0 (out_7.length : Int) 0 out_7
theorem L_manchester_Encode_l8_step (m n : Nat) (t28 : Int) (t29 : Int) (c0 : Manchester) (out_7 : List Run) (t27 : List Item) : L_manchester_Encode_l8 m (n + 1) t28 t29 c0 out_7 t27 = b_manchester_Encode_l8 m (fun x0 x1 => some (w_manchester_Encode (x0, x1))) (fun t28 t29 c0 out_7 t27 => L_manchester_Encode_l8 m n t28 t29 c0 out_7 t27) (fun long_11 t52 t53 out_7 => L_manchester_Encode_l19 m m long_11 t52 t53 out_7) t28 t29 c0 out_7 t27 := by kernel_rfl
theorem b_manchester_Encode_l8_map (m : Nat) {k_l8 : Int → Int → Manchester → List Run → List Item → Option (List (RV C))} {q_l8 : Int → Int → Manchester → List Run → List Item → Option (List Run × Int)} (h_l8 : ∀ t28 t29 c0 out_7 t27, k_l8 t28 t29 c0 out_7 t27 = (q_l8 t28 t29 c0 out_7 t27).map w_manchester_Encode) {k_l19 : Int → Int → Int → List Run → Option (List (RV C))} {q_l19 : Int → Int → Int → List Run → Option (List Run × Int)} (h_l19 : ∀ long_11 t52 t53 out_7, k_l19 long_11 t52 t53 out_7 = (q_l19 long_11 t52 t53 out_7).map w_manchester_Encode) (t28 : Int) (t29 : Int) (c0 : Manchester) (out_7 : List Run) (t27 : List Item) : b_manchester_Encode_l8 m (fun x0 x1 => some (w_manchester_Encode (x0, x1))) k_l8 k_l19 t28 t29 c0 out_7 t27 = (b_manchester_Encode_l8 m (fun x0 x1 => some (x0, x1)) q_l8 q_l19 t28 t29 c0 out_7 t27).map w_manchester_Encode := by
  simp only [b_manchester_Encode_l8, cond_map, bind_map, map_none, map_some, h_l8, h_l19]
noncomputable def manchester_Encode_l8 (m : Nat) : Nat → Int → Int → Manchester → List Run → List Item → Option (List Run × Int)
  | 0, _, _, _, _, _ => none
  | n + 1, t28, t29, c0, out_7, t27 => b_manchester_Encode_l8 m (fun x0 x1 => some (x0, x1)) (fun t28 t29 c0 out_7 t27 => manchester_Encode_l8 m n t28 t29 c0 out_7 t27) (fun long_11 t52 t53 out_7 => manchester_Encode_l19 m m long_11 t52 t53 out_7) t28 t29 c0 out_7 t27
theorem L_manchester_Encode_l8_eq (m : Nat) : ∀ (n : Nat) (t28 : Int) (t29 : Int) (c0 : Manchester) (out_7 : List Run) (t27 : List Item), L_manchester_Encode_l8 m n t28 t29 c0 out_7 t27 = (manchester_Encode_l8 m n t28 t29 c0 out_7 t27).map w_manchester_Encode
  | 0, t28, t29, c0, out_7, t27 => by kernel_rfl
  | n + 1, t28, t29, c0, out_7, t27 => by
    rw [L_manchester_Encode_l8_step]
    exact b_manchester_Encode_l8_map m (fun t28 t29 c0 out_7 t27 => L_manchester_Encode_l8_eq m n t28 t29 c0 out_7 t27) (fun long_11 t52 t53 out_7 => L_manchester_Encode_l19_eq m m long_11 t52 t53 out_7) t28 t29 c0 out_7 t27
noncomputable def b_manchester_Encode {R : Type} (m : Nat) (ret : List Run → Int → Option R) (k_l8 : Int → Int → Manchester → List Run → List Item → Option R) (c_0 : Manchester) (l_1 : List Item) : Option R :=
 (manchester_Check m c_0).bind fun r0 =>
 bif r0 != 0 then
 ret [] r0
 else
 bif decide ((l_1.length : Int) > 1024) then
 ret [] 6
 else
 (manchester_signal m c_0 0).bind fun r1 =>
 (manchester_boundary m c_0 2).bind fun r2 =>
 (manchester_add m [] r1 r2).bind fun r3 =>
 k_l8 (l_1.length : Int) 0 c_0 r3 l_1
theorem manchester_Encode_pre (m : Nat) (c_0 : Manchester) (l_1 : List Item) : funK Try.prog (Ψ_manchester_Encode m) keep m 1 14 [(dS of_Manchester cells_Manchester of_Manchester_ok).e c_0, (dRow 52).e l_1] = b_manchester_Encode m (fun x0 x1 => some (w_manchester_Encode (x0, x1))) (fun t28 t29 c0 out_7 t27 => L_manchester_Encode_l8 m m t28 t29 c0 out_7 t27) c_0 l_1 := by kernel_rfl
theorem b_manchester_Encode_map (m : Nat) {k_l8 : Int → Int → Manchester → List Run → List Item → Option (List (RV C))} {q_l8 : Int → Int → Manchester → List Run → List Item → Option (List Run × Int)} (h_l8 : ∀ t28 t29 c0 out_7 t27, k_l8 t28 t29 c0 out_7 t27 = (q_l8 t28 t29 c0 out_7 t27).map w_manchester_Encode) (c_0 : Manchester) (l_1 : List Item) : b_manchester_Encode m (fun x0 x1 => some (w_manchester_Encode (x0, x1))) k_l8 c_0 l_1 = (b_manchester_Encode m (fun x0 x1 => some (x0, x1)) q_l8 c_0 l_1).map w_manchester_Encode := by
  simp only [b_manchester_Encode, cond_map, bind_map, map_none, map_some, h_l8]
noncomputable def manchester_Encode (m : Nat) (c_0 : Manchester) (l_1 : List Item) : Option (List Run × Int) := b_manchester_Encode m (fun x0 x1 => some (x0, x1)) (fun t28 t29 c0 out_7 t27 => manchester_Encode_l8 m m t28 t29 c0 out_7 t27) c_0 l_1
theorem manchester_Encode_fun (m : Nat) (c_0 : Manchester) (l_1 : List Item) : funK Try.prog (Ψ_manchester_Encode m) keep m 1 14 [(dS of_Manchester cells_Manchester of_Manchester_ok).e c_0, (dRow 52).e l_1] = (manchester_Encode m c_0 l_1).map w_manchester_Encode := by
  rw [manchester_Encode_pre]
  exact b_manchester_Encode_map m (fun t28 t29 c0 out_7 t27 => L_manchester_Encode_l8_eq m m t28 t29 c0 out_7 t27) c_0 l_1
noncomputable def K_manchester_Encode (m : Nat) : KnownF C := mkK (dCons (dS of_Manchester cells_Manchester of_Manchester_ok) (dCons (dRow 52) dNil)) (fun a => manchester_Encode m a.1 a.2.1) w_manchester_Encode
theorem K_manchester_Encode_ok (m : Nat) : KnownAt C Try.prog 14 fun l => (K_manchester_Encode m).run _ l some :=
  mkK_known good fit (Ψ_manchester_Encode_ok m) (keep := keep) (m := m) (d := 1) fun a => manchester_Encode_fun m a.1 a.2.1
/-! ### signalbench/manchester.Start -/
def w_manchester_Start (b : State) : List (RV C) := [(dS of_State cells_State of_State_ok).e b]
noncomputable def b_manchester_Start {R : Type} (m : Nat) (ret : State → Option R) (c_0 : Manchester) : Option R :=
 ret (State.mk 0 0 0 0 0 0 0 (bs []))
theorem manchester_Start_pre (m : Nat) (c_0 : Manchester) : funK Try.prog Ψ0 keep m 1 16 [(dS of_Manchester cells_Manchester of_Manchester_ok).e c_0] = b_manchester_Start m (fun x0 => some (w_manchester_Start x0)) c_0 := by kernel_rfl
theorem b_manchester_Start_map (m : Nat) (c_0 : Manchester) : b_manchester_Start m (fun x0 => some (w_manchester_Start x0)) c_0 = (b_manchester_Start m (fun x0 => some x0) c_0).map w_manchester_Start := by
  simp only [b_manchester_Start, cond_map, bind_map, map_none, map_some]
noncomputable def manchester_Start (m : Nat) (c_0 : Manchester) : Option (State) := b_manchester_Start m (fun x0 => some x0) c_0
theorem manchester_Start_fun (m : Nat) (c_0 : Manchester) : funK Try.prog Ψ0 keep m 1 16 [(dS of_Manchester cells_Manchester of_Manchester_ok).e c_0] = (manchester_Start m c_0).map w_manchester_Start := by
  rw [manchester_Start_pre]
  exact b_manchester_Start_map m c_0
noncomputable def K_manchester_Start (m : Nat) : KnownF C := mkK (dCons (dS of_Manchester cells_Manchester of_Manchester_ok) dNil) (fun a => manchester_Start m a.1) w_manchester_Start
theorem K_manchester_Start_ok (m : Nat) : KnownAt C Try.prog 16 fun l => (K_manchester_Start m).run _ l some :=
  mkK_known good fit Ψ0_ok (keep := keep) (m := m) (d := 1) fun a => manchester_Start_fun m a.1
/-! ### signalbench/event.Valid -/
def w_event_Valid (b : Bool) : List (RV C) := [dBool.e b]
noncomputable def b_event_Valid {R : Type} (m : Nat) (ret : Bool → Option R) (e_0 : Event) : Option R :=
 bif decide (e_0.Kind < 1) then
 ret false
 else
 bif decide (e_0.Kind > 8) then
 ret false
 else
 bif decide (e_0.From < 0) then
 ret false
 else
 bif decide (e_0.From > e_0.To) then
 ret false
 else
 bif decide (e_0.To > 1099511627776) then
 ret false
 else
 bif decide (e_0.Value < -9007199254740992) then
 ret false
 else
 bif decide (e_0.Value > 9007199254740992) then
 ret false
 else
 bif decide (e_0.Aux < -9007199254740992) then
 ret false
 else
 bif decide (e_0.Aux > 9007199254740992) then
 ret false
 else
 bif decide ((e_0.Data.size : Int) ≤ 4096) then
 bif decide (e_0.Fault ≥ 0) then
 ret (decide (e_0.Fault ≤ 12))
 else
 ret false
 else
 ret false
theorem event_Valid_pre (m : Nat) (e_0 : Event) : funK Try.prog Ψ0 keep m 1 54 [(dS of_Event cells_Event of_Event_ok).e e_0] = b_event_Valid m (fun x0 => some (w_event_Valid x0)) e_0 := by kernel_rfl
theorem b_event_Valid_map (m : Nat) (e_0 : Event) : b_event_Valid m (fun x0 => some (w_event_Valid x0)) e_0 = (b_event_Valid m (fun x0 => some x0) e_0).map w_event_Valid := by
  simp only [b_event_Valid, cond_map, bind_map, map_none, map_some]
noncomputable def event_Valid (m : Nat) (e_0 : Event) : Option (Bool) := b_event_Valid m (fun x0 => some x0) e_0
theorem event_Valid_fun (m : Nat) (e_0 : Event) : funK Try.prog Ψ0 keep m 1 54 [(dS of_Event cells_Event of_Event_ok).e e_0] = (event_Valid m e_0).map w_event_Valid := by
  rw [event_Valid_pre]
  exact b_event_Valid_map m e_0
noncomputable def K_event_Valid (m : Nat) : KnownF C := mkK (dCons (dS of_Event cells_Event of_Event_ok) dNil) (fun a => event_Valid m a.1) w_event_Valid
theorem K_event_Valid_ok (m : Nat) : KnownAt C Try.prog 54 fun l => (K_event_Valid m).run _ l some :=
  mkK_known good fit Ψ0_ok (keep := keep) (m := m) (d := 1) fun a => event_Valid_fun m a.1
/-! ### signalbench/manchester.accepts -/
noncomputable def Ψ_manchester_accepts (m : Nat) : Known C := fun f => match f with
  | 54 => some (K_event_Valid m)
  | _ => none
theorem Ψ_manchester_accepts_ok (m : Nat) : KnownOk C Try.prog (Ψ_manchester_accepts m) := by
  intro f φ h
  unfold Ψ_manchester_accepts at h
  split at h
  · injection h with h; subst h; exact K_event_Valid_ok m
  · cases h
def w_manchester_accepts (b : Bool) : List (RV C) := [dBool.e b]
noncomputable def b_manchester_accepts {R : Type} (m : Nat) (ret : Bool → Option R) (s_0 : State) (e_1 : Event) : Option R :=
 bif e_1.Kind != 1 then
 ret false
 else
 (event_Valid m e_1).bind fun r0 =>
 bif !r0 then
 ret false
 else
 bif e_1.Fault != 0 then
 ret false
 else
 bif decide (e_1.From ≥ e_1.To) then
 ret false
 else
 bif e_1.Value == 0 then
 bif s_0.Aux == 0 then
 ret true
 else
 ret (e_1.From == s_0.At)
 else
 bif e_1.Value == 1 then
 bif s_0.Aux == 0 then
 ret true
 else
 ret (e_1.From == s_0.At)
 else
 ret false
theorem manchester_accepts_pre (m : Nat) (s_0 : State) (e_1 : Event) : funK Try.prog (Ψ_manchester_accepts m) keep m 1 35 [(dS of_State cells_State of_State_ok).e s_0, (dS of_Event cells_Event of_Event_ok).e e_1] = b_manchester_accepts m (fun x0 => some (w_manchester_accepts x0)) s_0 e_1 := by kernel_rfl
theorem b_manchester_accepts_map (m : Nat) (s_0 : State) (e_1 : Event) : b_manchester_accepts m (fun x0 => some (w_manchester_accepts x0)) s_0 e_1 = (b_manchester_accepts m (fun x0 => some x0) s_0 e_1).map w_manchester_accepts := by
  simp only [b_manchester_accepts, cond_map, bind_map, map_none, map_some]
noncomputable def manchester_accepts (m : Nat) (s_0 : State) (e_1 : Event) : Option (Bool) := b_manchester_accepts m (fun x0 => some x0) s_0 e_1
theorem manchester_accepts_fun (m : Nat) (s_0 : State) (e_1 : Event) : funK Try.prog (Ψ_manchester_accepts m) keep m 1 35 [(dS of_State cells_State of_State_ok).e s_0, (dS of_Event cells_Event of_Event_ok).e e_1] = (manchester_accepts m s_0 e_1).map w_manchester_accepts := by
  rw [manchester_accepts_pre]
  exact b_manchester_accepts_map m s_0 e_1
noncomputable def K_manchester_accepts (m : Nat) : KnownF C := mkK (dCons (dS of_State cells_State of_State_ok) (dCons (dS of_Event cells_Event of_Event_ok) dNil)) (fun a => manchester_accepts m a.1 a.2.1) w_manchester_accepts
theorem K_manchester_accepts_ok (m : Nat) : KnownAt C Try.prog 35 fun l => (K_manchester_accepts m).run _ l some :=
  mkK_known good fit (Ψ_manchester_accepts_ok m) (keep := keep) (m := m) (d := 1) fun a => manchester_accepts_fun m a.1 a.2.1
/-! ### signalbench/manchester.edge -/
def w_manchester_edge (b : State × List Event) : List (RV C) := [(dS of_State cells_State of_State_ok).e b.1, (dRow 29).e b.2]
noncomputable def b_manchester_edge {R : Type} (m : Nat) (ret : State → List Event → Option R) (c_0 : Manchester) (s_1 : State) (t_2 : Int) : Option R :=
 bif s_1.Phase == 0 then
 bif s_1.Prev == 1 then
 ret { s_1 with Phase := 1, From := t_2 } []
 else
 ret { s_1 with Phase := 0 } []
 else
 bif decide (IntKind.i64.wrap ((if 8388608 < IntKind.i64.wrap (t_2 - s_1.From) then 8388608 else IntKind.i64.wrap (t_2 - s_1.From)) * c_0.T_Den) ≥ IntKind.i64.wrap (2 * c_0.T_Num)) then
 bif s_1.Prev == 1 then
 ret { s_1 with Phase := 1, From := t_2 } []
 else
 ret { s_1 with Phase := 0 } []
 else
 bif decide (IntKind.i64.wrap (2 * c_0.T_Den) = 0) then
 none
 else
 bif decide (IntKind.i64.wrap (4 * IntKind.i64.wrap ((if 8388608 < IntKind.i64.wrap (t_2 - s_1.From) then 8388608 else IntKind.i64.wrap (t_2 - s_1.From)) * c_0.T_Den)) < IntKind.i64.wrap (3 * c_0.T_Num)) then
 ret s_1 []
 else
 bif decide (IntKind.i64.wrap (4 * IntKind.i64.wrap ((if 8388608 < IntKind.i64.wrap (t_2 - s_1.From) then 8388608 else IntKind.i64.wrap (t_2 - s_1.From)) * c_0.T_Den)) > IntKind.i64.wrap (5 * c_0.T_Num)) then
 ret { s_1 with From := t_2 } ([Event.mk 2 (IntKind.i64.wrap (s_1.From + IntKind.i64.wrap (c_0.T_Num.tdiv (IntKind.i64.wrap (2 * c_0.T_Den))))) t_2 0 0 (bs []) 5])
 else
 ret { s_1 with From := t_2 } ([Event.mk 2 (IntKind.i64.wrap (s_1.From + IntKind.i64.wrap (c_0.T_Num.tdiv (IntKind.i64.wrap (2 * c_0.T_Den))))) t_2 s_1.Prev 0 (bs []) 0])
theorem manchester_edge_pre (m : Nat) (c_0 : Manchester) (s_1 : State) (t_2 : Int) : funK Try.prog Ψ0 keep m 1 37 [(dS of_Manchester cells_Manchester of_Manchester_ok).e c_0, (dS of_State cells_State of_State_ok).e s_1, (dInt .i64).e t_2] = b_manchester_edge m (fun x0 x1 => some (w_manchester_edge (x0, x1))) c_0 s_1 t_2 := by kernel_rfl
theorem b_manchester_edge_map (m : Nat) (c_0 : Manchester) (s_1 : State) (t_2 : Int) : b_manchester_edge m (fun x0 x1 => some (w_manchester_edge (x0, x1))) c_0 s_1 t_2 = (b_manchester_edge m (fun x0 x1 => some (x0, x1)) c_0 s_1 t_2).map w_manchester_edge := by
  simp only [b_manchester_edge, cond_map, bind_map, map_none, map_some]
noncomputable def manchester_edge (m : Nat) (c_0 : Manchester) (s_1 : State) (t_2 : Int) : Option (State × List Event) := b_manchester_edge m (fun x0 x1 => some (x0, x1)) c_0 s_1 t_2
theorem manchester_edge_fun (m : Nat) (c_0 : Manchester) (s_1 : State) (t_2 : Int) : funK Try.prog Ψ0 keep m 1 37 [(dS of_Manchester cells_Manchester of_Manchester_ok).e c_0, (dS of_State cells_State of_State_ok).e s_1, (dInt .i64).e t_2] = (manchester_edge m c_0 s_1 t_2).map w_manchester_edge := by
  rw [manchester_edge_pre]
  exact b_manchester_edge_map m c_0 s_1 t_2
noncomputable def K_manchester_edge (m : Nat) : KnownF C := mkK (dCons (dS of_Manchester cells_Manchester of_Manchester_ok) (dCons (dS of_State cells_State of_State_ok) (dCons (dInt .i64) dNil))) (fun a => manchester_edge m a.1 a.2.1 a.2.2.1) w_manchester_edge
theorem K_manchester_edge_ok (m : Nat) : KnownAt C Try.prog 37 fun l => (K_manchester_edge m).run _ l some :=
  mkK_known good fit Ψ0_ok (keep := keep) (m := m) (d := 1) fun a => manchester_edge_fun m a.1 a.2.1 a.2.2.1
/-! ### signalbench/manchester.Step -/
noncomputable def Ψ_manchester_Step (m : Nat) : Known C := fun f => match f with
  | 10 => some (K_manchester_Check m)
  | 35 => some (K_manchester_accepts m)
  | 36 => some (K_manchester_signal m)
  | 37 => some (K_manchester_edge m)
  | _ => none
theorem Ψ_manchester_Step_ok (m : Nat) : KnownOk C Try.prog (Ψ_manchester_Step m) := by
  intro f φ h
  unfold Ψ_manchester_Step at h
  split at h
  · injection h with h; subst h; exact K_manchester_Check_ok m
  · injection h with h; subst h; exact K_manchester_accepts_ok m
  · injection h with h; subst h; exact K_manchester_signal_ok m
  · injection h with h; subst h; exact K_manchester_edge_ok m
  · cases h
def w_manchester_Step (b : State × List Event) : List (RV C) := [(dS of_State cells_State of_State_ok).e b.1, (dRow 29).e b.2]
noncomputable def b_manchester_Step {R : Type} (m : Nat) (ret : State → List Event → Option R) (c_0 : Manchester) (s_1 : State) (e_2 : Event) : Option R :=
 (manchester_Check m c_0).bind fun r0 =>
 bif r0 != 0 then
 ret s_1 []
 else
 (manchester_accepts m s_1 e_2).bind fun r1 =>
 bif !r1 then
 ret s_1 []
 else
 (manchester_signal m c_0 e_2.Value).bind fun r2 =>
 bif r2 == s_1.Prev then
 ret { s_1 with At := e_2.To, Aux := 1 } []
 else
 (manchester_edge m c_0 (State.mk s_1.Phase e_2.To s_1.From s_1.Count s_1.Acc 1 r2 s_1.Data) e_2.From).bind fun r3 =>
 ret r3.fst r3.snd
theorem manchester_Step_pre (m : Nat) (c_0 : Manchester) (s_1 : State) (e_2 : Event) : funK Try.prog (Ψ_manchester_Step m) keep m 1 13 [(dS of_Manchester cells_Manchester of_Manchester_ok).e c_0, (dS of_State cells_State of_State_ok).e s_1, (dS of_Event cells_Event of_Event_ok).e e_2] = b_manchester_Step m (fun x0 x1 => some (w_manchester_Step (x0, x1))) c_0 s_1 e_2 := by kernel_rfl
theorem b_manchester_Step_map (m : Nat) (c_0 : Manchester) (s_1 : State) (e_2 : Event) : b_manchester_Step m (fun x0 x1 => some (w_manchester_Step (x0, x1))) c_0 s_1 e_2 = (b_manchester_Step m (fun x0 x1 => some (x0, x1)) c_0 s_1 e_2).map w_manchester_Step := by
  simp only [b_manchester_Step, cond_map, bind_map, map_none, map_some]
noncomputable def manchester_Step (m : Nat) (c_0 : Manchester) (s_1 : State) (e_2 : Event) : Option (State × List Event) := b_manchester_Step m (fun x0 x1 => some (x0, x1)) c_0 s_1 e_2
theorem manchester_Step_fun (m : Nat) (c_0 : Manchester) (s_1 : State) (e_2 : Event) : funK Try.prog (Ψ_manchester_Step m) keep m 1 13 [(dS of_Manchester cells_Manchester of_Manchester_ok).e c_0, (dS of_State cells_State of_State_ok).e s_1, (dS of_Event cells_Event of_Event_ok).e e_2] = (manchester_Step m c_0 s_1 e_2).map w_manchester_Step := by
  rw [manchester_Step_pre]
  exact b_manchester_Step_map m c_0 s_1 e_2
noncomputable def K_manchester_Step (m : Nat) : KnownF C := mkK (dCons (dS of_Manchester cells_Manchester of_Manchester_ok) (dCons (dS of_State cells_State of_State_ok) (dCons (dS of_Event cells_Event of_Event_ok) dNil))) (fun a => manchester_Step m a.1 a.2.1 a.2.2.1) w_manchester_Step
theorem K_manchester_Step_ok (m : Nat) : KnownAt C Try.prog 13 fun l => (K_manchester_Step m).run _ l some :=
  mkK_known good fit (Ψ_manchester_Step_ok m) (keep := keep) (m := m) (d := 1) fun a => manchester_Step_fun m a.1 a.2.1 a.2.2.1
/-! ### signalbench/manchester.End -/
def w_manchester_End (b : List Event) : List (RV C) := [(dRow 29).e b]
noncomputable def b_manchester_End {R : Type} (m : Nat) (ret : List Event → Option R) (c_0 : Manchester) (s_1 : State) : Option R :=
 ret []
theorem manchester_End_pre (m : Nat) (c_0 : Manchester) (s_1 : State) : funK Try.prog Ψ0 keep m 1 17 [(dS of_Manchester cells_Manchester of_Manchester_ok).e c_0, (dS of_State cells_State of_State_ok).e s_1] = b_manchester_End m (fun x0 => some (w_manchester_End x0)) c_0 s_1 := by kernel_rfl
theorem b_manchester_End_map (m : Nat) (c_0 : Manchester) (s_1 : State) : b_manchester_End m (fun x0 => some (w_manchester_End x0)) c_0 s_1 = (b_manchester_End m (fun x0 => some x0) c_0 s_1).map w_manchester_End := by
  simp only [b_manchester_End, cond_map, bind_map, map_none, map_some]
noncomputable def manchester_End (m : Nat) (c_0 : Manchester) (s_1 : State) : Option (List Event) := b_manchester_End m (fun x0 => some x0) c_0 s_1
theorem manchester_End_fun (m : Nat) (c_0 : Manchester) (s_1 : State) : funK Try.prog Ψ0 keep m 1 17 [(dS of_Manchester cells_Manchester of_Manchester_ok).e c_0, (dS of_State cells_State of_State_ok).e s_1] = (manchester_End m c_0 s_1).map w_manchester_End := by
  rw [manchester_End_pre]
  exact b_manchester_End_map m c_0 s_1
noncomputable def K_manchester_End (m : Nat) : KnownF C := mkK (dCons (dS of_Manchester cells_Manchester of_Manchester_ok) (dCons (dS of_State cells_State of_State_ok) dNil)) (fun a => manchester_End m a.1 a.2.1) w_manchester_End
theorem K_manchester_End_ok (m : Nat) : KnownAt C Try.prog 17 fun l => (K_manchester_End m).run _ l some :=
  mkK_known good fit Ψ0_ok (keep := keep) (m := m) (d := 1) fun a => manchester_End_fun m a.1 a.2.1
/-! ### signalbench/manchester.Decode -/
noncomputable def Ψ_manchester_Decode (m : Nat) : Known C := fun f => match f with
  | 16 => some (K_manchester_Start m)
  | 13 => some (K_manchester_Step m)
  | 17 => some (K_manchester_End m)
  | _ => none
theorem Ψ_manchester_Decode_ok (m : Nat) : KnownOk C Try.prog (Ψ_manchester_Decode m) := by
  intro f φ h
  unfold Ψ_manchester_Decode at h
  split at h
  · injection h with h; subst h; exact K_manchester_Start_ok m
  · injection h with h; subst h; exact K_manchester_Step_ok m
  · injection h with h; subst h; exact K_manchester_End_ok m
  · cases h
def w_manchester_Decode (b : List Event) : List (RV C) := [(dRow 29).e b]
noncomputable def Q_manchester_Decode_4 (m : Nat) : St C → (Exit → St C → Option (List (RV C))) → Option (List (RV C)) := fun σ k => codeK Try.prog (Ψ_manchester_Decode m) (callK Try.prog (Ψ_manchester_Decode m) keep m 0) (keep 18) m (subC body18 [.r, .r, .r, .l, .r, .b, .o]) σ k
noncomputable def KL_manchester_Decode_4 (m : Nat) : Exit → St C → Option (List (RV C)) := contK Try.prog (Ψ_manchester_Decode m) (callK Try.prog (Ψ_manchester_Decode m) keep m 0) (keep 18) m body18 [.r, .r, .r, .l, .r, .b, .o] (leaveK Try.prog Try.f18.results.toList (finK Try.prog Try.f18.resultTypes.toList))
noncomputable def L_manchester_Decode_l4 (m n : Nat) (t14 : Int) (t15 : Int) (c0 : Manchester) (c1 : State) (out_6 : List Event) (t13 : List Event) : Option (List (RV C)) := iterK (Q_manchester_Decode_4 m) (St.norm (keep 18 4)) n ({ T := [.dead, .dead, .fl (.one (.ptr 0 0)), .dead, .dead, .fl (.one (.ptr 1 0)), .fl (.one (.sl 2)), .dead, .dead, .dead, .dead, .dead, .dead, .fl (.one (.sl 3)), .fl (.one (.int .i64 t14)), .fl (.one (.int .i64 t15))] ++ List.replicate 20 .dead, F := [[]], H := [.box 25 (cells_Manchester c0), .box 27 (cells_State c1), .row 29 true out_6, .row 29 false t13] } : St C) (KL_manchester_Decode_4 m)
noncomputable def b_manchester_Decode_l4 {R : Type} (m : Nat) (ret : List Event → Option R) (k_l4 : Int → Int → Manchester → State → List Event → List Event → Option R) (t14 : Int) (t15 : Int) (c0 : Manchester) (c1 : State) (out_6 : List Event) (t13 : List Event) : Option R :=
 bif decide (t15 < t14) then
 (bif decide (0 ≤ t15) then
 (bif decide (t15 < (t13.length : Int)) then
 ((manchester_Step m c0 c1 (t13.getD t15.toNat dflt_Event)).bind fun r0 =>
 bif decide ((out_6.length + r0.snd.length) * 64 ≤ 140737488355328) then
 k_l4 t14 (IntKind.i64.wrap (t15 + 1)) c0 r0.fst (out_6 ++ r0.snd) t13
 else
 none)
 else
 none)
 else
 none)
 else
 bif decide ((out_6.length + 0) * 64 ≤ 140737488355328) then
 ret (out_6 ++ [])
 else
 none
theorem L_manchester_Decode_l4_step (m n : Nat) (t14 : Int) (t15 : Int) (c0 : Manchester) (c1 : State) (out_6 : List Event) (t13 : List Event) : L_manchester_Decode_l4 m (n + 1) t14 t15 c0 c1 out_6 t13 = b_manchester_Decode_l4 m (fun x0 => some (w_manchester_Decode x0)) (fun t14 t15 c0 c1 out_6 t13 => L_manchester_Decode_l4 m n t14 t15 c0 c1 out_6 t13) t14 t15 c0 c1 out_6 t13 := by kernel_rfl
theorem b_manchester_Decode_l4_map (m : Nat) {k_l4 : Int → Int → Manchester → State → List Event → List Event → Option (List (RV C))} {q_l4 : Int → Int → Manchester → State → List Event → List Event → Option (List Event)} (h_l4 : ∀ t14 t15 c0 c1 out_6 t13, k_l4 t14 t15 c0 c1 out_6 t13 = (q_l4 t14 t15 c0 c1 out_6 t13).map w_manchester_Decode) (t14 : Int) (t15 : Int) (c0 : Manchester) (c1 : State) (out_6 : List Event) (t13 : List Event) : b_manchester_Decode_l4 m (fun x0 => some (w_manchester_Decode x0)) k_l4 t14 t15 c0 c1 out_6 t13 = (b_manchester_Decode_l4 m (fun x0 => some x0) q_l4 t14 t15 c0 c1 out_6 t13).map w_manchester_Decode := by
  simp only [b_manchester_Decode_l4, cond_map, bind_map, map_none, map_some, h_l4]
noncomputable def manchester_Decode_l4 (m : Nat) : Nat → Int → Int → Manchester → State → List Event → List Event → Option (List Event)
  | 0, _, _, _, _, _, _ => none
  | n + 1, t14, t15, c0, c1, out_6, t13 => b_manchester_Decode_l4 m (fun x0 => some x0) (fun t14 t15 c0 c1 out_6 t13 => manchester_Decode_l4 m n t14 t15 c0 c1 out_6 t13) t14 t15 c0 c1 out_6 t13
theorem L_manchester_Decode_l4_eq (m : Nat) : ∀ (n : Nat) (t14 : Int) (t15 : Int) (c0 : Manchester) (c1 : State) (out_6 : List Event) (t13 : List Event), L_manchester_Decode_l4 m n t14 t15 c0 c1 out_6 t13 = (manchester_Decode_l4 m n t14 t15 c0 c1 out_6 t13).map w_manchester_Decode
  | 0, t14, t15, c0, c1, out_6, t13 => by kernel_rfl
  | n + 1, t14, t15, c0, c1, out_6, t13 => by
    rw [L_manchester_Decode_l4_step]
    exact b_manchester_Decode_l4_map m (fun t14 t15 c0 c1 out_6 t13 => L_manchester_Decode_l4_eq m n t14 t15 c0 c1 out_6 t13) t14 t15 c0 c1 out_6 t13
noncomputable def b_manchester_Decode {R : Type} (m : Nat) (ret : List Event → Option R) (k_l4 : Int → Int → Manchester → State → List Event → List Event → Option R) (c_0 : Manchester) (l_1 : List Event) : Option R :=
 k_l4 (l_1.length : Int) 0 c_0 (State.mk 0 0 0 0 0 0 0 (bs [])) [] l_1
theorem manchester_Decode_pre (m : Nat) (c_0 : Manchester) (l_1 : List Event) : funK Try.prog (Ψ_manchester_Decode m) keep m 1 18 [(dS of_Manchester cells_Manchester of_Manchester_ok).e c_0, (dRow 29).e l_1] = b_manchester_Decode m (fun x0 => some (w_manchester_Decode x0)) (fun t14 t15 c0 c1 out_6 t13 => L_manchester_Decode_l4 m m t14 t15 c0 c1 out_6 t13) c_0 l_1 := by kernel_rfl
theorem b_manchester_Decode_map (m : Nat) {k_l4 : Int → Int → Manchester → State → List Event → List Event → Option (List (RV C))} {q_l4 : Int → Int → Manchester → State → List Event → List Event → Option (List Event)} (h_l4 : ∀ t14 t15 c0 c1 out_6 t13, k_l4 t14 t15 c0 c1 out_6 t13 = (q_l4 t14 t15 c0 c1 out_6 t13).map w_manchester_Decode) (c_0 : Manchester) (l_1 : List Event) : b_manchester_Decode m (fun x0 => some (w_manchester_Decode x0)) k_l4 c_0 l_1 = (b_manchester_Decode m (fun x0 => some x0) q_l4 c_0 l_1).map w_manchester_Decode := by
  simp only [b_manchester_Decode, cond_map, bind_map, map_none, map_some, h_l4]
noncomputable def manchester_Decode (m : Nat) (c_0 : Manchester) (l_1 : List Event) : Option (List Event) := b_manchester_Decode m (fun x0 => some x0) (fun t14 t15 c0 c1 out_6 t13 => manchester_Decode_l4 m m t14 t15 c0 c1 out_6 t13) c_0 l_1
theorem manchester_Decode_fun (m : Nat) (c_0 : Manchester) (l_1 : List Event) : funK Try.prog (Ψ_manchester_Decode m) keep m 1 18 [(dS of_Manchester cells_Manchester of_Manchester_ok).e c_0, (dRow 29).e l_1] = (manchester_Decode m c_0 l_1).map w_manchester_Decode := by
  rw [manchester_Decode_pre]
  exact b_manchester_Decode_map m (fun t14 t15 c0 c1 out_6 t13 => L_manchester_Decode_l4_eq m m t14 t15 c0 c1 out_6 t13) c_0 l_1
noncomputable def K_manchester_Decode (m : Nat) : KnownF C := mkK (dCons (dS of_Manchester cells_Manchester of_Manchester_ok) (dCons (dRow 29) dNil)) (fun a => manchester_Decode m a.1 a.2.1) w_manchester_Decode
theorem K_manchester_Decode_ok (m : Nat) : KnownAt C Try.prog 18 fun l => (K_manchester_Decode m).run _ l some :=
  mkK_known good fit (Ψ_manchester_Decode_ok m) (keep := keep) (m := m) (d := 1) fun a => manchester_Decode_fun m a.1 a.2.1
/-! ### signalbench/manchester.Expect -/
noncomputable def Ψ_manchester_Expect (m : Nat) : Known C := fun f => match f with
  | 14 => some (K_manchester_Encode m)
  | 18 => some (K_manchester_Decode m)
  | _ => none
theorem Ψ_manchester_Expect_ok (m : Nat) : KnownOk C Try.prog (Ψ_manchester_Expect m) := by
  intro f φ h
  unfold Ψ_manchester_Expect at h
  split at h
  · injection h with h; subst h; exact K_manchester_Encode_ok m
  · injection h with h; subst h; exact K_manchester_Decode_ok m
  · cases h
def w_manchester_Expect (b : List Event × Int) : List (RV C) := [(dRow 29).e b.1, (dInt .i64).e b.2]
noncomputable def Q_manchester_Expect_7 (m : Nat) : St C → (Exit → St C → Option (List (RV C))) → Option (List (RV C)) := fun σ k => codeK Try.prog (Ψ_manchester_Expect m) (callK Try.prog (Ψ_manchester_Expect m) keep m 0) (keep 15) m (subC body15 [.r, .r, .r, .r, .r, .l, .r, .b, .o]) σ k
noncomputable def KL_manchester_Expect_7 (m : Nat) : Exit → St C → Option (List (RV C)) := contK Try.prog (Ψ_manchester_Expect m) (callK Try.prog (Ψ_manchester_Expect m) keep m 0) (keep 15) m body15 [.r, .r, .r, .r, .r, .l, .r, .b, .o] (leaveK Try.prog Try.f15.results.toList (finK Try.prog Try.f15.resultTypes.toList))
noncomputable def L_manchester_Expect_l7 (m n : Nat) (at_9 : Int) (t22 : Int) (t23 : Int) (c0 : Manchester) (in_8 : List Event) (t21 : List Run) : Option (List (RV C)) := iterK (Q_manchester_Expect_7 m) (St.norm (keep 15 7)) n ({ T := [.dead, .dead, .fl (.one (.ptr 0 0)), .dead, .dead, .dead, .dead, .dead, .fl (.one (.sl 1)), .fl (.one (.int .i64 at_9)), .dead, .dead, .dead, .dead, .dead, .dead, .dead, .dead, .dead, .dead, .dead, .fl (.one (.sl 2)), .fl (.one (.int .i64 t22)), .fl (.one (.int .i64 t23))] ++ List.replicate 22 .dead, F := [[]], H := [.box 25 (cells_Manchester c0), .row 29 true in_8, .row 59 true t21] } : St C) (KL_manchester_Expect_7 m)
noncomputable def b_manchester_Expect_l7 {R : Type} (m : Nat) (ret : List Event → Int → Option R) (k_l7 : Int → Int → Int → Manchester → List Event → List Run → Option R) (at_9 : Int) (t22 : Int) (t23 : Int) (c0 : Manchester) (in_8 : List Event) (t21 : List Run) : Option R :=
 bif decide (t23 < t22) then
 bif decide (0 ≤ t23) then
 bif decide (t23 < (t21.length : Int)) then
 bif decide ((in_8.length + 1) * 64 ≤ 140737488355328) then
 k_l7 (IntKind.i64.wrap (at_9 + (t21.getD t23.toNat dflt_Run).Ticks)) t22 (IntKind.i64.wrap (t23 + 1)) c0 (in_8 ++ [Event.mk 1 at_9 (IntKind.i64.wrap (at_9 + (t21.getD t23.toNat dflt_Run).Ticks)) (t21.getD t23.toNat dflt_Run).Level 0 (bs []) 0]) t21
 else
 none
 else
 none
 else
 none
 else
 (manchester_Decode m c0 in_8).bind fun r0 =>
 ret r0 0
theorem L_manchester_Expect_l7_step (m n : Nat) (at_9 : Int) (t22 : Int) (t23 : Int) (c0 : Manchester) (in_8 : List Event) (t21 : List Run) : L_manchester_Expect_l7 m (n + 1) at_9 t22 t23 c0 in_8 t21 = b_manchester_Expect_l7 m (fun x0 x1 => some (w_manchester_Expect (x0, x1))) (fun at_9 t22 t23 c0 in_8 t21 => L_manchester_Expect_l7 m n at_9 t22 t23 c0 in_8 t21) at_9 t22 t23 c0 in_8 t21 := by kernel_rfl
theorem b_manchester_Expect_l7_map (m : Nat) {k_l7 : Int → Int → Int → Manchester → List Event → List Run → Option (List (RV C))} {q_l7 : Int → Int → Int → Manchester → List Event → List Run → Option (List Event × Int)} (h_l7 : ∀ at_9 t22 t23 c0 in_8 t21, k_l7 at_9 t22 t23 c0 in_8 t21 = (q_l7 at_9 t22 t23 c0 in_8 t21).map w_manchester_Expect) (at_9 : Int) (t22 : Int) (t23 : Int) (c0 : Manchester) (in_8 : List Event) (t21 : List Run) : b_manchester_Expect_l7 m (fun x0 x1 => some (w_manchester_Expect (x0, x1))) k_l7 at_9 t22 t23 c0 in_8 t21 = (b_manchester_Expect_l7 m (fun x0 x1 => some (x0, x1)) q_l7 at_9 t22 t23 c0 in_8 t21).map w_manchester_Expect := by
  simp only [b_manchester_Expect_l7, cond_map, bind_map, map_none, map_some, h_l7]
noncomputable def manchester_Expect_l7 (m : Nat) : Nat → Int → Int → Int → Manchester → List Event → List Run → Option (List Event × Int)
  | 0, _, _, _, _, _, _ => none
  | n + 1, at_9, t22, t23, c0, in_8, t21 => b_manchester_Expect_l7 m (fun x0 x1 => some (x0, x1)) (fun at_9 t22 t23 c0 in_8 t21 => manchester_Expect_l7 m n at_9 t22 t23 c0 in_8 t21) at_9 t22 t23 c0 in_8 t21
theorem L_manchester_Expect_l7_eq (m : Nat) : ∀ (n : Nat) (at_9 : Int) (t22 : Int) (t23 : Int) (c0 : Manchester) (in_8 : List Event) (t21 : List Run), L_manchester_Expect_l7 m n at_9 t22 t23 c0 in_8 t21 = (manchester_Expect_l7 m n at_9 t22 t23 c0 in_8 t21).map w_manchester_Expect
  | 0, at_9, t22, t23, c0, in_8, t21 => by kernel_rfl
  | n + 1, at_9, t22, t23, c0, in_8, t21 => by
    rw [L_manchester_Expect_l7_step]
    exact b_manchester_Expect_l7_map m (fun at_9 t22 t23 c0 in_8 t21 => L_manchester_Expect_l7_eq m n at_9 t22 t23 c0 in_8 t21) at_9 t22 t23 c0 in_8 t21
noncomputable def b_manchester_Expect {R : Type} (m : Nat) (ret : List Event → Int → Option R) (k_l7 : Int → Int → Int → Manchester → List Event → List Run → Option R) (c_0 : Manchester) (l_1 : List Item) : Option R :=
 (manchester_Encode m c_0 l_1).bind fun r0 =>
 bif r0.snd != 0 then
 ret [] r0.snd
 else
 k_l7 0 (r0.fst.length : Int) 0 c_0 [] r0.fst
theorem manchester_Expect_pre (m : Nat) (c_0 : Manchester) (l_1 : List Item) : funK Try.prog (Ψ_manchester_Expect m) keep m 1 15 [(dS of_Manchester cells_Manchester of_Manchester_ok).e c_0, (dRow 52).e l_1] = b_manchester_Expect m (fun x0 x1 => some (w_manchester_Expect (x0, x1))) (fun at_9 t22 t23 c0 in_8 t21 => L_manchester_Expect_l7 m m at_9 t22 t23 c0 in_8 t21) c_0 l_1 := by kernel_rfl
theorem b_manchester_Expect_map (m : Nat) {k_l7 : Int → Int → Int → Manchester → List Event → List Run → Option (List (RV C))} {q_l7 : Int → Int → Int → Manchester → List Event → List Run → Option (List Event × Int)} (h_l7 : ∀ at_9 t22 t23 c0 in_8 t21, k_l7 at_9 t22 t23 c0 in_8 t21 = (q_l7 at_9 t22 t23 c0 in_8 t21).map w_manchester_Expect) (c_0 : Manchester) (l_1 : List Item) : b_manchester_Expect m (fun x0 x1 => some (w_manchester_Expect (x0, x1))) k_l7 c_0 l_1 = (b_manchester_Expect m (fun x0 x1 => some (x0, x1)) q_l7 c_0 l_1).map w_manchester_Expect := by
  simp only [b_manchester_Expect, cond_map, bind_map, map_none, map_some, h_l7]
noncomputable def manchester_Expect (m : Nat) (c_0 : Manchester) (l_1 : List Item) : Option (List Event × Int) := b_manchester_Expect m (fun x0 x1 => some (x0, x1)) (fun at_9 t22 t23 c0 in_8 t21 => manchester_Expect_l7 m m at_9 t22 t23 c0 in_8 t21) c_0 l_1
theorem manchester_Expect_fun (m : Nat) (c_0 : Manchester) (l_1 : List Item) : funK Try.prog (Ψ_manchester_Expect m) keep m 1 15 [(dS of_Manchester cells_Manchester of_Manchester_ok).e c_0, (dRow 52).e l_1] = (manchester_Expect m c_0 l_1).map w_manchester_Expect := by
  rw [manchester_Expect_pre]
  exact b_manchester_Expect_map m (fun at_9 t22 t23 c0 in_8 t21 => L_manchester_Expect_l7_eq m m at_9 t22 t23 c0 in_8 t21) c_0 l_1
noncomputable def K_manchester_Expect (m : Nat) : KnownF C := mkK (dCons (dS of_Manchester cells_Manchester of_Manchester_ok) (dCons (dRow 52) dNil)) (fun a => manchester_Expect m a.1 a.2.1) w_manchester_Expect
theorem K_manchester_Expect_ok (m : Nat) : KnownAt C Try.prog 15 fun l => (K_manchester_Expect m).run _ l some :=
  mkK_known good fit (Ψ_manchester_Expect_ok m) (keep := keep) (m := m) (d := 1) fun a => manchester_Expect_fun m a.1 a.2.1
/-! ### signalbench/signalbenchref08.Same -/
def w_ref08_Same (b : Bool) : List (RV C) := [dBool.e b]
noncomputable def Q_ref08_Same_4 (m : Nat) : St C → (Exit → St C → Option (List (RV C))) → Option (List (RV C)) := fun σ k => codeK Try.prog Ψ0 (callK Try.prog Ψ0 keep m 0) (keep 24) m (subC body24 [.r, .r, .l, .r, .b, .o]) σ k
noncomputable def KL_ref08_Same_4 (m : Nat) : Exit → St C → Option (List (RV C)) := contK Try.prog Ψ0 (callK Try.prog Ψ0 keep m 0) (keep 24) m body24 [.r, .r, .l, .r, .b, .o] (leaveK Try.prog Try.f24.results.toList (finK Try.prog Try.f24.resultTypes.toList))
noncomputable def L_ref08_Same_l4 (m n : Nat) (i_5 : Int) (a_0 : List Run) (b_1 : List Run) : Option (List (RV C)) := iterK (Q_ref08_Same_4 m) (St.norm (keep 24 4)) n ({ T := [.fl (.one (.sl 0)), .fl (.one (.sl 1)), .dead, .dead, .dead, .fl (.one (.int .i64 i_5))] ++ List.replicate 20 .dead, F := [[]], H := [.row 59 false a_0, .row 59 false b_1] } : St C) (KL_ref08_Same_4 m)
noncomputable def b_ref08_Same_l4 {R : Type} (m : Nat) (ret : Bool → Option R) (k_l4 : Int → List Run → List Run → Option R) (i_5 : Int) (a_0 : List Run) (b_1 : List Run) : Option R :=
 bif decide (i_5 < (a_0.length : Int)) then
 bif decide (0 ≤ i_5) then
 bif decide (i_5 < (a_0.length : Int)) then
 bif decide (0 ≤ i_5) then
 bif decide (i_5 < (b_1.length : Int)) then
 bif !((a_0.getD i_5.toNat dflt_Run).Level == (b_1.getD i_5.toNat dflt_Run).Level && ((a_0.getD i_5.toNat dflt_Run).Ticks == (b_1.getD i_5.toNat dflt_Run).Ticks && true)) then
 ret false
 else
 k_l4 (IntKind.i64.wrap (i_5 + 1)) a_0 b_1
 else
 none
 else
 none
 else
 none
 else
 none
 else
 ret true
theorem L_ref08_Same_l4_step (m n : Nat) (i_5 : Int) (a_0 : List Run) (b_1 : List Run) : L_ref08_Same_l4 m (n + 1) i_5 a_0 b_1 = b_ref08_Same_l4 m (fun x0 => some (w_ref08_Same x0)) (fun i_5 a_0 b_1 => L_ref08_Same_l4 m n i_5 a_0 b_1) i_5 a_0 b_1 := by kernel_rfl
theorem b_ref08_Same_l4_map (m : Nat) {k_l4 : Int → List Run → List Run → Option (List (RV C))} {q_l4 : Int → List Run → List Run → Option (Bool)} (h_l4 : ∀ i_5 a_0 b_1, k_l4 i_5 a_0 b_1 = (q_l4 i_5 a_0 b_1).map w_ref08_Same) (i_5 : Int) (a_0 : List Run) (b_1 : List Run) : b_ref08_Same_l4 m (fun x0 => some (w_ref08_Same x0)) k_l4 i_5 a_0 b_1 = (b_ref08_Same_l4 m (fun x0 => some x0) q_l4 i_5 a_0 b_1).map w_ref08_Same := by
  simp only [b_ref08_Same_l4, cond_map, bind_map, map_none, map_some, h_l4]
noncomputable def ref08_Same_l4 (m : Nat) : Nat → Int → List Run → List Run → Option (Bool)
  | 0, _, _, _ => none
  | n + 1, i_5, a_0, b_1 => b_ref08_Same_l4 m (fun x0 => some x0) (fun i_5 a_0 b_1 => ref08_Same_l4 m n i_5 a_0 b_1) i_5 a_0 b_1
theorem L_ref08_Same_l4_eq (m : Nat) : ∀ (n : Nat) (i_5 : Int) (a_0 : List Run) (b_1 : List Run), L_ref08_Same_l4 m n i_5 a_0 b_1 = (ref08_Same_l4 m n i_5 a_0 b_1).map w_ref08_Same
  | 0, i_5, a_0, b_1 => by kernel_rfl
  | n + 1, i_5, a_0, b_1 => by
    rw [L_ref08_Same_l4_step]
    exact b_ref08_Same_l4_map m (fun i_5 a_0 b_1 => L_ref08_Same_l4_eq m n i_5 a_0 b_1) i_5 a_0 b_1
noncomputable def b_ref08_Same {R : Type} (m : Nat) (ret : Bool → Option R) (k_l4 : Int → List Run → List Run → Option R) (a_0 : List Run) (b_1 : List Run) : Option R :=
 bif (a_0.length : Int) != (b_1.length : Int) then
 ret false
 else
 k_l4 0 a_0 b_1
theorem ref08_Same_pre (m : Nat) (a_0 : List Run) (b_1 : List Run) : funK Try.prog Ψ0 keep m 1 24 [(dRow 59).e a_0, (dRow 59).e b_1] = b_ref08_Same m (fun x0 => some (w_ref08_Same x0)) (fun i_5 a_0 b_1 => L_ref08_Same_l4 m m i_5 a_0 b_1) a_0 b_1 := by kernel_rfl
theorem b_ref08_Same_map (m : Nat) {k_l4 : Int → List Run → List Run → Option (List (RV C))} {q_l4 : Int → List Run → List Run → Option (Bool)} (h_l4 : ∀ i_5 a_0 b_1, k_l4 i_5 a_0 b_1 = (q_l4 i_5 a_0 b_1).map w_ref08_Same) (a_0 : List Run) (b_1 : List Run) : b_ref08_Same m (fun x0 => some (w_ref08_Same x0)) k_l4 a_0 b_1 = (b_ref08_Same m (fun x0 => some x0) q_l4 a_0 b_1).map w_ref08_Same := by
  simp only [b_ref08_Same, cond_map, bind_map, map_none, map_some, h_l4]
noncomputable def ref08_Same (m : Nat) (a_0 : List Run) (b_1 : List Run) : Option (Bool) := b_ref08_Same m (fun x0 => some x0) (fun i_5 a_0 b_1 => ref08_Same_l4 m m i_5 a_0 b_1) a_0 b_1
theorem ref08_Same_fun (m : Nat) (a_0 : List Run) (b_1 : List Run) : funK Try.prog Ψ0 keep m 1 24 [(dRow 59).e a_0, (dRow 59).e b_1] = (ref08_Same m a_0 b_1).map w_ref08_Same := by
  rw [ref08_Same_pre]
  exact b_ref08_Same_map m (fun i_5 a_0 b_1 => L_ref08_Same_l4_eq m m i_5 a_0 b_1) a_0 b_1
noncomputable def K_ref08_Same (m : Nat) : KnownF C := mkK (dCons (dRow 59) (dCons (dRow 59) dNil)) (fun a => ref08_Same m a.1 a.2.1) w_ref08_Same
theorem K_ref08_Same_ok (m : Nat) : KnownAt C Try.prog 24 fun l => (K_ref08_Same m).run _ l some :=
  mkK_known good fit Ψ0_ok (keep := keep) (m := m) (d := 1) fun a => ref08_Same_fun m a.1 a.2.1
/-! ### signalbench/signalbenchref17.Levels -/
def w_ref17_Levels (b : List Event) : List (RV C) := [(dRow 29).e b]
noncomputable def Q_ref17_Levels_4 (m : Nat) : St C → (Exit → St C → Option (List (RV C))) → Option (List (RV C)) := fun σ k => codeK Try.prog Ψ0 (callK Try.prog Ψ0 keep m 0) (keep 33) m (subC body33 [.r, .r, .r, .l, .r, .b, .o]) σ k
noncomputable def KL_ref17_Levels_4 (m : Nat) : Exit → St C → Option (List (RV C)) := contK Try.prog Ψ0 (callK Try.prog Ψ0 keep m 0) (keep 33) m body33 [.r, .r, .r, .l, .r, .b, .o] (leaveK Try.prog Try.f33.results.toList (finK Try.prog Try.f33.resultTypes.toList))
noncomputable def L_ref17_Levels_l4 (m n : Nat) (begin_4 : Int) (i_5 : Int) (l_0 : List Run) (out_3 : List Event) : Option (List (RV C)) := iterK (Q_ref17_Levels_4 m) (St.norm (keep 33 4)) n ({ T := [.fl (.one (.sl 0)), .dead, .dead, .fl (.one (.sl 1)), .fl (.one (.int .i64 begin_4)), .fl (.one (.int .i64 i_5))] ++ List.replicate 34 .dead, F := [[]], H := [.row 59 false l_0, .row 29 true out_3] } : St C) (KL_ref17_Levels_4 m)
noncomputable def b_ref17_Levels_l4 {R : Type} (m : Nat) (ret : List Event → Option R) (k_l4 : Int → Int → List Run → List Event → Option R) (begin_4 : Int) (i_5 : Int) (l_0 : List Run) (out_3 : List Event) : Option R :=
 bif decide (i_5 < (l_0.length : Int)) then
 bif decide (0 ≤ i_5) then
 bif decide (i_5 < (l_0.length : Int)) then
 bif decide (0 ≤ i_5) then
 bif decide (i_5 < (l_0.length : Int)) then
 bif decide ((out_3.length + 1) * 64 ≤ 140737488355328) then
 bif decide (0 ≤ i_5) then
 bif decide (i_5 < (l_0.length : Int)) then
 k_l4 (IntKind.i64.wrap (begin_4 + (l_0.getD i_5.toNat dflt_Run).Ticks)) (IntKind.i64.wrap (i_5 + 1)) l_0 (out_3 ++ [Event.mk 1 begin_4 (IntKind.i64.wrap (begin_4 + (l_0.getD i_5.toNat dflt_Run).Ticks)) (l_0.getD i_5.toNat dflt_Run).Level 0 (bs []) 0])
 else
 none
 else
 none
 else
 none
 else
 none
 else
 none
 else
 none
 else
 none
 else
 ret out_3
theorem L_ref17_Levels_l4_step (m n : Nat) (begin_4 : Int) (i_5 : Int) (l_0 : List Run) (out_3 : List Event) : L_ref17_Levels_l4 m (n + 1) begin_4 i_5 l_0 out_3 = b_ref17_Levels_l4 m (fun x0 => some (w_ref17_Levels x0)) (fun begin_4 i_5 l_0 out_3 => L_ref17_Levels_l4 m n begin_4 i_5 l_0 out_3) begin_4 i_5 l_0 out_3 := by kernel_rfl
theorem b_ref17_Levels_l4_map (m : Nat) {k_l4 : Int → Int → List Run → List Event → Option (List (RV C))} {q_l4 : Int → Int → List Run → List Event → Option (List Event)} (h_l4 : ∀ begin_4 i_5 l_0 out_3, k_l4 begin_4 i_5 l_0 out_3 = (q_l4 begin_4 i_5 l_0 out_3).map w_ref17_Levels) (begin_4 : Int) (i_5 : Int) (l_0 : List Run) (out_3 : List Event) : b_ref17_Levels_l4 m (fun x0 => some (w_ref17_Levels x0)) k_l4 begin_4 i_5 l_0 out_3 = (b_ref17_Levels_l4 m (fun x0 => some x0) q_l4 begin_4 i_5 l_0 out_3).map w_ref17_Levels := by
  simp only [b_ref17_Levels_l4, cond_map, bind_map, map_none, map_some, h_l4]
noncomputable def ref17_Levels_l4 (m : Nat) : Nat → Int → Int → List Run → List Event → Option (List Event)
  | 0, _, _, _, _ => none
  | n + 1, begin_4, i_5, l_0, out_3 => b_ref17_Levels_l4 m (fun x0 => some x0) (fun begin_4 i_5 l_0 out_3 => ref17_Levels_l4 m n begin_4 i_5 l_0 out_3) begin_4 i_5 l_0 out_3
theorem L_ref17_Levels_l4_eq (m : Nat) : ∀ (n : Nat) (begin_4 : Int) (i_5 : Int) (l_0 : List Run) (out_3 : List Event), L_ref17_Levels_l4 m n begin_4 i_5 l_0 out_3 = (ref17_Levels_l4 m n begin_4 i_5 l_0 out_3).map w_ref17_Levels
  | 0, begin_4, i_5, l_0, out_3 => by kernel_rfl
  | n + 1, begin_4, i_5, l_0, out_3 => by
    rw [L_ref17_Levels_l4_step]
    exact b_ref17_Levels_l4_map m (fun begin_4 i_5 l_0 out_3 => L_ref17_Levels_l4_eq m n begin_4 i_5 l_0 out_3) begin_4 i_5 l_0 out_3
noncomputable def b_ref17_Levels {R : Type} (m : Nat) (ret : List Event → Option R) (k_l4 : Int → Int → List Run → List Event → Option R) (l_0 : List Run) : Option R :=
 bif decide ((l_0.length : Int) * 64 ≤ 140737488355328) then
 k_l4 0 0 l_0 (List.replicate 0 (Event.mk 0 0 0 0 0 (bs []) 0))
 else
 none
theorem ref17_Levels_pre (m : Nat) (l_0 : List Run) : funK Try.prog Ψ0 keep m 1 33 [(dRow 59).e l_0] = b_ref17_Levels m (fun x0 => some (w_ref17_Levels x0)) (fun begin_4 i_5 l_0 out_3 => L_ref17_Levels_l4 m m begin_4 i_5 l_0 out_3) l_0 := by kernel_rfl
theorem b_ref17_Levels_map (m : Nat) {k_l4 : Int → Int → List Run → List Event → Option (List (RV C))} {q_l4 : Int → Int → List Run → List Event → Option (List Event)} (h_l4 : ∀ begin_4 i_5 l_0 out_3, k_l4 begin_4 i_5 l_0 out_3 = (q_l4 begin_4 i_5 l_0 out_3).map w_ref17_Levels) (l_0 : List Run) : b_ref17_Levels m (fun x0 => some (w_ref17_Levels x0)) k_l4 l_0 = (b_ref17_Levels m (fun x0 => some x0) q_l4 l_0).map w_ref17_Levels := by
  simp only [b_ref17_Levels, cond_map, bind_map, map_none, map_some, h_l4]
noncomputable def ref17_Levels (m : Nat) (l_0 : List Run) : Option (List Event) := b_ref17_Levels m (fun x0 => some x0) (fun begin_4 i_5 l_0 out_3 => ref17_Levels_l4 m m begin_4 i_5 l_0 out_3) l_0
theorem ref17_Levels_fun (m : Nat) (l_0 : List Run) : funK Try.prog Ψ0 keep m 1 33 [(dRow 59).e l_0] = (ref17_Levels m l_0).map w_ref17_Levels := by
  rw [ref17_Levels_pre]
  exact b_ref17_Levels_map m (fun begin_4 i_5 l_0 out_3 => L_ref17_Levels_l4_eq m m begin_4 i_5 l_0 out_3) l_0
noncomputable def K_ref17_Levels (m : Nat) : KnownF C := mkK (dCons (dRow 59) dNil) (fun a => ref17_Levels m a.1) w_ref17_Levels
theorem K_ref17_Levels_ok (m : Nat) : KnownAt C Try.prog 33 fun l => (K_ref17_Levels m).run _ l some :=
  mkK_known good fit Ψ0_ok (keep := keep) (m := m) (d := 1) fun a => ref17_Levels_fun m a.1
/-! ### signalbench/signalbenchlaw17.bit -/
def w_law17_bit (b : Event) : List (RV C) := [(dS of_Event cells_Event of_Event_ok).e b]
noncomputable def b_law17_bit {R : Type} (m : Nat) (ret : Event → Option R) (from_0 : Int) (to_1 : Int) (value_2 : Int) (fault_3 : Int) : Option R :=
 ret (Event.mk 2 from_0 to_1 value_2 0 (bs []) fault_3)
theorem law17_bit_pre (m : Nat) (from_0 : Int) (to_1 : Int) (value_2 : Int) (fault_3 : Int) : funK Try.prog Ψ0 keep m 1 34 [(dInt .i64).e from_0, (dInt .i64).e to_1, (dInt .i64).e value_2, (dInt .i64).e fault_3] = b_law17_bit m (fun x0 => some (w_law17_bit x0)) from_0 to_1 value_2 fault_3 := by kernel_rfl
theorem b_law17_bit_map (m : Nat) (from_0 : Int) (to_1 : Int) (value_2 : Int) (fault_3 : Int) : b_law17_bit m (fun x0 => some (w_law17_bit x0)) from_0 to_1 value_2 fault_3 = (b_law17_bit m (fun x0 => some x0) from_0 to_1 value_2 fault_3).map w_law17_bit := by
  simp only [b_law17_bit, cond_map, bind_map, map_none, map_some]
noncomputable def law17_bit (m : Nat) (from_0 : Int) (to_1 : Int) (value_2 : Int) (fault_3 : Int) : Option (Event) := b_law17_bit m (fun x0 => some x0) from_0 to_1 value_2 fault_3
theorem law17_bit_fun (m : Nat) (from_0 : Int) (to_1 : Int) (value_2 : Int) (fault_3 : Int) : funK Try.prog Ψ0 keep m 1 34 [(dInt .i64).e from_0, (dInt .i64).e to_1, (dInt .i64).e value_2, (dInt .i64).e fault_3] = (law17_bit m from_0 to_1 value_2 fault_3).map w_law17_bit := by
  rw [law17_bit_pre]
  exact b_law17_bit_map m from_0 to_1 value_2 fault_3
noncomputable def K_law17_bit (m : Nat) : KnownF C := mkK (dCons (dInt .i64) (dCons (dInt .i64) (dCons (dInt .i64) (dCons (dInt .i64) dNil)))) (fun a => law17_bit m a.1 a.2.1 a.2.2.1 a.2.2.2.1) w_law17_bit
theorem K_law17_bit_ok (m : Nat) : KnownAt C Try.prog 34 fun l => (K_law17_bit m).run _ l some :=
  mkK_known good fit Ψ0_ok (keep := keep) (m := m) (d := 1) fun a => law17_bit_fun m a.1 a.2.1 a.2.2.1 a.2.2.2.1
/-! ### signalbench/signalbenchref07.Same -/
def w_ref07_Same (b : Bool) : List (RV C) := [dBool.e b]
noncomputable def Q_ref07_Same_4 (m : Nat) : St C → (Exit → St C → Option (List (RV C))) → Option (List (RV C)) := fun σ k => codeK Try.prog Ψ0 (callK Try.prog Ψ0 keep m 0) (keep 21) m (subC body21 [.r, .r, .l, .r, .b, .o]) σ k
noncomputable def KL_ref07_Same_4 (m : Nat) : Exit → St C → Option (List (RV C)) := contK Try.prog Ψ0 (callK Try.prog Ψ0 keep m 0) (keep 21) m body21 [.r, .r, .l, .r, .b, .o] (leaveK Try.prog Try.f21.results.toList (finK Try.prog Try.f21.resultTypes.toList))
noncomputable def L_ref07_Same_l4 (m n : Nat) (i_5 : Int) (a_0 : List Event) (b_1 : List Event) : Option (List (RV C)) := iterK (Q_ref07_Same_4 m) (St.norm (keep 21 4)) n ({ T := [.fl (.one (.sl 0)), .fl (.one (.sl 1)), .dead, .dead, .dead, .fl (.one (.int .i64 i_5))] ++ List.replicate 20 .dead, F := [[]], H := [.row 29 false a_0, .row 29 false b_1] } : St C) (KL_ref07_Same_4 m)
noncomputable def b_ref07_Same_l4 {R : Type} (m : Nat) (ret : Bool → Option R) (k_l4 : Int → List Event → List Event → Option R) (i_5 : Int) (a_0 : List Event) (b_1 : List Event) : Option R :=
 bif decide (i_5 < (a_0.length : Int)) then
 bif decide (0 ≤ i_5) then
 bif decide (i_5 < (a_0.length : Int)) then
 bif decide (0 ≤ i_5) then
 bif decide (i_5 < (b_1.length : Int)) then
 bif !((a_0.getD i_5.toNat dflt_Event).Kind == (b_1.getD i_5.toNat dflt_Event).Kind && ((a_0.getD i_5.toNat dflt_Event).From == (b_1.getD i_5.toNat dflt_Event).From && ((a_0.getD i_5.toNat dflt_Event).To == (b_1.getD i_5.toNat dflt_Event).To && ((a_0.getD i_5.toNat dflt_Event).Value == (b_1.getD i_5.toNat dflt_Event).Value && ((a_0.getD i_5.toNat dflt_Event).Aux == (b_1.getD i_5.toNat dflt_Event).Aux && ((a_0.getD i_5.toNat dflt_Event).Data == (b_1.getD i_5.toNat dflt_Event).Data && ((a_0.getD i_5.toNat dflt_Event).Fault == (b_1.getD i_5.toNat dflt_Event).Fault && true))))))) then
 ret false
 else
 k_l4 (IntKind.i64.wrap (i_5 + 1)) a_0 b_1
 else
 none
 else
 none
 else
 none
 else
 none
 else
 ret true
theorem L_ref07_Same_l4_step (m n : Nat) (i_5 : Int) (a_0 : List Event) (b_1 : List Event) : L_ref07_Same_l4 m (n + 1) i_5 a_0 b_1 = b_ref07_Same_l4 m (fun x0 => some (w_ref07_Same x0)) (fun i_5 a_0 b_1 => L_ref07_Same_l4 m n i_5 a_0 b_1) i_5 a_0 b_1 := by kernel_rfl
theorem b_ref07_Same_l4_map (m : Nat) {k_l4 : Int → List Event → List Event → Option (List (RV C))} {q_l4 : Int → List Event → List Event → Option (Bool)} (h_l4 : ∀ i_5 a_0 b_1, k_l4 i_5 a_0 b_1 = (q_l4 i_5 a_0 b_1).map w_ref07_Same) (i_5 : Int) (a_0 : List Event) (b_1 : List Event) : b_ref07_Same_l4 m (fun x0 => some (w_ref07_Same x0)) k_l4 i_5 a_0 b_1 = (b_ref07_Same_l4 m (fun x0 => some x0) q_l4 i_5 a_0 b_1).map w_ref07_Same := by
  simp only [b_ref07_Same_l4, cond_map, bind_map, map_none, map_some, h_l4]
noncomputable def ref07_Same_l4 (m : Nat) : Nat → Int → List Event → List Event → Option (Bool)
  | 0, _, _, _ => none
  | n + 1, i_5, a_0, b_1 => b_ref07_Same_l4 m (fun x0 => some x0) (fun i_5 a_0 b_1 => ref07_Same_l4 m n i_5 a_0 b_1) i_5 a_0 b_1
theorem L_ref07_Same_l4_eq (m : Nat) : ∀ (n : Nat) (i_5 : Int) (a_0 : List Event) (b_1 : List Event), L_ref07_Same_l4 m n i_5 a_0 b_1 = (ref07_Same_l4 m n i_5 a_0 b_1).map w_ref07_Same
  | 0, i_5, a_0, b_1 => by kernel_rfl
  | n + 1, i_5, a_0, b_1 => by
    rw [L_ref07_Same_l4_step]
    exact b_ref07_Same_l4_map m (fun i_5 a_0 b_1 => L_ref07_Same_l4_eq m n i_5 a_0 b_1) i_5 a_0 b_1
noncomputable def b_ref07_Same {R : Type} (m : Nat) (ret : Bool → Option R) (k_l4 : Int → List Event → List Event → Option R) (a_0 : List Event) (b_1 : List Event) : Option R :=
 bif (a_0.length : Int) != (b_1.length : Int) then
 ret false
 else
 k_l4 0 a_0 b_1
theorem ref07_Same_pre (m : Nat) (a_0 : List Event) (b_1 : List Event) : funK Try.prog Ψ0 keep m 1 21 [(dRow 29).e a_0, (dRow 29).e b_1] = b_ref07_Same m (fun x0 => some (w_ref07_Same x0)) (fun i_5 a_0 b_1 => L_ref07_Same_l4 m m i_5 a_0 b_1) a_0 b_1 := by kernel_rfl
theorem b_ref07_Same_map (m : Nat) {k_l4 : Int → List Event → List Event → Option (List (RV C))} {q_l4 : Int → List Event → List Event → Option (Bool)} (h_l4 : ∀ i_5 a_0 b_1, k_l4 i_5 a_0 b_1 = (q_l4 i_5 a_0 b_1).map w_ref07_Same) (a_0 : List Event) (b_1 : List Event) : b_ref07_Same m (fun x0 => some (w_ref07_Same x0)) k_l4 a_0 b_1 = (b_ref07_Same m (fun x0 => some x0) q_l4 a_0 b_1).map w_ref07_Same := by
  simp only [b_ref07_Same, cond_map, bind_map, map_none, map_some, h_l4]
noncomputable def ref07_Same (m : Nat) (a_0 : List Event) (b_1 : List Event) : Option (Bool) := b_ref07_Same m (fun x0 => some x0) (fun i_5 a_0 b_1 => ref07_Same_l4 m m i_5 a_0 b_1) a_0 b_1
theorem ref07_Same_fun (m : Nat) (a_0 : List Event) (b_1 : List Event) : funK Try.prog Ψ0 keep m 1 21 [(dRow 29).e a_0, (dRow 29).e b_1] = (ref07_Same m a_0 b_1).map w_ref07_Same := by
  rw [ref07_Same_pre]
  exact b_ref07_Same_map m (fun i_5 a_0 b_1 => L_ref07_Same_l4_eq m m i_5 a_0 b_1) a_0 b_1
noncomputable def K_ref07_Same (m : Nat) : KnownF C := mkK (dCons (dRow 29) (dCons (dRow 29) dNil)) (fun a => ref07_Same m a.1 a.2.1) w_ref07_Same
theorem K_ref07_Same_ok (m : Nat) : KnownAt C Try.prog 21 fun l => (K_ref07_Same m).run _ l some :=
  mkK_known good fit Ψ0_ok (keep := keep) (m := m) (d := 1) fun a => ref07_Same_fun m a.1 a.2.1
/-! ### signalbench/signalbenchlaw17.awake -/
noncomputable def Ψ_law17_awake (m : Nat) : Known C := fun f => match f with
  | 32 => some (K_law17_Example m)
  | 14 => some (K_manchester_Encode m)
  | 15 => some (K_manchester_Expect m)
  | 24 => some (K_ref08_Same m)
  | 33 => some (K_ref17_Levels m)
  | 18 => some (K_manchester_Decode m)
  | 34 => some (K_law17_bit m)
  | 21 => some (K_ref07_Same m)
  | _ => none
theorem Ψ_law17_awake_ok (m : Nat) : KnownOk C Try.prog (Ψ_law17_awake m) := by
  intro f φ h
  unfold Ψ_law17_awake at h
  split at h
  · injection h with h; subst h; exact K_law17_Example_ok m
  · injection h with h; subst h; exact K_manchester_Encode_ok m
  · injection h with h; subst h; exact K_manchester_Expect_ok m
  · injection h with h; subst h; exact K_ref08_Same_ok m
  · injection h with h; subst h; exact K_ref17_Levels_ok m
  · injection h with h; subst h; exact K_manchester_Decode_ok m
  · injection h with h; subst h; exact K_law17_bit_ok m
  · injection h with h; subst h; exact K_ref07_Same_ok m
  · cases h
def w_law17_awake (b : Bool) : List (RV C) := [dBool.e b]
noncomputable def b_law17_awake {R : Type} (m : Nat) (ret : Bool → Option R) : Option R :=
 (manchester_Encode m (Manchester.mk 8 1 true) [Item.mk 0 0 0 (bs [49, 48]) 0]).bind fun r0 =>
 (manchester_Expect m (Manchester.mk 8 1 true) [Item.mk 0 0 1 (bs [49, 48]) 5]).bind fun r1 =>
 bif r0.snd == 0 then
 ((ref08_Same m r0.fst [Run.mk 0 20, Run.mk 1 4, Run.mk 0 4, Run.mk 1 8, Run.mk 0 20]).bind fun r2 =>
 bif r2 then
 ((ref17_Levels m [Run.mk 0 20, Run.mk 1 4, Run.mk 0 4, Run.mk 1 8, Run.mk 0 20]).bind fun r3 =>
 (manchester_Decode m (Manchester.mk 8 1 true) r3).bind fun r4 =>
 (ref07_Same m r4 [Event.mk 2 24 28 1 0 (bs []) 0, Event.mk 2 32 36 0 0 (bs []) 0]).bind fun r5 =>
 bif r5 then
 (bif r1.snd == 0 then
 ((ref07_Same m r1.fst [Event.mk 2 24 28 1 0 (bs []) 0, Event.mk 2 32 40 0 0 (bs []) 5]).bind fun r6 =>
 ret r6)
 else
 ret false)
 else
 ret false)
 else
 ret false)
 else
 ret false
theorem law17_awake_pre (m : Nat) : funK Try.prog (Ψ_law17_awake m) keep m 1 12 [] = b_law17_awake m (fun x0 => some (w_law17_awake x0)) := by kernel_rfl
theorem b_law17_awake_map (m : Nat) : b_law17_awake m (fun x0 => some (w_law17_awake x0)) = (b_law17_awake m (fun x0 => some x0)).map w_law17_awake := by
  simp only [b_law17_awake, cond_map, bind_map, map_none, map_some]
noncomputable def law17_awake (m : Nat) : Option (Bool) := b_law17_awake m (fun x0 => some x0)
theorem law17_awake_fun (m : Nat) : funK Try.prog (Ψ_law17_awake m) keep m 1 12 [] = (law17_awake m).map w_law17_awake := by
  rw [law17_awake_pre]
  exact b_law17_awake_map m
noncomputable def K_law17_awake (m : Nat) : KnownF C := mkK dNil (fun a => law17_awake m) w_law17_awake
theorem K_law17_awake_ok (m : Nat) : KnownAt C Try.prog 12 fun l => (K_law17_awake m).run _ l some :=
  mkK_known good fit (Ψ_law17_awake_ok m) (keep := keep) (m := m) (d := 1) fun a => law17_awake_fun m
/-! ### signalbench/signalbenchlaw17.ManchesterChecks -/
noncomputable def Ψ_law17_ManchesterChecks (m : Nat) : Known C := fun f => match f with
  | 10 => some (K_manchester_Check m)
  | 11 => some (K_ref17_Check m)
  | 12 => some (K_law17_awake m)
  | 13 => some (K_manchester_Step m)
  | 14 => some (K_manchester_Encode m)
  | 15 => some (K_manchester_Expect m)
  | 16 => some (K_manchester_Start m)
  | 17 => some (K_manchester_End m)
  | 18 => some (K_manchester_Decode m)
  | _ => none
theorem Ψ_law17_ManchesterChecks_ok (m : Nat) : KnownOk C Try.prog (Ψ_law17_ManchesterChecks m) := by
  intro f φ h
  unfold Ψ_law17_ManchesterChecks at h
  split at h
  · injection h with h; subst h; exact K_manchester_Check_ok m
  · injection h with h; subst h; exact K_ref17_Check_ok m
  · injection h with h; subst h; exact K_law17_awake_ok m
  · injection h with h; subst h; exact K_manchester_Step_ok m
  · injection h with h; subst h; exact K_manchester_Encode_ok m
  · injection h with h; subst h; exact K_manchester_Expect_ok m
  · injection h with h; subst h; exact K_manchester_Start_ok m
  · injection h with h; subst h; exact K_manchester_End_ok m
  · injection h with h; subst h; exact K_manchester_Decode_ok m
  · cases h
def w_law17_ManchesterChecks (b : Bool) : List (RV C) := [dBool.e b]
noncomputable def b_law17_ManchesterChecks {R : Type} (m : Nat) (ret : Bool → Option R) (c_0 : Manchester) (s_1 : State) (x_2 : Event) : Option R :=
 (manchester_Check m c_0).bind fun r0 =>
 (ref17_Check m c_0).bind fun r1 =>
 bif r0 != r1 then
 ret false
 else
 bif r0 == 0 then
 ((law17_awake m).bind fun r2 =>
 ret r2)
 else
 (manchester_Step m c_0 s_1 x_2).bind fun r3 =>
 (manchester_Encode m c_0 []).bind fun r4 =>
 (manchester_Expect m c_0 []).bind fun r5 =>
 bif r3.fst.Phase == s_1.Phase && (r3.fst.At == s_1.At && (r3.fst.From == s_1.From && (r3.fst.Count == s_1.Count && (r3.fst.Acc == s_1.Acc && (r3.fst.Aux == s_1.Aux && (r3.fst.Prev == s_1.Prev && (r3.fst.Data == s_1.Data && true))))))) then
 (bif (r3.snd.length : Int) == 0 then
 ((manchester_Decode m c_0 [x_2]).bind fun r6 =>
 bif (r6.length : Int) == 0 then
 (bif (r4.fst.length : Int) == 0 then
 (bif r4.snd == r0 then
 (bif (r5.fst.length : Int) == 0 then
 (bif r5.snd == r0 then
 ((law17_awake m).bind fun r7 =>
 ret r7)
 else
 ret false)
 else
 ret false)
 else
 ret false)
 else
 ret false)
 else
 ret false)
 else
 ret false)
 else
 ret false
theorem law17_ManchesterChecks_pre (m : Nat) (c_0 : Manchester) (s_1 : State) (x_2 : Event) : funK Try.prog (Ψ_law17_ManchesterChecks m) keep m 1 3 [(dS of_Manchester cells_Manchester of_Manchester_ok).e c_0, (dS of_State cells_State of_State_ok).e s_1, (dS of_Event cells_Event of_Event_ok).e x_2] = b_law17_ManchesterChecks m (fun x0 => some (w_law17_ManchesterChecks x0)) c_0 s_1 x_2 := by kernel_rfl
theorem b_law17_ManchesterChecks_map (m : Nat) (c_0 : Manchester) (s_1 : State) (x_2 : Event) : b_law17_ManchesterChecks m (fun x0 => some (w_law17_ManchesterChecks x0)) c_0 s_1 x_2 = (b_law17_ManchesterChecks m (fun x0 => some x0) c_0 s_1 x_2).map w_law17_ManchesterChecks := by
  simp only [b_law17_ManchesterChecks, cond_map, bind_map, map_none, map_some]
noncomputable def law17_ManchesterChecks (m : Nat) (c_0 : Manchester) (s_1 : State) (x_2 : Event) : Option (Bool) := b_law17_ManchesterChecks m (fun x0 => some x0) c_0 s_1 x_2
theorem law17_ManchesterChecks_fun (m : Nat) (c_0 : Manchester) (s_1 : State) (x_2 : Event) : funK Try.prog (Ψ_law17_ManchesterChecks m) keep m 1 3 [(dS of_Manchester cells_Manchester of_Manchester_ok).e c_0, (dS of_State cells_State of_State_ok).e s_1, (dS of_Event cells_Event of_Event_ok).e x_2] = (law17_ManchesterChecks m c_0 s_1 x_2).map w_law17_ManchesterChecks := by
  rw [law17_ManchesterChecks_pre]
  exact b_law17_ManchesterChecks_map m c_0 s_1 x_2
noncomputable def K_law17_ManchesterChecks (m : Nat) : KnownF C := mkK (dCons (dS of_Manchester cells_Manchester of_Manchester_ok) (dCons (dS of_State cells_State of_State_ok) (dCons (dS of_Event cells_Event of_Event_ok) dNil))) (fun a => law17_ManchesterChecks m a.1 a.2.1 a.2.2.1) w_law17_ManchesterChecks
theorem K_law17_ManchesterChecks_ok (m : Nat) : KnownAt C Try.prog 3 fun l => (K_law17_ManchesterChecks m).run _ l some :=
  mkK_known good fit (Ψ_law17_ManchesterChecks_ok m) (keep := keep) (m := m) (d := 1) fun a => law17_ManchesterChecks_fun m a.1 a.2.1 a.2.2.1
/-! ### signalbench/signalbenchref17.Start -/
def w_ref17_Start (b : State) : List (RV C) := [(dS of_State cells_State of_State_ok).e b]
noncomputable def b_ref17_Start {R : Type} (m : Nat) (ret : State → Option R) (c_0 : Manchester) : Option R :=
 ret (State.mk 0 0 0 0 0 0 0 (bs []))
theorem ref17_Start_pre (m : Nat) (c_0 : Manchester) : funK Try.prog Ψ0 keep m 1 19 [(dS of_Manchester cells_Manchester of_Manchester_ok).e c_0] = b_ref17_Start m (fun x0 => some (w_ref17_Start x0)) c_0 := by kernel_rfl
theorem b_ref17_Start_map (m : Nat) (c_0 : Manchester) : b_ref17_Start m (fun x0 => some (w_ref17_Start x0)) c_0 = (b_ref17_Start m (fun x0 => some x0) c_0).map w_ref17_Start := by
  simp only [b_ref17_Start, cond_map, bind_map, map_none, map_some]
noncomputable def ref17_Start (m : Nat) (c_0 : Manchester) : Option (State) := b_ref17_Start m (fun x0 => some x0) c_0
theorem ref17_Start_fun (m : Nat) (c_0 : Manchester) : funK Try.prog Ψ0 keep m 1 19 [(dS of_Manchester cells_Manchester of_Manchester_ok).e c_0] = (ref17_Start m c_0).map w_ref17_Start := by
  rw [ref17_Start_pre]
  exact b_ref17_Start_map m c_0
noncomputable def K_ref17_Start (m : Nat) : KnownF C := mkK (dCons (dS of_Manchester cells_Manchester of_Manchester_ok) dNil) (fun a => ref17_Start m a.1) w_ref17_Start
theorem K_ref17_Start_ok (m : Nat) : KnownAt C Try.prog 19 fun l => (K_ref17_Start m).run _ l some :=
  mkK_known good fit Ψ0_ok (keep := keep) (m := m) (d := 1) fun a => ref17_Start_fun m a.1
/-! ### signalbench/signalbenchref07.Valid -/
def w_ref07_Valid (b : Bool) : List (RV C) := [dBool.e b]
noncomputable def b_ref07_Valid {R : Type} (m : Nat) (ret : Bool → Option R) (e_0 : Event) : Option R :=
 bif decide (e_0.Kind < 1) then
 ret false
 else
 bif decide (e_0.Kind > 8) then
 ret false
 else
 bif decide (e_0.From < 0) then
 ret false
 else
 bif decide (e_0.From > e_0.To) then
 ret false
 else
 bif decide (e_0.To > 1099511627776) then
 ret false
 else
 bif decide ((e_0.Data.size : Int) > 4096) then
 ret false
 else
 bif decide (e_0.Fault < 0) then
 ret false
 else
 bif decide (e_0.Fault > 12) then
 ret false
 else
 bif decide (e_0.Value ≥ -9007199254740992) then
 bif decide (e_0.Value ≤ 9007199254740992) then
 bif decide (e_0.Aux ≥ -9007199254740992) then
 ret (decide (e_0.Aux ≤ 9007199254740992))
 else
 ret false
 else
 ret false
 else
 ret false
theorem ref07_Valid_pre (m : Nat) (e_0 : Event) : funK Try.prog Ψ0 keep m 1 48 [(dS of_Event cells_Event of_Event_ok).e e_0] = b_ref07_Valid m (fun x0 => some (w_ref07_Valid x0)) e_0 := by kernel_rfl
theorem b_ref07_Valid_map (m : Nat) (e_0 : Event) : b_ref07_Valid m (fun x0 => some (w_ref07_Valid x0)) e_0 = (b_ref07_Valid m (fun x0 => some x0) e_0).map w_ref07_Valid := by
  simp only [b_ref07_Valid, cond_map, bind_map, map_none, map_some]
noncomputable def ref07_Valid (m : Nat) (e_0 : Event) : Option (Bool) := b_ref07_Valid m (fun x0 => some x0) e_0
theorem ref07_Valid_fun (m : Nat) (e_0 : Event) : funK Try.prog Ψ0 keep m 1 48 [(dS of_Event cells_Event of_Event_ok).e e_0] = (ref07_Valid m e_0).map w_ref07_Valid := by
  rw [ref07_Valid_pre]
  exact b_ref07_Valid_map m e_0
noncomputable def K_ref07_Valid (m : Nat) : KnownF C := mkK (dCons (dS of_Event cells_Event of_Event_ok) dNil) (fun a => ref07_Valid m a.1) w_ref07_Valid
theorem K_ref07_Valid_ok (m : Nat) : KnownAt C Try.prog 48 fun l => (K_ref07_Valid m).run _ l some :=
  mkK_known good fit Ψ0_ok (keep := keep) (m := m) (d := 1) fun a => ref07_Valid_fun m a.1
/-! ### signalbench/signalbenchref17.accepts -/
noncomputable def Ψ_ref17_accepts (m : Nat) : Known C := fun f => match f with
  | 48 => some (K_ref07_Valid m)
  | _ => none
theorem Ψ_ref17_accepts_ok (m : Nat) : KnownOk C Try.prog (Ψ_ref17_accepts m) := by
  intro f φ h
  unfold Ψ_ref17_accepts at h
  split at h
  · injection h with h; subst h; exact K_ref07_Valid_ok m
  · cases h
def w_ref17_accepts (b : Bool) : List (RV C) := [dBool.e b]
noncomputable def b_ref17_accepts {R : Type} (m : Nat) (ret : Bool → Option R) (s_0 : State) (e_1 : Event) : Option R :=
 (ref07_Valid m e_1).bind fun r0 =>
 bif !r0 then
 ret false
 else
 bif e_1.Kind != 1 then
 ret false
 else
 bif e_1.Fault != 0 then
 ret false
 else
 bif decide (e_1.From ≥ e_1.To) then
 ret false
 else
 bif decide (e_1.Value < 0) then
 ret false
 else
 bif decide (e_1.Value > 1) then
 ret false
 else
 bif s_0.Phase == 0 then
 ret true
 else
 ret (e_1.From == s_0.At)
theorem ref17_accepts_pre (m : Nat) (s_0 : State) (e_1 : Event) : funK Try.prog (Ψ_ref17_accepts m) keep m 1 42 [(dS of_State cells_State of_State_ok).e s_0, (dS of_Event cells_Event of_Event_ok).e e_1] = b_ref17_accepts m (fun x0 => some (w_ref17_accepts x0)) s_0 e_1 := by kernel_rfl
theorem b_ref17_accepts_map (m : Nat) (s_0 : State) (e_1 : Event) : b_ref17_accepts m (fun x0 => some (w_ref17_accepts x0)) s_0 e_1 = (b_ref17_accepts m (fun x0 => some x0) s_0 e_1).map w_ref17_accepts := by
  simp only [b_ref17_accepts, cond_map, bind_map, map_none, map_some]
noncomputable def ref17_accepts (m : Nat) (s_0 : State) (e_1 : Event) : Option (Bool) := b_ref17_accepts m (fun x0 => some x0) s_0 e_1
theorem ref17_accepts_fun (m : Nat) (s_0 : State) (e_1 : Event) : funK Try.prog (Ψ_ref17_accepts m) keep m 1 42 [(dS of_State cells_State of_State_ok).e s_0, (dS of_Event cells_Event of_Event_ok).e e_1] = (ref17_accepts m s_0 e_1).map w_ref17_accepts := by
  rw [ref17_accepts_pre]
  exact b_ref17_accepts_map m s_0 e_1
noncomputable def K_ref17_accepts (m : Nat) : KnownF C := mkK (dCons (dS of_State cells_State of_State_ok) (dCons (dS of_Event cells_Event of_Event_ok) dNil)) (fun a => ref17_accepts m a.1 a.2.1) w_ref17_accepts
theorem K_ref17_accepts_ok (m : Nat) : KnownAt C Try.prog 42 fun l => (K_ref17_accepts m).run _ l some :=
  mkK_known good fit (Ψ_ref17_accepts_ok m) (keep := keep) (m := m) (d := 1) fun a => ref17_accepts_fun m a.1 a.2.1
/-! ### signalbench/signalbenchref17.times -/
def w_ref17_times (b : Int) : List (RV C) := [(dInt .i64).e b]
noncomputable def b_ref17_times {R : Type} (m : Nat) (ret : Int → Option R) (c_0 : Manchester) (n_1 : Int) : Option R :=
 bif decide (IntKind.i64.wrap (2 * c_0.T_Den) = 0) then
 none
 else
 ret (IntKind.i64.wrap ((IntKind.i64.wrap (n_1 * c_0.T_Num)).tdiv (IntKind.i64.wrap (2 * c_0.T_Den))))
theorem ref17_times_pre (m : Nat) (c_0 : Manchester) (n_1 : Int) : funK Try.prog Ψ0 keep m 1 46 [(dS of_Manchester cells_Manchester of_Manchester_ok).e c_0, (dInt .i64).e n_1] = b_ref17_times m (fun x0 => some (w_ref17_times x0)) c_0 n_1 := by kernel_rfl
theorem b_ref17_times_map (m : Nat) (c_0 : Manchester) (n_1 : Int) : b_ref17_times m (fun x0 => some (w_ref17_times x0)) c_0 n_1 = (b_ref17_times m (fun x0 => some x0) c_0 n_1).map w_ref17_times := by
  simp only [b_ref17_times, cond_map, bind_map, map_none, map_some]
noncomputable def ref17_times (m : Nat) (c_0 : Manchester) (n_1 : Int) : Option (Int) := b_ref17_times m (fun x0 => some x0) c_0 n_1
theorem ref17_times_fun (m : Nat) (c_0 : Manchester) (n_1 : Int) : funK Try.prog Ψ0 keep m 1 46 [(dS of_Manchester cells_Manchester of_Manchester_ok).e c_0, (dInt .i64).e n_1] = (ref17_times m c_0 n_1).map w_ref17_times := by
  rw [ref17_times_pre]
  exact b_ref17_times_map m c_0 n_1
noncomputable def K_ref17_times (m : Nat) : KnownF C := mkK (dCons (dS of_Manchester cells_Manchester of_Manchester_ok) (dCons (dInt .i64) dNil)) (fun a => ref17_times m a.1 a.2.1) w_ref17_times
theorem K_ref17_times_ok (m : Nat) : KnownAt C Try.prog 46 fun l => (K_ref17_times m).run _ l some :=
  mkK_known good fit Ψ0_ok (keep := keep) (m := m) (d := 1) fun a => ref17_times_fun m a.1 a.2.1
/-! ### signalbench/signalbenchref17.edge -/
noncomputable def Ψ_ref17_edge (m : Nat) : Known C := fun f => match f with
  | 46 => some (K_ref17_times m)
  | _ => none
theorem Ψ_ref17_edge_ok (m : Nat) : KnownOk C Try.prog (Ψ_ref17_edge m) := by
  intro f φ h
  unfold Ψ_ref17_edge at h
  split at h
  · injection h with h; subst h; exact K_ref17_times_ok m
  · cases h
def w_ref17_edge (b : State × List Event) : List (RV C) := [(dS of_State cells_State of_State_ok).e b.1, (dRow 29).e b.2]
noncomputable def b_ref17_edge {R : Type} (m : Nat) (ret : State → List Event → Option R) (c_0 : Manchester) (s_1 : State) (t_2 : Int) (signal_3 : Int) : Option R :=
 bif s_1.Count == 0 then
 bif signal_3 == 1 then
 ret { s_1 with From := t_2, Count := 1, Prev := signal_3 } []
 else
 ret { s_1 with Count := 0, Prev := signal_3 } []
 else
 bif decide (IntKind.i64.wrap (t_2 - s_1.From) ≥ 4194304) then
 bif signal_3 == 1 then
 ret { s_1 with From := t_2, Count := 1, Prev := signal_3 } []
 else
 ret { s_1 with Count := 0, Prev := signal_3 } []
 else
 bif decide (IntKind.i64.wrap (IntKind.i64.wrap (t_2 - s_1.From) * c_0.T_Den) ≥ IntKind.i64.wrap (2 * c_0.T_Num)) then
 bif signal_3 == 1 then
 ret { s_1 with From := t_2, Count := 1, Prev := signal_3 } []
 else
 ret { s_1 with Count := 0, Prev := signal_3 } []
 else
 bif decide (IntKind.i64.wrap (IntKind.i64.wrap (4 * IntKind.i64.wrap (t_2 - s_1.From)) * c_0.T_Den) < IntKind.i64.wrap (3 * c_0.T_Num)) then
 ret { s_1 with Prev := signal_3 } []
 else
 (ref17_times m c_0 1).bind fun r0 =>
 bif decide (IntKind.i64.wrap (IntKind.i64.wrap (4 * IntKind.i64.wrap (t_2 - s_1.From)) * c_0.T_Den) > IntKind.i64.wrap (5 * c_0.T_Num)) then
 ret { s_1 with From := t_2, Prev := signal_3 } ([Event.mk 2 (IntKind.i64.wrap (s_1.From + r0)) t_2 0 0 (bs []) 5])
 else
 ret { s_1 with From := t_2, Prev := signal_3 } ([Event.mk 2 (IntKind.i64.wrap (s_1.From + r0)) t_2 signal_3 0 (bs []) 0])
theorem ref17_edge_pre (m : Nat) (c_0 : Manchester) (s_1 : State) (t_2 : Int) (signal_3 : Int) : funK Try.prog (Ψ_ref17_edge m) keep m 1 43 [(dS of_Manchester cells_Manchester of_Manchester_ok).e c_0, (dS of_State cells_State of_State_ok).e s_1, (dInt .i64).e t_2, (dInt .i64).e signal_3] = b_ref17_edge m (fun x0 x1 => some (w_ref17_edge (x0, x1))) c_0 s_1 t_2 signal_3 := by kernel_rfl
theorem b_ref17_edge_map (m : Nat) (c_0 : Manchester) (s_1 : State) (t_2 : Int) (signal_3 : Int) : b_ref17_edge m (fun x0 x1 => some (w_ref17_edge (x0, x1))) c_0 s_1 t_2 signal_3 = (b_ref17_edge m (fun x0 x1 => some (x0, x1)) c_0 s_1 t_2 signal_3).map w_ref17_edge := by
  simp only [b_ref17_edge, cond_map, bind_map, map_none, map_some]
noncomputable def ref17_edge (m : Nat) (c_0 : Manchester) (s_1 : State) (t_2 : Int) (signal_3 : Int) : Option (State × List Event) := b_ref17_edge m (fun x0 x1 => some (x0, x1)) c_0 s_1 t_2 signal_3
theorem ref17_edge_fun (m : Nat) (c_0 : Manchester) (s_1 : State) (t_2 : Int) (signal_3 : Int) : funK Try.prog (Ψ_ref17_edge m) keep m 1 43 [(dS of_Manchester cells_Manchester of_Manchester_ok).e c_0, (dS of_State cells_State of_State_ok).e s_1, (dInt .i64).e t_2, (dInt .i64).e signal_3] = (ref17_edge m c_0 s_1 t_2 signal_3).map w_ref17_edge := by
  rw [ref17_edge_pre]
  exact b_ref17_edge_map m c_0 s_1 t_2 signal_3
noncomputable def K_ref17_edge (m : Nat) : KnownF C := mkK (dCons (dS of_Manchester cells_Manchester of_Manchester_ok) (dCons (dS of_State cells_State of_State_ok) (dCons (dInt .i64) (dCons (dInt .i64) dNil)))) (fun a => ref17_edge m a.1 a.2.1 a.2.2.1 a.2.2.2.1) w_ref17_edge
theorem K_ref17_edge_ok (m : Nat) : KnownAt C Try.prog 43 fun l => (K_ref17_edge m).run _ l some :=
  mkK_known good fit (Ψ_ref17_edge_ok m) (keep := keep) (m := m) (d := 1) fun a => ref17_edge_fun m a.1 a.2.1 a.2.2.1 a.2.2.2.1
/-! ### signalbench/signalbenchref17.Step -/
noncomputable def Ψ_ref17_Step (m : Nat) : Known C := fun f => match f with
  | 11 => some (K_ref17_Check m)
  | 42 => some (K_ref17_accepts m)
  | 43 => some (K_ref17_edge m)
  | _ => none
theorem Ψ_ref17_Step_ok (m : Nat) : KnownOk C Try.prog (Ψ_ref17_Step m) := by
  intro f φ h
  unfold Ψ_ref17_Step at h
  split at h
  · injection h with h; subst h; exact K_ref17_Check_ok m
  · injection h with h; subst h; exact K_ref17_accepts_ok m
  · injection h with h; subst h; exact K_ref17_edge_ok m
  · cases h
def w_ref17_Step (b : State × List Event) : List (RV C) := [(dS of_State cells_State of_State_ok).e b.1, (dRow 29).e b.2]
noncomputable def b_ref17_Step {R : Type} (m : Nat) (ret : State → List Event → Option R) (c_0 : Manchester) (s_1 : State) (e_2 : Event) : Option R :=
 (ref17_Check m c_0).bind fun r0 =>
 bif r0 != 0 then
 ret s_1 []
 else
 (ref17_accepts m s_1 e_2).bind fun r1 =>
 bif !r1 then
 ret s_1 []
 else
 bif !c_0.Ieee then
 (bif IntKind.i64.wrap (1 - e_2.Value) == s_1.Prev then
 ret { s_1 with Phase := 1, At := e_2.To } []
 else
 (ref17_edge m c_0 (State.mk 1 e_2.To s_1.From s_1.Count s_1.Acc s_1.Aux s_1.Prev s_1.Data) e_2.From (IntKind.i64.wrap (1 - e_2.Value))).bind fun r2 =>
 ret r2.fst r2.snd)
 else
 bif e_2.Value == s_1.Prev then
 ret { s_1 with Phase := 1, At := e_2.To } []
 else
 (ref17_edge m c_0 (State.mk 1 e_2.To s_1.From s_1.Count s_1.Acc s_1.Aux s_1.Prev s_1.Data) e_2.From e_2.Value).bind fun r3 =>
 ret r3.fst r3.snd
theorem ref17_Step_pre (m : Nat) (c_0 : Manchester) (s_1 : State) (e_2 : Event) : funK Try.prog (Ψ_ref17_Step m) keep m 1 20 [(dS of_Manchester cells_Manchester of_Manchester_ok).e c_0, (dS of_State cells_State of_State_ok).e s_1, (dS of_Event cells_Event of_Event_ok).e e_2] = b_ref17_Step m (fun x0 x1 => some (w_ref17_Step (x0, x1))) c_0 s_1 e_2 := by kernel_rfl
theorem b_ref17_Step_map (m : Nat) (c_0 : Manchester) (s_1 : State) (e_2 : Event) : b_ref17_Step m (fun x0 x1 => some (w_ref17_Step (x0, x1))) c_0 s_1 e_2 = (b_ref17_Step m (fun x0 x1 => some (x0, x1)) c_0 s_1 e_2).map w_ref17_Step := by
  simp only [b_ref17_Step, cond_map, bind_map, map_none, map_some]
noncomputable def ref17_Step (m : Nat) (c_0 : Manchester) (s_1 : State) (e_2 : Event) : Option (State × List Event) := b_ref17_Step m (fun x0 x1 => some (x0, x1)) c_0 s_1 e_2
theorem ref17_Step_fun (m : Nat) (c_0 : Manchester) (s_1 : State) (e_2 : Event) : funK Try.prog (Ψ_ref17_Step m) keep m 1 20 [(dS of_Manchester cells_Manchester of_Manchester_ok).e c_0, (dS of_State cells_State of_State_ok).e s_1, (dS of_Event cells_Event of_Event_ok).e e_2] = (ref17_Step m c_0 s_1 e_2).map w_ref17_Step := by
  rw [ref17_Step_pre]
  exact b_ref17_Step_map m c_0 s_1 e_2
noncomputable def K_ref17_Step (m : Nat) : KnownF C := mkK (dCons (dS of_Manchester cells_Manchester of_Manchester_ok) (dCons (dS of_State cells_State of_State_ok) (dCons (dS of_Event cells_Event of_Event_ok) dNil))) (fun a => ref17_Step m a.1 a.2.1 a.2.2.1) w_ref17_Step
theorem K_ref17_Step_ok (m : Nat) : KnownAt C Try.prog 20 fun l => (K_ref17_Step m).run _ l some :=
  mkK_known good fit (Ψ_ref17_Step_ok m) (keep := keep) (m := m) (d := 1) fun a => ref17_Step_fun m a.1 a.2.1 a.2.2.1
/-! ### signalbench/signalbenchref17.Decode -/
noncomputable def Ψ_ref17_Decode (m : Nat) : Known C := fun f => match f with
  | 19 => some (K_ref17_Start m)
  | 20 => some (K_ref17_Step m)
  | _ => none
theorem Ψ_ref17_Decode_ok (m : Nat) : KnownOk C Try.prog (Ψ_ref17_Decode m) := by
  intro f φ h
  unfold Ψ_ref17_Decode at h
  split at h
  · injection h with h; subst h; exact K_ref17_Start_ok m
  · injection h with h; subst h; exact K_ref17_Step_ok m
  · cases h
def w_ref17_Decode (b : List Event) : List (RV C) := [(dRow 29).e b]
noncomputable def Q_ref17_Decode_4 (m : Nat) : St C → (Exit → St C → Option (List (RV C))) → Option (List (RV C)) := fun σ k => codeK Try.prog (Ψ_ref17_Decode m) (callK Try.prog (Ψ_ref17_Decode m) keep m 0) (keep 22) m (subC body22 [.r, .r, .r, .l, .r, .b, .o]) σ k
noncomputable def KL_ref17_Decode_4 (m : Nat) : Exit → St C → Option (List (RV C)) := contK Try.prog (Ψ_ref17_Decode m) (callK Try.prog (Ψ_ref17_Decode m) keep m 0) (keep 22) m body22 [.r, .r, .r, .l, .r, .b, .o] (leaveK Try.prog Try.f22.results.toList (finK Try.prog Try.f22.resultTypes.toList))
noncomputable def L_ref17_Decode_l4 (m n : Nat) (i_7 : Int) (l_1 : List Event) (c1 : Manchester) (out_5 : List Event) (c3 : State) : Option (List (RV C)) := iterK (Q_ref17_Decode_4 m) (St.norm (keep 22 4)) n ({ T := [.dead, .fl (.one (.sl 0)), .fl (.one (.ptr 1 0)), .dead, .dead, .fl (.one (.sl 2)), .fl (.one (.ptr 3 0)), .fl (.one (.int .i64 i_7))] ++ List.replicate 26 .dead, F := [[]], H := [.row 29 false l_1, .box 25 (cells_Manchester c1), .row 29 true out_5, .box 27 (cells_State c3)] } : St C) (KL_ref17_Decode_4 m)
noncomputable def b_ref17_Decode_l4 {R : Type} (m : Nat) (ret : List Event → Option R) (k_l4 : Int → List Event → Manchester → List Event → State → Option R) (i_7 : Int) (l_1 : List Event) (c1 : Manchester) (out_5 : List Event) (c3 : State) : Option R :=
 bif decide (i_7 < (l_1.length : Int)) then
 (bif decide (0 ≤ i_7) then
 (bif decide (i_7 < (l_1.length : Int)) then
 ((ref17_Step m c1 c3 (l_1.getD i_7.toNat dflt_Event)).bind fun r0 =>
 bif decide ((out_5.length + r0.snd.length) * 64 ≤ 140737488355328) then
 k_l4 (IntKind.i64.wrap (i_7 + 1)) l_1 c1 (out_5 ++ r0.snd) r0.fst
 else
 none)
 else
 none)
 else
 none)
 else
 ret out_5
theorem L_ref17_Decode_l4_step (m n : Nat) (i_7 : Int) (l_1 : List Event) (c1 : Manchester) (out_5 : List Event) (c3 : State) : L_ref17_Decode_l4 m (n + 1) i_7 l_1 c1 out_5 c3 = b_ref17_Decode_l4 m (fun x0 => some (w_ref17_Decode x0)) (fun i_7 l_1 c1 out_5 c3 => L_ref17_Decode_l4 m n i_7 l_1 c1 out_5 c3) i_7 l_1 c1 out_5 c3 := by kernel_rfl
theorem b_ref17_Decode_l4_map (m : Nat) {k_l4 : Int → List Event → Manchester → List Event → State → Option (List (RV C))} {q_l4 : Int → List Event → Manchester → List Event → State → Option (List Event)} (h_l4 : ∀ i_7 l_1 c1 out_5 c3, k_l4 i_7 l_1 c1 out_5 c3 = (q_l4 i_7 l_1 c1 out_5 c3).map w_ref17_Decode) (i_7 : Int) (l_1 : List Event) (c1 : Manchester) (out_5 : List Event) (c3 : State) : b_ref17_Decode_l4 m (fun x0 => some (w_ref17_Decode x0)) k_l4 i_7 l_1 c1 out_5 c3 = (b_ref17_Decode_l4 m (fun x0 => some x0) q_l4 i_7 l_1 c1 out_5 c3).map w_ref17_Decode := by
  simp only [b_ref17_Decode_l4, cond_map, bind_map, map_none, map_some, h_l4]
noncomputable def ref17_Decode_l4 (m : Nat) : Nat → Int → List Event → Manchester → List Event → State → Option (List Event)
  | 0, _, _, _, _, _ => none
  | n + 1, i_7, l_1, c1, out_5, c3 => b_ref17_Decode_l4 m (fun x0 => some x0) (fun i_7 l_1 c1 out_5 c3 => ref17_Decode_l4 m n i_7 l_1 c1 out_5 c3) i_7 l_1 c1 out_5 c3
theorem L_ref17_Decode_l4_eq (m : Nat) : ∀ (n : Nat) (i_7 : Int) (l_1 : List Event) (c1 : Manchester) (out_5 : List Event) (c3 : State), L_ref17_Decode_l4 m n i_7 l_1 c1 out_5 c3 = (ref17_Decode_l4 m n i_7 l_1 c1 out_5 c3).map w_ref17_Decode
  | 0, i_7, l_1, c1, out_5, c3 => by kernel_rfl
  | n + 1, i_7, l_1, c1, out_5, c3 => by
    rw [L_ref17_Decode_l4_step]
    exact b_ref17_Decode_l4_map m (fun i_7 l_1 c1 out_5 c3 => L_ref17_Decode_l4_eq m n i_7 l_1 c1 out_5 c3) i_7 l_1 c1 out_5 c3
noncomputable def b_ref17_Decode {R : Type} (m : Nat) (ret : List Event → Option R) (k_l4 : Int → List Event → Manchester → List Event → State → Option R) (c_0 : Manchester) (l_1 : List Event) : Option R :=
 k_l4 0 l_1 c_0 [] (State.mk 0 0 0 0 0 0 0 (bs []))
theorem ref17_Decode_pre (m : Nat) (c_0 : Manchester) (l_1 : List Event) : funK Try.prog (Ψ_ref17_Decode m) keep m 1 22 [(dS of_Manchester cells_Manchester of_Manchester_ok).e c_0, (dRow 29).e l_1] = b_ref17_Decode m (fun x0 => some (w_ref17_Decode x0)) (fun i_7 l_1 c1 out_5 c3 => L_ref17_Decode_l4 m m i_7 l_1 c1 out_5 c3) c_0 l_1 := by kernel_rfl
theorem b_ref17_Decode_map (m : Nat) {k_l4 : Int → List Event → Manchester → List Event → State → Option (List (RV C))} {q_l4 : Int → List Event → Manchester → List Event → State → Option (List Event)} (h_l4 : ∀ i_7 l_1 c1 out_5 c3, k_l4 i_7 l_1 c1 out_5 c3 = (q_l4 i_7 l_1 c1 out_5 c3).map w_ref17_Decode) (c_0 : Manchester) (l_1 : List Event) : b_ref17_Decode m (fun x0 => some (w_ref17_Decode x0)) k_l4 c_0 l_1 = (b_ref17_Decode m (fun x0 => some x0) q_l4 c_0 l_1).map w_ref17_Decode := by
  simp only [b_ref17_Decode, cond_map, bind_map, map_none, map_some, h_l4]
noncomputable def ref17_Decode (m : Nat) (c_0 : Manchester) (l_1 : List Event) : Option (List Event) := b_ref17_Decode m (fun x0 => some x0) (fun i_7 l_1 c1 out_5 c3 => ref17_Decode_l4 m m i_7 l_1 c1 out_5 c3) c_0 l_1
theorem ref17_Decode_fun (m : Nat) (c_0 : Manchester) (l_1 : List Event) : funK Try.prog (Ψ_ref17_Decode m) keep m 1 22 [(dS of_Manchester cells_Manchester of_Manchester_ok).e c_0, (dRow 29).e l_1] = (ref17_Decode m c_0 l_1).map w_ref17_Decode := by
  rw [ref17_Decode_pre]
  exact b_ref17_Decode_map m (fun i_7 l_1 c1 out_5 c3 => L_ref17_Decode_l4_eq m m i_7 l_1 c1 out_5 c3) c_0 l_1
noncomputable def K_ref17_Decode (m : Nat) : KnownF C := mkK (dCons (dS of_Manchester cells_Manchester of_Manchester_ok) (dCons (dRow 29) dNil)) (fun a => ref17_Decode m a.1 a.2.1) w_ref17_Decode
theorem K_ref17_Decode_ok (m : Nat) : KnownAt C Try.prog 22 fun l => (K_ref17_Decode m).run _ l some :=
  mkK_known good fit (Ψ_ref17_Decode_ok m) (keep := keep) (m := m) (d := 1) fun a => ref17_Decode_fun m a.1 a.2.1
/-! ### signalbench/signalbenchlaw17.ManchesterDecodes -/
noncomputable def Ψ_law17_ManchesterDecodes (m : Nat) : Known C := fun f => match f with
  | 12 => some (K_law17_awake m)
  | 16 => some (K_manchester_Start m)
  | 19 => some (K_ref17_Start m)
  | 13 => some (K_manchester_Step m)
  | 20 => some (K_ref17_Step m)
  | 21 => some (K_ref07_Same m)
  | 17 => some (K_manchester_End m)
  | 18 => some (K_manchester_Decode m)
  | 22 => some (K_ref17_Decode m)
  | _ => none
theorem Ψ_law17_ManchesterDecodes_ok (m : Nat) : KnownOk C Try.prog (Ψ_law17_ManchesterDecodes m) := by
  intro f φ h
  unfold Ψ_law17_ManchesterDecodes at h
  split at h
  · injection h with h; subst h; exact K_law17_awake_ok m
  · injection h with h; subst h; exact K_manchester_Start_ok m
  · injection h with h; subst h; exact K_ref17_Start_ok m
  · injection h with h; subst h; exact K_manchester_Step_ok m
  · injection h with h; subst h; exact K_ref17_Step_ok m
  · injection h with h; subst h; exact K_ref07_Same_ok m
  · injection h with h; subst h; exact K_manchester_End_ok m
  · injection h with h; subst h; exact K_manchester_Decode_ok m
  · injection h with h; subst h; exact K_ref17_Decode_ok m
  · cases h
def w_law17_ManchesterDecodes (b : Bool) : List (RV C) := [dBool.e b]
noncomputable def Q_law17_ManchesterDecodes_6 (m : Nat) : St C → (Exit → St C → Option (List (RV C))) → Option (List (RV C)) := fun σ k => codeK Try.prog (Ψ_law17_ManchesterDecodes m) (callK Try.prog (Ψ_law17_ManchesterDecodes m) keep m 0) (keep 4) m (subC body4 [.r, .r, .r, .r, .l, .r, .b, .o]) σ k
noncomputable def KL_law17_ManchesterDecodes_6 (m : Nat) : Exit → St C → Option (List (RV C)) := contK Try.prog (Ψ_law17_ManchesterDecodes m) (callK Try.prog (Ψ_law17_ManchesterDecodes m) keep m 0) (keep 4) m body4 [.r, .r, .r, .r, .l, .r, .b, .o] (leaveK Try.prog Try.f4.results.toList (finK Try.prog Try.f4.resultTypes.toList))
noncomputable def L_law17_ManchesterDecodes_l6 (m n : Nat) (i_7 : Int) (l_1 : List Event) (c1 : Manchester) (c2 : State) (c3 : State) : Option (List (RV C)) := iterK (Q_law17_ManchesterDecodes_6 m) (St.norm (keep 4 6)) n ({ T := [.dead, .fl (.one (.sl 0)), .fl (.one (.ptr 1 0)), .dead, .dead, .fl (.one (.ptr 2 0)), .fl (.one (.ptr 3 0)), .fl (.one (.int .i64 i_7))] ++ List.replicate 61 .dead, F := [[]], H := [.row 29 false l_1, .box 25 (cells_Manchester c1), .box 27 (cells_State c2), .box 27 (cells_State c3)] } : St C) (KL_law17_ManchesterDecodes_6 m)
noncomputable def b_law17_ManchesterDecodes_l6 {R : Type} (m : Nat) (ret : Bool → Option R) (k_l6 : Int → List Event → Manchester → State → State → Option R) (i_7 : Int) (l_1 : List Event) (c1 : Manchester) (c2 : State) (c3 : State) : Option R :=
 bif decide (i_7 < (l_1.length : Int)) then
 (bif decide (0 ≤ i_7) then
 (bif decide (i_7 < (l_1.length : Int)) then
 ((manchester_Step m c1 c2 (l_1.getD i_7.toNat dflt_Event)).bind fun r0 =>
 bif decide (0 ≤ i_7) then
 (bif decide (i_7 < (l_1.length : Int)) then
 ((ref17_Step m c1 c3 (l_1.getD i_7.toNat dflt_Event)).bind fun r1 =>
 (ref07_Same m r0.snd r1.snd).bind fun r2 =>
 bif !r2 then
 ret false
 else
 k_l6 (IntKind.i64.wrap (i_7 + 1)) l_1 c1 r0.fst r1.fst)
 else
 none)
 else
 none)
 else
 none)
 else
 none)
 else
 (manchester_Decode m c1 l_1).bind fun r3 =>
 (ref17_Decode m c1 l_1).bind fun r4 =>
 (ref07_Same m r3 r4).bind fun r5 =>
 bif r5 then
 ((law17_awake m).bind fun r6 =>
 ret r6)
 else
 ret false
theorem L_law17_ManchesterDecodes_l6_step (m n : Nat) (i_7 : Int) (l_1 : List Event) (c1 : Manchester) (c2 : State) (c3 : State) : L_law17_ManchesterDecodes_l6 m (n + 1) i_7 l_1 c1 c2 c3 = b_law17_ManchesterDecodes_l6 m (fun x0 => some (w_law17_ManchesterDecodes x0)) (fun i_7 l_1 c1 c2 c3 => L_law17_ManchesterDecodes_l6 m n i_7 l_1 c1 c2 c3) i_7 l_1 c1 c2 c3 := by kernel_rfl
theorem b_law17_ManchesterDecodes_l6_map (m : Nat) {k_l6 : Int → List Event → Manchester → State → State → Option (List (RV C))} {q_l6 : Int → List Event → Manchester → State → State → Option (Bool)} (h_l6 : ∀ i_7 l_1 c1 c2 c3, k_l6 i_7 l_1 c1 c2 c3 = (q_l6 i_7 l_1 c1 c2 c3).map w_law17_ManchesterDecodes) (i_7 : Int) (l_1 : List Event) (c1 : Manchester) (c2 : State) (c3 : State) : b_law17_ManchesterDecodes_l6 m (fun x0 => some (w_law17_ManchesterDecodes x0)) k_l6 i_7 l_1 c1 c2 c3 = (b_law17_ManchesterDecodes_l6 m (fun x0 => some x0) q_l6 i_7 l_1 c1 c2 c3).map w_law17_ManchesterDecodes := by
  simp only [b_law17_ManchesterDecodes_l6, cond_map, bind_map, map_none, map_some, h_l6]
noncomputable def law17_ManchesterDecodes_l6 (m : Nat) : Nat → Int → List Event → Manchester → State → State → Option (Bool)
  | 0, _, _, _, _, _ => none
  | n + 1, i_7, l_1, c1, c2, c3 => b_law17_ManchesterDecodes_l6 m (fun x0 => some x0) (fun i_7 l_1 c1 c2 c3 => law17_ManchesterDecodes_l6 m n i_7 l_1 c1 c2 c3) i_7 l_1 c1 c2 c3
theorem L_law17_ManchesterDecodes_l6_eq (m : Nat) : ∀ (n : Nat) (i_7 : Int) (l_1 : List Event) (c1 : Manchester) (c2 : State) (c3 : State), L_law17_ManchesterDecodes_l6 m n i_7 l_1 c1 c2 c3 = (law17_ManchesterDecodes_l6 m n i_7 l_1 c1 c2 c3).map w_law17_ManchesterDecodes
  | 0, i_7, l_1, c1, c2, c3 => by kernel_rfl
  | n + 1, i_7, l_1, c1, c2, c3 => by
    rw [L_law17_ManchesterDecodes_l6_step]
    exact b_law17_ManchesterDecodes_l6_map m (fun i_7 l_1 c1 c2 c3 => L_law17_ManchesterDecodes_l6_eq m n i_7 l_1 c1 c2 c3) i_7 l_1 c1 c2 c3
noncomputable def b_law17_ManchesterDecodes {R : Type} (m : Nat) (ret : Bool → Option R) (k_l6 : Int → List Event → Manchester → State → State → Option R) (c_0 : Manchester) (l_1 : List Event) : Option R :=
 bif decide ((l_1.length : Int) > 2000) then
 ((law17_awake m).bind fun r0 =>
 ret r0)
 else
 k_l6 0 l_1 c_0 (State.mk 0 0 0 0 0 0 0 (bs [])) (State.mk 0 0 0 0 0 0 0 (bs []))
theorem law17_ManchesterDecodes_pre (m : Nat) (c_0 : Manchester) (l_1 : List Event) : funK Try.prog (Ψ_law17_ManchesterDecodes m) keep m 1 4 [(dS of_Manchester cells_Manchester of_Manchester_ok).e c_0, (dRow 29).e l_1] = b_law17_ManchesterDecodes m (fun x0 => some (w_law17_ManchesterDecodes x0)) (fun i_7 l_1 c1 c2 c3 => L_law17_ManchesterDecodes_l6 m m i_7 l_1 c1 c2 c3) c_0 l_1 := by kernel_rfl
theorem b_law17_ManchesterDecodes_map (m : Nat) {k_l6 : Int → List Event → Manchester → State → State → Option (List (RV C))} {q_l6 : Int → List Event → Manchester → State → State → Option (Bool)} (h_l6 : ∀ i_7 l_1 c1 c2 c3, k_l6 i_7 l_1 c1 c2 c3 = (q_l6 i_7 l_1 c1 c2 c3).map w_law17_ManchesterDecodes) (c_0 : Manchester) (l_1 : List Event) : b_law17_ManchesterDecodes m (fun x0 => some (w_law17_ManchesterDecodes x0)) k_l6 c_0 l_1 = (b_law17_ManchesterDecodes m (fun x0 => some x0) q_l6 c_0 l_1).map w_law17_ManchesterDecodes := by
  simp only [b_law17_ManchesterDecodes, cond_map, bind_map, map_none, map_some, h_l6]
noncomputable def law17_ManchesterDecodes (m : Nat) (c_0 : Manchester) (l_1 : List Event) : Option (Bool) := b_law17_ManchesterDecodes m (fun x0 => some x0) (fun i_7 l_1 c1 c2 c3 => law17_ManchesterDecodes_l6 m m i_7 l_1 c1 c2 c3) c_0 l_1
theorem law17_ManchesterDecodes_fun (m : Nat) (c_0 : Manchester) (l_1 : List Event) : funK Try.prog (Ψ_law17_ManchesterDecodes m) keep m 1 4 [(dS of_Manchester cells_Manchester of_Manchester_ok).e c_0, (dRow 29).e l_1] = (law17_ManchesterDecodes m c_0 l_1).map w_law17_ManchesterDecodes := by
  rw [law17_ManchesterDecodes_pre]
  exact b_law17_ManchesterDecodes_map m (fun i_7 l_1 c1 c2 c3 => L_law17_ManchesterDecodes_l6_eq m m i_7 l_1 c1 c2 c3) c_0 l_1
noncomputable def K_law17_ManchesterDecodes (m : Nat) : KnownF C := mkK (dCons (dS of_Manchester cells_Manchester of_Manchester_ok) (dCons (dRow 29) dNil)) (fun a => law17_ManchesterDecodes m a.1 a.2.1) w_law17_ManchesterDecodes
theorem K_law17_ManchesterDecodes_ok (m : Nat) : KnownAt C Try.prog 4 fun l => (K_law17_ManchesterDecodes m).run _ l some :=
  mkK_known good fit (Ψ_law17_ManchesterDecodes_ok m) (keep := keep) (m := m) (d := 1) fun a => law17_ManchesterDecodes_fun m a.1 a.2.1
/-! ### signalbench/signalbenchref03.Valid -/
def w_ref03_Valid (b : Bool) : List (RV C) := [dBool.e b]
noncomputable def Q_ref03_Valid_4 (m : Nat) : St C → (Exit → St C → Option (List (RV C))) → Option (List (RV C)) := fun σ k => codeK Try.prog Ψ0 (callK Try.prog Ψ0 keep m 0) (keep 57) m (subC body57 [.r, .r, .l, .r, .b, .o]) σ k
noncomputable def KL_ref03_Valid_4 (m : Nat) : Exit → St C → Option (List (RV C)) := contK Try.prog Ψ0 (callK Try.prog Ψ0 keep m 0) (keep 57) m body57 [.r, .r, .l, .r, .b, .o] (leaveK Try.prog Try.f57.results.toList (finK Try.prog Try.f57.resultTypes.toList))
noncomputable def L_ref03_Valid_l4 (m n : Nat) (s_0 : ByteArray) (i_3 : Int) : Option (List (RV C)) := iterK (Q_ref03_Valid_4 m) (St.norm (keep 57 4)) n ({ T := [.fl (.one (.str s_0)), .dead, .dead, .fl (.one (.int .i64 i_3))] ++ List.replicate 19 .dead, F := [[]], H := [] } : St C) (KL_ref03_Valid_4 m)
noncomputable def b_ref03_Valid_l4 {R : Type} (m : Nat) (ret : Bool → Option R) (k_l4 : ByteArray → Int → Option R) (s_0 : ByteArray) (i_3 : Int) : Option R :=
 bif decide (i_3 < (s_0.size : Int)) then
 bif decide (0 ≤ i_3) then
 bif decide (i_3 < (s_0.size : Int)) then
 bif byteAt s_0 i_3 != 48 then
 bif decide (0 ≤ i_3) then
 bif decide (i_3 < (s_0.size : Int)) then
 bif byteAt s_0 i_3 != 49 then
 ret false
 else
 k_l4 s_0 (IntKind.i64.wrap (i_3 + 1))
 else
 none
 else
 none
 else
 k_l4 s_0 (IntKind.i64.wrap (i_3 + 1))
 else
 none
 else
 none
 else
 ret true
theorem L_ref03_Valid_l4_step (m n : Nat) (s_0 : ByteArray) (i_3 : Int) : L_ref03_Valid_l4 m (n + 1) s_0 i_3 = b_ref03_Valid_l4 m (fun x0 => some (w_ref03_Valid x0)) (fun s_0 i_3 => L_ref03_Valid_l4 m n s_0 i_3) s_0 i_3 := by kernel_rfl
theorem b_ref03_Valid_l4_map (m : Nat) {k_l4 : ByteArray → Int → Option (List (RV C))} {q_l4 : ByteArray → Int → Option (Bool)} (h_l4 : ∀ s_0 i_3, k_l4 s_0 i_3 = (q_l4 s_0 i_3).map w_ref03_Valid) (s_0 : ByteArray) (i_3 : Int) : b_ref03_Valid_l4 m (fun x0 => some (w_ref03_Valid x0)) k_l4 s_0 i_3 = (b_ref03_Valid_l4 m (fun x0 => some x0) q_l4 s_0 i_3).map w_ref03_Valid := by
  simp only [b_ref03_Valid_l4, cond_map, bind_map, map_none, map_some, h_l4]
noncomputable def ref03_Valid_l4 (m : Nat) : Nat → ByteArray → Int → Option (Bool)
  | 0, _, _ => none
  | n + 1, s_0, i_3 => b_ref03_Valid_l4 m (fun x0 => some x0) (fun s_0 i_3 => ref03_Valid_l4 m n s_0 i_3) s_0 i_3
theorem L_ref03_Valid_l4_eq (m : Nat) : ∀ (n : Nat) (s_0 : ByteArray) (i_3 : Int), L_ref03_Valid_l4 m n s_0 i_3 = (ref03_Valid_l4 m n s_0 i_3).map w_ref03_Valid
  | 0, s_0, i_3 => by kernel_rfl
  | n + 1, s_0, i_3 => by
    rw [L_ref03_Valid_l4_step]
    exact b_ref03_Valid_l4_map m (fun s_0 i_3 => L_ref03_Valid_l4_eq m n s_0 i_3) s_0 i_3
noncomputable def b_ref03_Valid {R : Type} (m : Nat) (ret : Bool → Option R) (k_l4 : ByteArray → Int → Option R) (s_0 : ByteArray) : Option R :=
 bif decide ((s_0.size : Int) > 65536) then
 ret false
 else
 k_l4 s_0 0
theorem ref03_Valid_pre (m : Nat) (s_0 : ByteArray) : funK Try.prog Ψ0 keep m 1 57 [dStr.e s_0] = b_ref03_Valid m (fun x0 => some (w_ref03_Valid x0)) (fun s_0 i_3 => L_ref03_Valid_l4 m m s_0 i_3) s_0 := by kernel_rfl
theorem b_ref03_Valid_map (m : Nat) {k_l4 : ByteArray → Int → Option (List (RV C))} {q_l4 : ByteArray → Int → Option (Bool)} (h_l4 : ∀ s_0 i_3, k_l4 s_0 i_3 = (q_l4 s_0 i_3).map w_ref03_Valid) (s_0 : ByteArray) : b_ref03_Valid m (fun x0 => some (w_ref03_Valid x0)) k_l4 s_0 = (b_ref03_Valid m (fun x0 => some x0) q_l4 s_0).map w_ref03_Valid := by
  simp only [b_ref03_Valid, cond_map, bind_map, map_none, map_some, h_l4]
noncomputable def ref03_Valid (m : Nat) (s_0 : ByteArray) : Option (Bool) := b_ref03_Valid m (fun x0 => some x0) (fun s_0 i_3 => ref03_Valid_l4 m m s_0 i_3) s_0
theorem ref03_Valid_fun (m : Nat) (s_0 : ByteArray) : funK Try.prog Ψ0 keep m 1 57 [dStr.e s_0] = (ref03_Valid m s_0).map w_ref03_Valid := by
  rw [ref03_Valid_pre]
  exact b_ref03_Valid_map m (fun s_0 i_3 => L_ref03_Valid_l4_eq m m s_0 i_3) s_0
noncomputable def K_ref03_Valid (m : Nat) : KnownF C := mkK (dCons dStr dNil) (fun a => ref03_Valid m a.1) w_ref03_Valid
theorem K_ref03_Valid_ok (m : Nat) : KnownAt C Try.prog 57 fun l => (K_ref03_Valid m).run _ l some :=
  mkK_known good fit Ψ0_ok (keep := keep) (m := m) (d := 1) fun a => ref03_Valid_fun m a.1
/-! ### signalbench/signalbenchref17.right -/
noncomputable def Ψ_ref17_right (m : Nat) : Known C := fun f => match f with
  | 57 => some (K_ref03_Valid m)
  | _ => none
theorem Ψ_ref17_right_ok (m : Nat) : KnownOk C Try.prog (Ψ_ref17_right m) := by
  intro f φ h
  unfold Ψ_ref17_right at h
  split at h
  · injection h with h; subst h; exact K_ref03_Valid_ok m
  · cases h
def w_ref17_right (b : Int) : List (RV C) := [(dInt .i64).e b]
noncomputable def b_ref17_right {R : Type} (m : Nat) (ret : Int → Option R) (x_0 : Item) : Option R :=
 bif decide (x_0.Gap < 0) then
 ret 1
 else
 bif decide (x_0.Gap > 1048576) then
 ret 1
 else
 bif decide ((x_0.Data.size : Int) > 4096) then
 ret 6
 else
 (ref03_Valid m x_0.Data).bind fun r0 =>
 bif !r0 then
 ret 4
 else
 bif x_0.Fault != 0 then
 bif x_0.Fault != 5 then
 ret 1
 else
 bif x_0.Fault == 5 then
 bif decide (x_0.Aux < 0) then
 ret 17
 else
 bif decide (x_0.Aux ≥ (x_0.Data.size : Int)) then
 ret 17
 else
 bif x_0.Value != 0 then
 ret 1
 else
 bif x_0.Fault == 0 then
 bif x_0.Aux != 0 then
 ret 1
 else
 ret 0
 else
 ret 0
 else
 bif x_0.Value != 0 then
 ret 1
 else
 bif x_0.Fault == 0 then
 bif x_0.Aux != 0 then
 ret 1
 else
 ret 0
 else
 ret 0
 else
 bif x_0.Fault == 5 then
 bif decide (x_0.Aux < 0) then
 ret 17
 else
 bif decide (x_0.Aux ≥ (x_0.Data.size : Int)) then
 ret 17
 else
 bif x_0.Value != 0 then
 ret 1
 else
 bif x_0.Fault == 0 then
 bif x_0.Aux != 0 then
 ret 1
 else
 ret 0
 else
 ret 0
 else
 bif x_0.Value != 0 then
 ret 1
 else
 bif x_0.Fault == 0 then
 bif x_0.Aux != 0 then
 ret 1
 else
 ret 0
 else
 ret 0
theorem ref17_right_pre (m : Nat) (x_0 : Item) : funK Try.prog (Ψ_ref17_right m) keep m 1 44 [(dS of_Item cells_Item of_Item_ok).e x_0] = b_ref17_right m (fun x0 => some (w_ref17_right x0)) x_0 := by kernel_rfl
theorem b_ref17_right_map (m : Nat) (x_0 : Item) : b_ref17_right m (fun x0 => some (w_ref17_right x0)) x_0 = (b_ref17_right m (fun x0 => some x0) x_0).map w_ref17_right := by
  simp only [b_ref17_right, cond_map, bind_map, map_none, map_some]
noncomputable def ref17_right (m : Nat) (x_0 : Item) : Option (Int) := b_ref17_right m (fun x0 => some x0) x_0
theorem ref17_right_fun (m : Nat) (x_0 : Item) : funK Try.prog (Ψ_ref17_right m) keep m 1 44 [(dS of_Item cells_Item of_Item_ok).e x_0] = (ref17_right m x_0).map w_ref17_right := by
  rw [ref17_right_pre]
  exact b_ref17_right_map m x_0
noncomputable def K_ref17_right (m : Nat) : KnownF C := mkK (dCons (dS of_Item cells_Item of_Item_ok) dNil) (fun a => ref17_right m a.1) w_ref17_right
theorem K_ref17_right_ok (m : Nat) : KnownAt C Try.prog 44 fun l => (K_ref17_right m).run _ l some :=
  mkK_known good fit (Ψ_ref17_right_ok m) (keep := keep) (m := m) (d := 1) fun a => ref17_right_fun m a.1
/-! ### signalbench/signalbenchref17.put -/
def w_ref17_put (b : List Run) : List (RV C) := [(dRow 59).e b]
noncomputable def b_ref17_put {R : Type} (m : Nat) (ret : List Run → Option R) (l_0 : List Run) (level_1 : Int) (ticks_2 : Int) : Option R :=
 bif decide (ticks_2 ≤ 0) then
 ret l_0
 else
 bif decide ((l_0.length : Int) > 0) then
 bif decide (0 ≤ IntKind.i64.wrap ((l_0.length : Int) - 1)) then
 bif decide (IntKind.i64.wrap ((l_0.length : Int) - 1) < (l_0.length : Int)) then
 bif (l_0.getD (IntKind.i64.wrap ((l_0.length : Int) - 1)).toNat dflt_Run).Level == level_1 then
 bif decide (0 ≤ IntKind.i64.wrap ((l_0.length : Int) - 1)) then
 bif decide (IntKind.i64.wrap ((l_0.length : Int) - 1) < (l_0.length : Int)) then
 bif decide (0 ≤ IntKind.i64.wrap ((l_0.length : Int) - 1)) then
 bif decide (IntKind.i64.wrap ((l_0.length : Int) - 1) < (l_0.length : Int)) then
 ret (l_0.set (IntKind.i64.wrap ((l_0.length : Int) - 1)).toNat (Run.mk (l_0.getD (IntKind.i64.wrap ((l_0.length : Int) - 1)).toNat dflt_Run).Level (IntKind.i64.wrap ((l_0.getD (IntKind.i64.wrap ((l_0.length : Int) - 1)).toNat dflt_Run).Ticks + ticks_2))))
 else
 none
 else
 none
 else
 none
 else
 none
 else
 bif decide ((l_0.length + 1) * 16 ≤ 140737488355328) then
 ret (l_0 ++ [Run.mk level_1 ticks_2])
 else
 none
 else
 none
 else
 none
 else
 bif decide ((l_0.length + 1) * 16 ≤ 140737488355328) then
 ret (l_0 ++ [Run.mk level_1 ticks_2])
 else
 none
theorem ref17_put_pre (m : Nat) (l_0 : List Run) (level_1 : Int) (ticks_2 : Int) : funE Try.prog Ψ0 keep m 1 45 [.row, .no, .no] [(dRow 59).e l_0, (dInt .i64).e level_1, (dInt .i64).e ticks_2] = b_ref17_put m (fun x0 => some (w_ref17_put x0)) l_0 level_1 ticks_2 := by kernel_rfl
theorem b_ref17_put_map (m : Nat) (l_0 : List Run) (level_1 : Int) (ticks_2 : Int) : b_ref17_put m (fun x0 => some (w_ref17_put x0)) l_0 level_1 ticks_2 = (b_ref17_put m (fun x0 => some x0) l_0 level_1 ticks_2).map w_ref17_put := by
  simp only [b_ref17_put, cond_map, bind_map, map_none, map_some]
noncomputable def ref17_put (m : Nat) (l_0 : List Run) (level_1 : Int) (ticks_2 : Int) : Option (List Run) := b_ref17_put m (fun x0 => some x0) l_0 level_1 ticks_2
theorem ref17_put_fun (m : Nat) (l_0 : List Run) (level_1 : Int) (ticks_2 : Int) : funE Try.prog Ψ0 keep m 1 45 [.row, .no, .no] [(dRow 59).e l_0, (dInt .i64).e level_1, (dInt .i64).e ticks_2] = (ref17_put m l_0 level_1 ticks_2).map w_ref17_put := by
  rw [ref17_put_pre]
  exact b_ref17_put_map m l_0 level_1 ticks_2
noncomputable def K_ref17_put (m : Nat) : KnownF C := mkE [.row, .no, .no] (dCons (dRow 59) (dCons (dInt .i64) (dCons (dInt .i64) dNil))) (fun a => ref17_put m a.1 a.2.1 a.2.2.1) w_ref17_put
theorem K_ref17_put_ok (m : Nat) : KnownAtE C Try.prog 45 [.row, .no, .no] fun l => (K_ref17_put m).run _ l some :=
  mkE_known good fit Ψ0_ok (keep := keep) (m := m) (d := 1) fun a => ref17_put_fun m a.1 a.2.1 a.2.2.1
/-! ### signalbench/signalbenchref17.send -/
noncomputable def Ψ_ref17_send (m : Nat) : Known C := fun f => match f with
  | 46 => some (K_ref17_times m)
  | 45 => some (K_ref17_put m)
  | _ => none
theorem Ψ_ref17_send_ok (m : Nat) : KnownOk C Try.prog (Ψ_ref17_send m) := by
  intro f φ h
  unfold Ψ_ref17_send at h
  split at h
  · injection h with h; subst h; exact K_ref17_times_ok m
  · injection h with h; subst h; exact K_ref17_put_ok m
  · cases h
def w_ref17_send (b : List Run) : List (RV C) := [(dRow 59).e b]
noncomputable def Q_ref17_send_5 (m : Nat) : St C → (Exit → St C → Option (List (RV C))) → Option (List (RV C)) := fun σ k => codeK Try.prog (Ψ_ref17_send m) (callK Try.prog (Ψ_ref17_send m) keep m 0) (keep 47) m (subC body47 [.r, .r, .r, .l, .r, .b, .o]) σ k
noncomputable def KL_ref17_send_5 (m : Nat) : Exit → St C → Option (List (RV C)) := contK Try.prog (Ψ_ref17_send m) (callK Try.prog (Ψ_ref17_send m) keep m 0) (keep 47) m body47 [.r, .r, .r, .l, .r, .b, .o] (leaveK Try.prog Try.f47.results.toList (finE Try.prog [.no, .row, .no] Try.f47.resultTypes.toList))
noncomputable def L_ref17_send_l5 (m n : Nat) (all_7 : ByteArray) (k_8 : Int) (l_1 : List Run) (c1 : Manchester) (c2 : Item) : Option (List (RV C)) := iterK (Q_ref17_send_5 m) (St.norm (keep 47 5)) n ({ T := [.dead, .fl (.one (.sl 0)), .dead, .fl (.one (.ptr 1 0)), .dead, .fl (.one (.ptr 2 0)), .dead, .fl (.one (.str all_7)), .fl (.one (.int .i64 k_8))] ++ List.replicate 70 .dead, F := [[.dead, .dead, .dead]], H := [.row 59 true l_1, .box 25 (cells_Manchester c1), .box 52 (cells_Item c2)] } : St C) (KL_ref17_send_5 m)
noncomputable def b_ref17_send_l5 {R : Type} (m : Nat) (ret : List Run → Option R) (k_l5 : ByteArray → Int → List Run → Manchester → Item → Option R) (all_7 : ByteArray) (k_8 : Int) (l_1 : List Run) (c1 : Manchester) (c2 : Item) : Option R :=
 bif decide (k_8 < (all_7.size : Int)) then
 (bif decide (0 ≤ k_8) then
 (bif decide (k_8 < (all_7.size : Int)) then
 ((ref17_times m c1 (IntKind.i64.wrap (IntKind.i64.wrap (2 * k_8) + 1))).bind fun r0 =>
 (ref17_times m c1 (IntKind.i64.wrap (2 * k_8))).bind fun r1 =>
 (ref17_put m l_1 (IntKind.i64.wrap (1 - IntKind.i64.wrap (IntKind.i64.wrap (byteAt all_7 k_8) - 48))) (IntKind.i64.wrap (r0 - r1))).bind fun r2 =>
 (ref17_times m c1 (IntKind.i64.wrap (IntKind.i64.wrap (2 * k_8) + 2))).bind fun r3 =>
 (ref17_times m c1 (IntKind.i64.wrap (IntKind.i64.wrap (2 * k_8) + 1))).bind fun r4 =>
 (ref17_put m r2 (IntKind.i64.wrap (IntKind.i64.wrap (byteAt all_7 k_8) - 48)) (IntKind.i64.wrap (r3 - r4))).bind fun r5 =>
 k_l5 all_7 (IntKind.i64.wrap (k_8 + 1)) r5 c1 c2)
 else
 none)
 else
 none)
 else
 bif c2.Fault == 5 then
 ((ref17_times m c1 (IntKind.i64.wrap (IntKind.i64.wrap (2 * (all_7.size : Int)) + 2))).bind fun r6 =>
 (ref17_times m c1 (IntKind.i64.wrap (2 * (all_7.size : Int)))).bind fun r7 =>
 (ref17_put m l_1 1 (IntKind.i64.wrap (r6 - r7))).bind fun r8 =>
 ret r8)
 else
 ret l_1
theorem L_ref17_send_l5_step (m n : Nat) (all_7 : ByteArray) (k_8 : Int) (l_1 : List Run) (c1 : Manchester) (c2 : Item) : L_ref17_send_l5 m (n + 1) all_7 k_8 l_1 c1 c2 = b_ref17_send_l5 m (fun x0 => some (w_ref17_send x0)) (fun all_7 k_8 l_1 c1 c2 => L_ref17_send_l5 m n all_7 k_8 l_1 c1 c2) all_7 k_8 l_1 c1 c2 := by kernel_rfl
theorem b_ref17_send_l5_map (m : Nat) {k_l5 : ByteArray → Int → List Run → Manchester → Item → Option (List (RV C))} {q_l5 : ByteArray → Int → List Run → Manchester → Item → Option (List Run)} (h_l5 : ∀ all_7 k_8 l_1 c1 c2, k_l5 all_7 k_8 l_1 c1 c2 = (q_l5 all_7 k_8 l_1 c1 c2).map w_ref17_send) (all_7 : ByteArray) (k_8 : Int) (l_1 : List Run) (c1 : Manchester) (c2 : Item) : b_ref17_send_l5 m (fun x0 => some (w_ref17_send x0)) k_l5 all_7 k_8 l_1 c1 c2 = (b_ref17_send_l5 m (fun x0 => some x0) q_l5 all_7 k_8 l_1 c1 c2).map w_ref17_send := by
  simp only [b_ref17_send_l5, cond_map, bind_map, map_none, map_some, h_l5]
noncomputable def ref17_send_l5 (m : Nat) : Nat → ByteArray → Int → List Run → Manchester → Item → Option (List Run)
  | 0, _, _, _, _, _ => none
  | n + 1, all_7, k_8, l_1, c1, c2 => b_ref17_send_l5 m (fun x0 => some x0) (fun all_7 k_8 l_1 c1 c2 => ref17_send_l5 m n all_7 k_8 l_1 c1 c2) all_7 k_8 l_1 c1 c2
theorem L_ref17_send_l5_eq (m : Nat) : ∀ (n : Nat) (all_7 : ByteArray) (k_8 : Int) (l_1 : List Run) (c1 : Manchester) (c2 : Item), L_ref17_send_l5 m n all_7 k_8 l_1 c1 c2 = (ref17_send_l5 m n all_7 k_8 l_1 c1 c2).map w_ref17_send
  | 0, all_7, k_8, l_1, c1, c2 => by kernel_rfl
  | n + 1, all_7, k_8, l_1, c1, c2 => by
    rw [L_ref17_send_l5_step]
    exact b_ref17_send_l5_map m (fun all_7 k_8 l_1 c1 c2 => L_ref17_send_l5_eq m n all_7 k_8 l_1 c1 c2) all_7 k_8 l_1 c1 c2
noncomputable def b_ref17_send {R : Type} (m : Nat) (ret : List Run → Option R) (k_l5 : ByteArray → Int → List Run → Manchester → Item → Option R) (c_0 : Manchester) (l_1 : List Run) (x_2 : Item) : Option R :=
 bif decide (((1 + x_2.Data.size) : Int) > 9223372036854775807) then
 none
 else
 bif x_2.Fault == 5 then
 bif decide (0 ≤ IntKind.i64.wrap (x_2.Aux + 1)) then
 bif decide (IntKind.i64.wrap (x_2.Aux + 1) ≤ ((bs [49] ++ x_2.Data).size : Int)) then
 bif decide (0 ≤ IntKind.i64.wrap (x_2.Aux + 1)) then
 k_l5 ((bs [49] ++ x_2.Data).extract 0 (IntKind.i64.wrap (x_2.Aux + 1)).toNat) 0 l_1 c_0 x_2
 else
 none
 else
 none
 else
 none
 else
 k_l5 (bs [49] ++ x_2.Data) 0 l_1 c_0 x_2
theorem ref17_send_pre (m : Nat) (c_0 : Manchester) (l_1 : List Run) (x_2 : Item) : funE Try.prog (Ψ_ref17_send m) keep m 1 47 [.no, .row, .no] [(dS of_Manchester cells_Manchester of_Manchester_ok).e c_0, (dRow 59).e l_1, (dS of_Item cells_Item of_Item_ok).e x_2] = b_ref17_send m (fun x0 => some (w_ref17_send x0)) (fun all_7 k_8 l_1 c1 c2 => L_ref17_send_l5 m m all_7 k_8 l_1 c1 c2) c_0 l_1 x_2 := by kernel_rfl
theorem b_ref17_send_map (m : Nat) {k_l5 : ByteArray → Int → List Run → Manchester → Item → Option (List (RV C))} {q_l5 : ByteArray → Int → List Run → Manchester → Item → Option (List Run)} (h_l5 : ∀ all_7 k_8 l_1 c1 c2, k_l5 all_7 k_8 l_1 c1 c2 = (q_l5 all_7 k_8 l_1 c1 c2).map w_ref17_send) (c_0 : Manchester) (l_1 : List Run) (x_2 : Item) : b_ref17_send m (fun x0 => some (w_ref17_send x0)) k_l5 c_0 l_1 x_2 = (b_ref17_send m (fun x0 => some x0) q_l5 c_0 l_1 x_2).map w_ref17_send := by
  simp only [b_ref17_send, cond_map, bind_map, map_none, map_some, h_l5]
noncomputable def ref17_send (m : Nat) (c_0 : Manchester) (l_1 : List Run) (x_2 : Item) : Option (List Run) := b_ref17_send m (fun x0 => some x0) (fun all_7 k_8 l_1 c1 c2 => ref17_send_l5 m m all_7 k_8 l_1 c1 c2) c_0 l_1 x_2
theorem ref17_send_fun (m : Nat) (c_0 : Manchester) (l_1 : List Run) (x_2 : Item) : funE Try.prog (Ψ_ref17_send m) keep m 1 47 [.no, .row, .no] [(dS of_Manchester cells_Manchester of_Manchester_ok).e c_0, (dRow 59).e l_1, (dS of_Item cells_Item of_Item_ok).e x_2] = (ref17_send m c_0 l_1 x_2).map w_ref17_send := by
  rw [ref17_send_pre]
  exact b_ref17_send_map m (fun all_7 k_8 l_1 c1 c2 => L_ref17_send_l5_eq m m all_7 k_8 l_1 c1 c2) c_0 l_1 x_2
noncomputable def K_ref17_send (m : Nat) : KnownF C := mkE [.no, .row, .no] (dCons (dS of_Manchester cells_Manchester of_Manchester_ok) (dCons (dRow 59) (dCons (dS of_Item cells_Item of_Item_ok) dNil))) (fun a => ref17_send m a.1 a.2.1 a.2.2.1) w_ref17_send
theorem K_ref17_send_ok (m : Nat) : KnownAtE C Try.prog 47 [.no, .row, .no] fun l => (K_ref17_send m).run _ l some :=
  mkE_known good fit (Ψ_ref17_send_ok m) (keep := keep) (m := m) (d := 1) fun a => ref17_send_fun m a.1 a.2.1 a.2.2.1
/-! ### signalbench/signalbenchref08.Valid -/
def w_ref08_Valid (b : Bool) : List (RV C) := [dBool.e b]
noncomputable def Q_ref08_Valid_5 (m : Nat) : St C → (Exit → St C → Option (List (RV C))) → Option (List (RV C)) := fun σ k => codeK Try.prog Ψ0 (callK Try.prog Ψ0 keep m 0) (keep 49) m (subC body49 [.r, .r, .r, .l, .r, .b, .o]) σ k
noncomputable def KL_ref08_Valid_5 (m : Nat) : Exit → St C → Option (List (RV C)) := contK Try.prog Ψ0 (callK Try.prog Ψ0 keep m 0) (keep 49) m body49 [.r, .r, .r, .l, .r, .b, .o] (leaveK Try.prog Try.f49.results.toList (finK Try.prog Try.f49.resultTypes.toList))
noncomputable def L_ref08_Valid_l5 (m n : Nat) (sum_3 : Int) (i_4 : Int) (l_0 : List Run) : Option (List (RV C)) := iterK (Q_ref08_Valid_5 m) (St.norm (keep 49 5)) n ({ T := [.fl (.one (.sl 0)), .dead, .dead, .fl (.one (.int .i64 sum_3)), .fl (.one (.int .i64 i_4))] ++ List.replicate 46 .dead, F := [[]], H := [.row 59 false l_0] } : St C) (KL_ref08_Valid_5 m)
noncomputable def b_ref08_Valid_l5 {R : Type} (m : Nat) (ret : Bool → Option R) (k_l5 : Int → Int → List Run → Option R) (sum_3 : Int) (i_4 : Int) (l_0 : List Run) : Option R :=
 bif decide (i_4 < (l_0.length : Int)) then
 bif decide (0 ≤ i_4) then
 bif decide (i_4 < (l_0.length : Int)) then
 bif (l_0.getD i_4.toNat dflt_Run).Level != 0 then
 bif decide (0 ≤ i_4) then
 bif decide (i_4 < (l_0.length : Int)) then
 bif (l_0.getD i_4.toNat dflt_Run).Level != 1 then
 ret false
 else
 bif decide (0 ≤ i_4) then
 bif decide (i_4 < (l_0.length : Int)) then
 bif decide ((l_0.getD i_4.toNat dflt_Run).Ticks < 1) then
 ret false
 else
 bif decide (0 ≤ i_4) then
 bif decide (i_4 < (l_0.length : Int)) then
 bif decide ((l_0.getD i_4.toNat dflt_Run).Ticks > IntKind.i64.wrap (1099511627776 - sum_3)) then
 ret false
 else
 bif decide (0 ≤ i_4) then
 bif decide (i_4 < (l_0.length : Int)) then
 k_l5 (IntKind.i64.wrap (sum_3 + (l_0.getD i_4.toNat dflt_Run).Ticks)) (IntKind.i64.wrap (i_4 + 1)) l_0
 else
 none
 else
 none
 else
 none
 else
 none
 else
 none
 else
 none
 else
 none
 else
 none
 else
 bif decide (0 ≤ i_4) then
 bif decide (i_4 < (l_0.length : Int)) then
 bif decide ((l_0.getD i_4.toNat dflt_Run).Ticks < 1) then
 ret false
 else
 bif decide (0 ≤ i_4) then
 bif decide (i_4 < (l_0.length : Int)) then
 bif decide ((l_0.getD i_4.toNat dflt_Run).Ticks > IntKind.i64.wrap (1099511627776 - sum_3)) then
 ret false
 else
 bif decide (0 ≤ i_4) then
 bif decide (i_4 < (l_0.length : Int)) then
 k_l5 (IntKind.i64.wrap (sum_3 + (l_0.getD i_4.toNat dflt_Run).Ticks)) (IntKind.i64.wrap (i_4 + 1)) l_0
 else
 none
 else
 none
 else
 none
 else
 none
 else
 none
 else
 none
 else
 none
 else
 none
 else
 ret true
theorem L_ref08_Valid_l5_step (m n : Nat) (sum_3 : Int) (i_4 : Int) (l_0 : List Run) : L_ref08_Valid_l5 m (n + 1) sum_3 i_4 l_0 = b_ref08_Valid_l5 m (fun x0 => some (w_ref08_Valid x0)) (fun sum_3 i_4 l_0 => L_ref08_Valid_l5 m n sum_3 i_4 l_0) sum_3 i_4 l_0 := by kernel_rfl
theorem b_ref08_Valid_l5_map (m : Nat) {k_l5 : Int → Int → List Run → Option (List (RV C))} {q_l5 : Int → Int → List Run → Option (Bool)} (h_l5 : ∀ sum_3 i_4 l_0, k_l5 sum_3 i_4 l_0 = (q_l5 sum_3 i_4 l_0).map w_ref08_Valid) (sum_3 : Int) (i_4 : Int) (l_0 : List Run) : b_ref08_Valid_l5 m (fun x0 => some (w_ref08_Valid x0)) k_l5 sum_3 i_4 l_0 = (b_ref08_Valid_l5 m (fun x0 => some x0) q_l5 sum_3 i_4 l_0).map w_ref08_Valid := by
  simp only [b_ref08_Valid_l5, cond_map, bind_map, map_none, map_some, h_l5]
noncomputable def ref08_Valid_l5 (m : Nat) : Nat → Int → Int → List Run → Option (Bool)
  | 0, _, _, _ => none
  | n + 1, sum_3, i_4, l_0 => b_ref08_Valid_l5 m (fun x0 => some x0) (fun sum_3 i_4 l_0 => ref08_Valid_l5 m n sum_3 i_4 l_0) sum_3 i_4 l_0
theorem L_ref08_Valid_l5_eq (m : Nat) : ∀ (n : Nat) (sum_3 : Int) (i_4 : Int) (l_0 : List Run), L_ref08_Valid_l5 m n sum_3 i_4 l_0 = (ref08_Valid_l5 m n sum_3 i_4 l_0).map w_ref08_Valid
  | 0, sum_3, i_4, l_0 => by kernel_rfl
  | n + 1, sum_3, i_4, l_0 => by
    rw [L_ref08_Valid_l5_step]
    exact b_ref08_Valid_l5_map m (fun sum_3 i_4 l_0 => L_ref08_Valid_l5_eq m n sum_3 i_4 l_0) sum_3 i_4 l_0
noncomputable def b_ref08_Valid {R : Type} (m : Nat) (ret : Bool → Option R) (k_l5 : Int → Int → List Run → Option R) (l_0 : List Run) : Option R :=
 bif decide ((l_0.length : Int) > 262144) then
 ret false
 else
 k_l5 0 0 l_0
theorem ref08_Valid_pre (m : Nat) (l_0 : List Run) : funK Try.prog Ψ0 keep m 1 49 [(dRow 59).e l_0] = b_ref08_Valid m (fun x0 => some (w_ref08_Valid x0)) (fun sum_3 i_4 l_0 => L_ref08_Valid_l5 m m sum_3 i_4 l_0) l_0 := by kernel_rfl
theorem b_ref08_Valid_map (m : Nat) {k_l5 : Int → Int → List Run → Option (List (RV C))} {q_l5 : Int → Int → List Run → Option (Bool)} (h_l5 : ∀ sum_3 i_4 l_0, k_l5 sum_3 i_4 l_0 = (q_l5 sum_3 i_4 l_0).map w_ref08_Valid) (l_0 : List Run) : b_ref08_Valid m (fun x0 => some (w_ref08_Valid x0)) k_l5 l_0 = (b_ref08_Valid m (fun x0 => some x0) q_l5 l_0).map w_ref08_Valid := by
  simp only [b_ref08_Valid, cond_map, bind_map, map_none, map_some, h_l5]
noncomputable def ref08_Valid (m : Nat) (l_0 : List Run) : Option (Bool) := b_ref08_Valid m (fun x0 => some x0) (fun sum_3 i_4 l_0 => ref08_Valid_l5 m m sum_3 i_4 l_0) l_0
theorem ref08_Valid_fun (m : Nat) (l_0 : List Run) : funK Try.prog Ψ0 keep m 1 49 [(dRow 59).e l_0] = (ref08_Valid m l_0).map w_ref08_Valid := by
  rw [ref08_Valid_pre]
  exact b_ref08_Valid_map m (fun sum_3 i_4 l_0 => L_ref08_Valid_l5_eq m m sum_3 i_4 l_0) l_0
noncomputable def K_ref08_Valid (m : Nat) : KnownF C := mkK (dCons (dRow 59) dNil) (fun a => ref08_Valid m a.1) w_ref08_Valid
theorem K_ref08_Valid_ok (m : Nat) : KnownAt C Try.prog 49 fun l => (K_ref08_Valid m).run _ l some :=
  mkK_known good fit Ψ0_ok (keep := keep) (m := m) (d := 1) fun a => ref08_Valid_fun m a.1
/-! ### signalbench/signalbenchref08.Invert -/
noncomputable def Ψ_ref08_Invert (m : Nat) : Known C := fun f => match f with
  | 49 => some (K_ref08_Valid m)
  | _ => none
theorem Ψ_ref08_Invert_ok (m : Nat) : KnownOk C Try.prog (Ψ_ref08_Invert m) := by
  intro f φ h
  unfold Ψ_ref08_Invert at h
  split at h
  · injection h with h; subst h; exact K_ref08_Valid_ok m
  · cases h
def w_ref08_Invert (b : List Run) : List (RV C) := [(dRow 59).e b]
noncomputable def Q_ref08_Invert_5 (m : Nat) : St C → (Exit → St C → Option (List (RV C))) → Option (List (RV C)) := fun σ k => codeK Try.prog (Ψ_ref08_Invert m) (callK Try.prog (Ψ_ref08_Invert m) keep m 0) (keep 28) m (subC body28 [.r, .r, .r, .l, .r, .b, .o]) σ k
noncomputable def KL_ref08_Invert_5 (m : Nat) : Exit → St C → Option (List (RV C)) := contK Try.prog (Ψ_ref08_Invert m) (callK Try.prog (Ψ_ref08_Invert m) keep m 0) (keep 28) m body28 [.r, .r, .r, .l, .r, .b, .o] (leaveK Try.prog Try.f28.results.toList (finK Try.prog Try.f28.resultTypes.toList))
noncomputable def L_ref08_Invert_l5 (m n : Nat) (i_4 : Int) (l_0 : List Run) (out_3 : List Run) : Option (List (RV C)) := iterK (Q_ref08_Invert_5 m) (St.norm (keep 28 5)) n ({ T := [.fl (.one (.sl 0)), .dead, .dead, .fl (.one (.sl 1)), .fl (.one (.int .i64 i_4))] ++ List.replicate 27 .dead, F := [[]], H := [.row 59 false l_0, .row 59 true out_3] } : St C) (KL_ref08_Invert_5 m)
noncomputable def b_ref08_Invert_l5 {R : Type} (m : Nat) (ret : List Run → Option R) (k_l5 : Int → List Run → List Run → Option R) (i_4 : Int) (l_0 : List Run) (out_3 : List Run) : Option R :=
 bif decide (i_4 < (l_0.length : Int)) then
 bif decide (0 ≤ i_4) then
 bif decide (i_4 < (l_0.length : Int)) then
 bif decide (0 ≤ i_4) then
 bif decide (i_4 < (l_0.length : Int)) then
 bif decide ((out_3.length + 1) * 16 ≤ 140737488355328) then
 k_l5 (IntKind.i64.wrap (i_4 + 1)) l_0 (out_3 ++ [Run.mk (IntKind.i64.wrap (1 - (l_0.getD i_4.toNat dflt_Run).Level)) (l_0.getD i_4.toNat dflt_Run).Ticks])
 else
 none
 else
 none
 else
 none
 else
 none
 else
 none
 else
 ret out_3
theorem L_ref08_Invert_l5_step (m n : Nat) (i_4 : Int) (l_0 : List Run) (out_3 : List Run) : L_ref08_Invert_l5 m (n + 1) i_4 l_0 out_3 = b_ref08_Invert_l5 m (fun x0 => some (w_ref08_Invert x0)) (fun i_4 l_0 out_3 => L_ref08_Invert_l5 m n i_4 l_0 out_3) i_4 l_0 out_3 := by kernel_rfl
theorem b_ref08_Invert_l5_map (m : Nat) {k_l5 : Int → List Run → List Run → Option (List (RV C))} {q_l5 : Int → List Run → List Run → Option (List Run)} (h_l5 : ∀ i_4 l_0 out_3, k_l5 i_4 l_0 out_3 = (q_l5 i_4 l_0 out_3).map w_ref08_Invert) (i_4 : Int) (l_0 : List Run) (out_3 : List Run) : b_ref08_Invert_l5 m (fun x0 => some (w_ref08_Invert x0)) k_l5 i_4 l_0 out_3 = (b_ref08_Invert_l5 m (fun x0 => some x0) q_l5 i_4 l_0 out_3).map w_ref08_Invert := by
  simp only [b_ref08_Invert_l5, cond_map, bind_map, map_none, map_some, h_l5]
noncomputable def ref08_Invert_l5 (m : Nat) : Nat → Int → List Run → List Run → Option (List Run)
  | 0, _, _, _ => none
  | n + 1, i_4, l_0, out_3 => b_ref08_Invert_l5 m (fun x0 => some x0) (fun i_4 l_0 out_3 => ref08_Invert_l5 m n i_4 l_0 out_3) i_4 l_0 out_3
theorem L_ref08_Invert_l5_eq (m : Nat) : ∀ (n : Nat) (i_4 : Int) (l_0 : List Run) (out_3 : List Run), L_ref08_Invert_l5 m n i_4 l_0 out_3 = (ref08_Invert_l5 m n i_4 l_0 out_3).map w_ref08_Invert
  | 0, i_4, l_0, out_3 => by kernel_rfl
  | n + 1, i_4, l_0, out_3 => by
    rw [L_ref08_Invert_l5_step]
    exact b_ref08_Invert_l5_map m (fun i_4 l_0 out_3 => L_ref08_Invert_l5_eq m n i_4 l_0 out_3) i_4 l_0 out_3
noncomputable def b_ref08_Invert {R : Type} (m : Nat) (ret : List Run → Option R) (k_l5 : Int → List Run → List Run → Option R) (l_0 : List Run) : Option R :=
 (ref08_Valid m l_0).bind fun r0 =>
 bif !r0 then
 ret []
 else
 k_l5 0 l_0 []
theorem ref08_Invert_pre (m : Nat) (l_0 : List Run) : funK Try.prog (Ψ_ref08_Invert m) keep m 1 28 [(dRow 59).e l_0] = b_ref08_Invert m (fun x0 => some (w_ref08_Invert x0)) (fun i_4 l_0 out_3 => L_ref08_Invert_l5 m m i_4 l_0 out_3) l_0 := by kernel_rfl
theorem b_ref08_Invert_map (m : Nat) {k_l5 : Int → List Run → List Run → Option (List (RV C))} {q_l5 : Int → List Run → List Run → Option (List Run)} (h_l5 : ∀ i_4 l_0 out_3, k_l5 i_4 l_0 out_3 = (q_l5 i_4 l_0 out_3).map w_ref08_Invert) (l_0 : List Run) : b_ref08_Invert m (fun x0 => some (w_ref08_Invert x0)) k_l5 l_0 = (b_ref08_Invert m (fun x0 => some x0) q_l5 l_0).map w_ref08_Invert := by
  simp only [b_ref08_Invert, cond_map, bind_map, map_none, map_some, h_l5]
noncomputable def ref08_Invert (m : Nat) (l_0 : List Run) : Option (List Run) := b_ref08_Invert m (fun x0 => some x0) (fun i_4 l_0 out_3 => ref08_Invert_l5 m m i_4 l_0 out_3) l_0
theorem ref08_Invert_fun (m : Nat) (l_0 : List Run) : funK Try.prog (Ψ_ref08_Invert m) keep m 1 28 [(dRow 59).e l_0] = (ref08_Invert m l_0).map w_ref08_Invert := by
  rw [ref08_Invert_pre]
  exact b_ref08_Invert_map m (fun i_4 l_0 out_3 => L_ref08_Invert_l5_eq m m i_4 l_0 out_3) l_0
noncomputable def K_ref08_Invert (m : Nat) : KnownF C := mkK (dCons (dRow 59) dNil) (fun a => ref08_Invert m a.1) w_ref08_Invert
theorem K_ref08_Invert_ok (m : Nat) : KnownAt C Try.prog 28 fun l => (K_ref08_Invert m).run _ l some :=
  mkK_known good fit (Ψ_ref08_Invert_ok m) (keep := keep) (m := m) (d := 1) fun a => ref08_Invert_fun m a.1
/-! ### signalbench/signalbenchref17.Encode -/
noncomputable def Ψ_ref17_Encode (m : Nat) : Known C := fun f => match f with
  | 11 => some (K_ref17_Check m)
  | 44 => some (K_ref17_right m)
  | 46 => some (K_ref17_times m)
  | 45 => some (K_ref17_put m)
  | 47 => some (K_ref17_send m)
  | 28 => some (K_ref08_Invert m)
  | _ => none
theorem Ψ_ref17_Encode_ok (m : Nat) : KnownOk C Try.prog (Ψ_ref17_Encode m) := by
  intro f φ h
  unfold Ψ_ref17_Encode at h
  split at h
  · injection h with h; subst h; exact K_ref17_Check_ok m
  · injection h with h; subst h; exact K_ref17_right_ok m
  · injection h with h; subst h; exact K_ref17_times_ok m
  · injection h with h; subst h; exact K_ref17_put_ok m
  · injection h with h; subst h; exact K_ref17_send_ok m
  · injection h with h; subst h; exact K_ref08_Invert_ok m
  · cases h
def w_ref17_Encode (b : List Run × Int) : List (RV C) := [(dRow 59).e b.1, (dInt .i64).e b.2]
noncomputable def Q_ref17_Encode_7 (m : Nat) : St C → (Exit → St C → Option (List (RV C))) → Option (List (RV C)) := fun σ k => codeK Try.prog (Ψ_ref17_Encode m) (callK Try.prog (Ψ_ref17_Encode m) keep m 0) (keep 23) m (subC body23 [.r, .r, .r, .l, .r, .b, .o]) σ k
noncomputable def KL_ref17_Encode_7 (m : Nat) : Exit → St C → Option (List (RV C)) := contK Try.prog (Ψ_ref17_Encode m) (callK Try.prog (Ψ_ref17_Encode m) keep m 0) (keep 23) m body23 [.r, .r, .r, .l, .r, .b, .o] (leaveK Try.prog Try.f23.results.toList (finK Try.prog Try.f23.resultTypes.toList))
noncomputable def Q_ref17_Encode_14 (m : Nat) : St C → (Exit → St C → Option (List (RV C))) → Option (List (RV C)) := fun σ k => codeK Try.prog (Ψ_ref17_Encode m) (callK Try.prog (Ψ_ref17_Encode m) keep m 0) (keep 23) m (subC body23 [.r, .r, .r, .r, .r, .l, .r, .b, .o]) σ k
noncomputable def KL_ref17_Encode_14 (m : Nat) : Exit → St C → Option (List (RV C)) := contK Try.prog (Ψ_ref17_Encode m) (callK Try.prog (Ψ_ref17_Encode m) keep m 0) (keep 23) m body23 [.r, .r, .r, .r, .r, .l, .r, .b, .o] (leaveK Try.prog Try.f23.results.toList (finK Try.prog Try.f23.resultTypes.toList))
noncomputable def Q_ref17_Encode_23 (m : Nat) : St C → (Exit → St C → Option (List (RV C))) → Option (List (RV C)) := fun σ k => codeK Try.prog (Ψ_ref17_Encode m) (callK Try.prog (Ψ_ref17_Encode m) keep m 0) (keep 23) m (subC body23 [.r, .r, .r, .r, .r, .r, .r, .r, .l, .r, .b, .o]) σ k
noncomputable def KL_ref17_Encode_23 (m : Nat) : Exit → St C → Option (List (RV C)) := contK Try.prog (Ψ_ref17_Encode m) (callK Try.prog (Ψ_ref17_Encode m) keep m 0) (keep 23) m body23 [.r, .r, .r, .r, .r, .r, .r, .r, .l, .r, .b, .o] (leaveK Try.prog Try.f23.results.toList (finK Try.prog Try.f23.resultTypes.toList))
noncomputable def L_ref17_Encode_l7 (m n : Nat) (i_7 : Int) (l_1 : List Item) (c1 : Manchester) : Option (List (RV C)) := iterK (Q_ref17_Encode_7 m) (St.norm (keep 23 7)) n ({ T := [.dead, .fl (.one (.sl 0)), .fl (.one (.ptr 1 0)), .dead, .dead, .dead, .dead, .fl (.one (.int .i64 i_7))] ++ List.replicate 79 .dead, F := [[]], H := [.row 52 false l_1, .box 25 (cells_Manchester c1)] } : St C) (KL_ref17_Encode_7 m)
noncomputable def L_ref17_Encode_l14 (m n : Nat) (i_10 : Int) (l_1 : List Item) (c1 : Manchester) (out_9 : List Run) : Option (List (RV C)) := iterK (Q_ref17_Encode_14 m) (St.norm (keep 23 14)) n ({ T := [.dead, .fl (.one (.sl 0)), .fl (.one (.ptr 1 0)), .dead, .dead, .dead, .dead, .dead, .dead, .fl (.one (.sl 2)), .fl (.one (.int .i64 i_10))] ++ List.replicate 76 .dead, F := [[]], H := [.row 52 false l_1, .box 25 (cells_Manchester c1), .row 59 true out_9] } : St C) (KL_ref17_Encode_14 m)
noncomputable def L_ref17_Encode_l23 (m n : Nat) (sum_11 : Int) (i_12 : Int) (c0 : Manchester) (out_9 : List Run) : Option (List (RV C)) := iterK (Q_ref17_Encode_23 m) (St.norm (keep 23 23)) n ({ T := [.dead, .dead, .fl (.one (.ptr 0 0)), .dead, .dead, .dead, .dead, .dead, .dead, .fl (.one (.sl 1)), .dead, .fl (.one (.int .i64 sum_11)), .fl (.one (.int .i64 i_12))] ++ List.replicate 74 .dead, F := [[]], H := [.box 25 (cells_Manchester c0), .row 59 true out_9] } : St C) (KL_ref17_Encode_23 m)
noncomputable def b_ref17_Encode_l23 {R : Type} (m : Nat) (ret : List Run → Int → Option R) (k_l23 : Int → Int → Manchester → List Run → Option R) (sum_11 : Int) (i_12 : Int) (c0 : Manchester) (out_9 : List Run) : Option R :=
 bif decide (i_12 < (out_9.length : Int)) then
 bif decide (0 ≤ i_12) then
 bif decide (i_12 < (out_9.length : Int)) then
 k_l23 (IntKind.i64.wrap (sum_11 + (out_9.getD i_12.toNat dflt_Run).Ticks)) (IntKind.i64.wrap (i_12 + 1)) c0 out_9
 else
 none
 else
 none
 else
 bif decide (sum_11 > 1099511627776) then
 ret [] 2
 else
 bif !c0.Ieee then
 ((ref08_Invert m out_9).bind fun r0 =>
 ret r0 0)
 else
 ret out_9 0
theorem L_ref17_Encode_l23_step (m n : Nat) (sum_11 : Int) (i_12 : Int) (c0 : Manchester) (out_9 : List Run) : L_ref17_Encode_l23 m (n + 1) sum_11 i_12 c0 out_9 = b_ref17_Encode_l23 m (fun x0 x1 => some (w_ref17_Encode (x0, x1))) (fun sum_11 i_12 c0 out_9 => L_ref17_Encode_l23 m n sum_11 i_12 c0 out_9) sum_11 i_12 c0 out_9 := by kernel_rfl
theorem b_ref17_Encode_l23_map (m : Nat) {k_l23 : Int → Int → Manchester → List Run → Option (List (RV C))} {q_l23 : Int → Int → Manchester → List Run → Option (List Run × Int)} (h_l23 : ∀ sum_11 i_12 c0 out_9, k_l23 sum_11 i_12 c0 out_9 = (q_l23 sum_11 i_12 c0 out_9).map w_ref17_Encode) (sum_11 : Int) (i_12 : Int) (c0 : Manchester) (out_9 : List Run) : b_ref17_Encode_l23 m (fun x0 x1 => some (w_ref17_Encode (x0, x1))) k_l23 sum_11 i_12 c0 out_9 = (b_ref17_Encode_l23 m (fun x0 x1 => some (x0, x1)) q_l23 sum_11 i_12 c0 out_9).map w_ref17_Encode := by
  simp only [b_ref17_Encode_l23, cond_map, bind_map, map_none, map_some, h_l23]
noncomputable def ref17_Encode_l23 (m : Nat) : Nat → Int → Int → Manchester → List Run → Option (List Run × Int)
  | 0, _, _, _, _ => none
  | n + 1, sum_11, i_12, c0, out_9 => b_ref17_Encode_l23 m (fun x0 x1 => some (x0, x1)) (fun sum_11 i_12 c0 out_9 => ref17_Encode_l23 m n sum_11 i_12 c0 out_9) sum_11 i_12 c0 out_9
theorem L_ref17_Encode_l23_eq (m : Nat) : ∀ (n : Nat) (sum_11 : Int) (i_12 : Int) (c0 : Manchester) (out_9 : List Run), L_ref17_Encode_l23 m n sum_11 i_12 c0 out_9 = (ref17_Encode_l23 m n sum_11 i_12 c0 out_9).map w_ref17_Encode
  | 0, sum_11, i_12, c0, out_9 => by kernel_rfl
  | n + 1, sum_11, i_12, c0, out_9 => by
    rw [L_ref17_Encode_l23_step]
    exact b_ref17_Encode_l23_map m (fun sum_11 i_12 c0 out_9 => L_ref17_Encode_l23_eq m n sum_11 i_12 c0 out_9) sum_11 i_12 c0 out_9
noncomputable def b_ref17_Encode_l14 {R : Type} (m : Nat) (ret : List Run → Int → Option R) (k_l14 : Int → List Item → Manchester → List Run → Option R) (k_l23 : Int → Int → Manchester → List Run → Option R) (i_10 : Int) (l_1 : List Item) (c1 : Manchester) (out_9 : List Run) : Option R :=
 bif decide (i_10 < (l_1.length : Int)) then
 (bif decide (0 ≤ i_10) then
 (bif decide (i_10 < (l_1.length : Int)) then
 ((ref17_put m out_9 0 (l_1.getD i_10.toNat dflt_Item).Gap).bind fun r0 =>
 bif decide (0 ≤ i_10) then
 (bif decide (i_10 < (l_1.length : Int)) then
 ((ref17_send m c1 r0 (l_1.getD i_10.toNat dflt_Item)).bind fun r1 =>
 (ref17_times m c1 4).bind fun r2 =>
 (ref17_put m r1 0 r2).bind fun r3 =>
 k_l14 (IntKind.i64.wrap (i_10 + 1)) l_1 c1 r3)
 else
 none)
 else
 none)
 else
 none)
 else
 none)
 else
 bif decide ((out_9.length : Int) > 262144) then
 ret [] 6
 else
 k_l23 0 0 c1 out_9
theorem L_ref17_Encode_l14_step (m n : Nat) (i_10 : Int) (l_1 : List Item) (c1 : Manchester) (out_9 : List Run) : L_ref17_Encode_l14 m (n + 1) i_10 l_1 c1 out_9 = b_ref17_Encode_l14 m (fun x0 x1 => some (w_ref17_Encode (x0, x1))) (fun i_10 l_1 c1 out_9 => L_ref17_Encode_l14 m n i_10 l_1 c1 out_9) (fun sum_11 i_12 c0 out_9 => L_ref17_Encode_l23 m m sum_11 i_12 c0 out_9) i_10 l_1 c1 out_9 := by kernel_rfl
theorem b_ref17_Encode_l14_map (m : Nat) {k_l14 : Int → List Item → Manchester → List Run → Option (List (RV C))} {q_l14 : Int → List Item → Manchester → List Run → Option (List Run × Int)} (h_l14 : ∀ i_10 l_1 c1 out_9, k_l14 i_10 l_1 c1 out_9 = (q_l14 i_10 l_1 c1 out_9).map w_ref17_Encode) {k_l23 : Int → Int → Manchester → List Run → Option (List (RV C))} {q_l23 : Int → Int → Manchester → List Run → Option (List Run × Int)} (h_l23 : ∀ sum_11 i_12 c0 out_9, k_l23 sum_11 i_12 c0 out_9 = (q_l23 sum_11 i_12 c0 out_9).map w_ref17_Encode) (i_10 : Int) (l_1 : List Item) (c1 : Manchester) (out_9 : List Run) : b_ref17_Encode_l14 m (fun x0 x1 => some (w_ref17_Encode (x0, x1))) k_l14 k_l23 i_10 l_1 c1 out_9 = (b_ref17_Encode_l14 m (fun x0 x1 => some (x0, x1)) q_l14 q_l23 i_10 l_1 c1 out_9).map w_ref17_Encode := by
  simp only [b_ref17_Encode_l14, cond_map, bind_map, map_none, map_some, h_l14, h_l23]
noncomputable def ref17_Encode_l14 (m : Nat) : Nat → Int → List Item → Manchester → List Run → Option (List Run × Int)
  | 0, _, _, _, _ => none
  | n + 1, i_10, l_1, c1, out_9 => b_ref17_Encode_l14 m (fun x0 x1 => some (x0, x1)) (fun i_10 l_1 c1 out_9 => ref17_Encode_l14 m n i_10 l_1 c1 out_9) (fun sum_11 i_12 c0 out_9 => ref17_Encode_l23 m m sum_11 i_12 c0 out_9) i_10 l_1 c1 out_9
theorem L_ref17_Encode_l14_eq (m : Nat) : ∀ (n : Nat) (i_10 : Int) (l_1 : List Item) (c1 : Manchester) (out_9 : List Run), L_ref17_Encode_l14 m n i_10 l_1 c1 out_9 = (ref17_Encode_l14 m n i_10 l_1 c1 out_9).map w_ref17_Encode
  | 0, i_10, l_1, c1, out_9 => by kernel_rfl
  | n + 1, i_10, l_1, c1, out_9 => by
    rw [L_ref17_Encode_l14_step]
    exact b_ref17_Encode_l14_map m (fun i_10 l_1 c1 out_9 => L_ref17_Encode_l14_eq m n i_10 l_1 c1 out_9) (fun sum_11 i_12 c0 out_9 => L_ref17_Encode_l23_eq m m sum_11 i_12 c0 out_9) i_10 l_1 c1 out_9
noncomputable def b_ref17_Encode_l7 {R : Type} (m : Nat) (ret : List Run → Int → Option R) (k_l7 : Int → List Item → Manchester → Option R) (k_l14 : Int → List Item → Manchester → List Run → Option R) (i_7 : Int) (l_1 : List Item) (c1 : Manchester) : Option R :=
 bif decide (i_7 < (l_1.length : Int)) then
 (bif decide (0 ≤ i_7) then
 (bif decide (i_7 < (l_1.length : Int)) then
 ((ref17_right m (l_1.getD i_7.toNat dflt_Item)).bind fun r0 =>
 bif r0 != 0 then
 ret [] r0
 else
 k_l7 (IntKind.i64.wrap (i_7 + 1)) l_1 c1)
 else
 none)
 else
 none)
 else
 (ref17_times m c1 4).bind fun r1 =>
 (ref17_put m [] 0 r1).bind fun r2 =>
 k_l14 0 l_1 c1 r2
theorem L_ref17_Encode_l7_step (m n : Nat) (i_7 : Int) (l_1 : List Item) (c1 : Manchester) : L_ref17_Encode_l7 m (n + 1) i_7 l_1 c1 = b_ref17_Encode_l7 m (fun x0 x1 => some (w_ref17_Encode (x0, x1))) (fun i_7 l_1 c1 => L_ref17_Encode_l7 m n i_7 l_1 c1) (fun i_10 l_1 c1 out_9 => L_ref17_Encode_l14 m m i_10 l_1 c1 out_9) i_7 l_1 c1 := by kernel_rfl
theorem b_ref17_Encode_l7_map (m : Nat) {k_l7 : Int → List Item → Manchester → Option (List (RV C))} {q_l7 : Int → List Item → Manchester → Option (List Run × Int)} (h_l7 : ∀ i_7 l_1 c1, k_l7 i_7 l_1 c1 = (q_l7 i_7 l_1 c1).map w_ref17_Encode) {k_l14 : Int → List Item → Manchester → List Run → Option (List (RV C))} {q_l14 : Int → List Item → Manchester → List Run → Option (List Run × Int)} (h_l14 : ∀ i_10 l_1 c1 out_9, k_l14 i_10 l_1 c1 out_9 = (q_l14 i_10 l_1 c1 out_9).map w_ref17_Encode) (i_7 : Int) (l_1 : List Item) (c1 : Manchester) : b_ref17_Encode_l7 m (fun x0 x1 => some (w_ref17_Encode (x0, x1))) k_l7 k_l14 i_7 l_1 c1 = (b_ref17_Encode_l7 m (fun x0 x1 => some (x0, x1)) q_l7 q_l14 i_7 l_1 c1).map w_ref17_Encode := by
  simp only [b_ref17_Encode_l7, cond_map, bind_map, map_none, map_some, h_l7, h_l14]
noncomputable def ref17_Encode_l7 (m : Nat) : Nat → Int → List Item → Manchester → Option (List Run × Int)
  | 0, _, _, _ => none
  | n + 1, i_7, l_1, c1 => b_ref17_Encode_l7 m (fun x0 x1 => some (x0, x1)) (fun i_7 l_1 c1 => ref17_Encode_l7 m n i_7 l_1 c1) (fun i_10 l_1 c1 out_9 => ref17_Encode_l14 m m i_10 l_1 c1 out_9) i_7 l_1 c1
theorem L_ref17_Encode_l7_eq (m : Nat) : ∀ (n : Nat) (i_7 : Int) (l_1 : List Item) (c1 : Manchester), L_ref17_Encode_l7 m n i_7 l_1 c1 = (ref17_Encode_l7 m n i_7 l_1 c1).map w_ref17_Encode
  | 0, i_7, l_1, c1 => by kernel_rfl
  | n + 1, i_7, l_1, c1 => by
    rw [L_ref17_Encode_l7_step]
    exact b_ref17_Encode_l7_map m (fun i_7 l_1 c1 => L_ref17_Encode_l7_eq m n i_7 l_1 c1) (fun i_10 l_1 c1 out_9 => L_ref17_Encode_l14_eq m m i_10 l_1 c1 out_9) i_7 l_1 c1
noncomputable def b_ref17_Encode {R : Type} (m : Nat) (ret : List Run → Int → Option R) (k_l7 : Int → List Item → Manchester → Option R) (c_0 : Manchester) (l_1 : List Item) : Option R :=
 (ref17_Check m c_0).bind fun r0 =>
 bif r0 != 0 then
 ret [] r0
 else
 bif decide ((l_1.length : Int) > 1024) then
 ret [] 6
 else
 k_l7 0 l_1 c_0
theorem ref17_Encode_pre (m : Nat) (c_0 : Manchester) (l_1 : List Item) : funK Try.prog (Ψ_ref17_Encode m) keep m 1 23 [(dS of_Manchester cells_Manchester of_Manchester_ok).e c_0, (dRow 52).e l_1] = b_ref17_Encode m (fun x0 x1 => some (w_ref17_Encode (x0, x1))) (fun i_7 l_1 c1 => L_ref17_Encode_l7 m m i_7 l_1 c1) c_0 l_1 := by kernel_rfl
theorem b_ref17_Encode_map (m : Nat) {k_l7 : Int → List Item → Manchester → Option (List (RV C))} {q_l7 : Int → List Item → Manchester → Option (List Run × Int)} (h_l7 : ∀ i_7 l_1 c1, k_l7 i_7 l_1 c1 = (q_l7 i_7 l_1 c1).map w_ref17_Encode) (c_0 : Manchester) (l_1 : List Item) : b_ref17_Encode m (fun x0 x1 => some (w_ref17_Encode (x0, x1))) k_l7 c_0 l_1 = (b_ref17_Encode m (fun x0 x1 => some (x0, x1)) q_l7 c_0 l_1).map w_ref17_Encode := by
  simp only [b_ref17_Encode, cond_map, bind_map, map_none, map_some, h_l7]
noncomputable def ref17_Encode (m : Nat) (c_0 : Manchester) (l_1 : List Item) : Option (List Run × Int) := b_ref17_Encode m (fun x0 x1 => some (x0, x1)) (fun i_7 l_1 c1 => ref17_Encode_l7 m m i_7 l_1 c1) c_0 l_1
theorem ref17_Encode_fun (m : Nat) (c_0 : Manchester) (l_1 : List Item) : funK Try.prog (Ψ_ref17_Encode m) keep m 1 23 [(dS of_Manchester cells_Manchester of_Manchester_ok).e c_0, (dRow 52).e l_1] = (ref17_Encode m c_0 l_1).map w_ref17_Encode := by
  rw [ref17_Encode_pre]
  exact b_ref17_Encode_map m (fun i_7 l_1 c1 => L_ref17_Encode_l7_eq m m i_7 l_1 c1) c_0 l_1
noncomputable def K_ref17_Encode (m : Nat) : KnownF C := mkK (dCons (dS of_Manchester cells_Manchester of_Manchester_ok) (dCons (dRow 52) dNil)) (fun a => ref17_Encode m a.1 a.2.1) w_ref17_Encode
theorem K_ref17_Encode_ok (m : Nat) : KnownAt C Try.prog 23 fun l => (K_ref17_Encode m).run _ l some :=
  mkK_known good fit (Ψ_ref17_Encode_ok m) (keep := keep) (m := m) (d := 1) fun a => ref17_Encode_fun m a.1 a.2.1
/-! ### signalbench/signalbenchref17.Expect -/
noncomputable def Ψ_ref17_Expect (m : Nat) : Known C := fun f => match f with
  | 23 => some (K_ref17_Encode m)
  | 33 => some (K_ref17_Levels m)
  | 22 => some (K_ref17_Decode m)
  | _ => none
theorem Ψ_ref17_Expect_ok (m : Nat) : KnownOk C Try.prog (Ψ_ref17_Expect m) := by
  intro f φ h
  unfold Ψ_ref17_Expect at h
  split at h
  · injection h with h; subst h; exact K_ref17_Encode_ok m
  · injection h with h; subst h; exact K_ref17_Levels_ok m
  · injection h with h; subst h; exact K_ref17_Decode_ok m
  · cases h
def w_ref17_Expect (b : List Event × Int) : List (RV C) := [(dRow 29).e b.1, (dInt .i64).e b.2]
noncomputable def b_ref17_Expect {R : Type} (m : Nat) (ret : List Event → Int → Option R) (c_0 : Manchester) (l_1 : List Item) : Option R :=
 (ref17_Encode m c_0 l_1).bind fun r0 =>
 bif r0.snd != 0 then
 ret [] r0.snd
 else
 (ref17_Levels m r0.fst).bind fun r1 =>
 (ref17_Decode m c_0 r1).bind fun r2 =>
 ret r2 0
theorem ref17_Expect_pre (m : Nat) (c_0 : Manchester) (l_1 : List Item) : funK Try.prog (Ψ_ref17_Expect m) keep m 1 25 [(dS of_Manchester cells_Manchester of_Manchester_ok).e c_0, (dRow 52).e l_1] = b_ref17_Expect m (fun x0 x1 => some (w_ref17_Expect (x0, x1))) c_0 l_1 := by kernel_rfl
theorem b_ref17_Expect_map (m : Nat) (c_0 : Manchester) (l_1 : List Item) : b_ref17_Expect m (fun x0 x1 => some (w_ref17_Expect (x0, x1))) c_0 l_1 = (b_ref17_Expect m (fun x0 x1 => some (x0, x1)) c_0 l_1).map w_ref17_Expect := by
  simp only [b_ref17_Expect, cond_map, bind_map, map_none, map_some]
noncomputable def ref17_Expect (m : Nat) (c_0 : Manchester) (l_1 : List Item) : Option (List Event × Int) := b_ref17_Expect m (fun x0 x1 => some (x0, x1)) c_0 l_1
theorem ref17_Expect_fun (m : Nat) (c_0 : Manchester) (l_1 : List Item) : funK Try.prog (Ψ_ref17_Expect m) keep m 1 25 [(dS of_Manchester cells_Manchester of_Manchester_ok).e c_0, (dRow 52).e l_1] = (ref17_Expect m c_0 l_1).map w_ref17_Expect := by
  rw [ref17_Expect_pre]
  exact b_ref17_Expect_map m c_0 l_1
noncomputable def K_ref17_Expect (m : Nat) : KnownF C := mkK (dCons (dS of_Manchester cells_Manchester of_Manchester_ok) (dCons (dRow 52) dNil)) (fun a => ref17_Expect m a.1 a.2.1) w_ref17_Expect
theorem K_ref17_Expect_ok (m : Nat) : KnownAt C Try.prog 25 fun l => (K_ref17_Expect m).run _ l some :=
  mkK_known good fit (Ψ_ref17_Expect_ok m) (keep := keep) (m := m) (d := 1) fun a => ref17_Expect_fun m a.1 a.2.1
/-! ### signalbench/signalbenchlaw17.ManchesterEncodes -/
noncomputable def Ψ_law17_ManchesterEncodes (m : Nat) : Known C := fun f => match f with
  | 14 => some (K_manchester_Encode m)
  | 23 => some (K_ref17_Encode m)
  | 24 => some (K_ref08_Same m)
  | 15 => some (K_manchester_Expect m)
  | 25 => some (K_ref17_Expect m)
  | 21 => some (K_ref07_Same m)
  | 12 => some (K_law17_awake m)
  | _ => none
theorem Ψ_law17_ManchesterEncodes_ok (m : Nat) : KnownOk C Try.prog (Ψ_law17_ManchesterEncodes m) := by
  intro f φ h
  unfold Ψ_law17_ManchesterEncodes at h
  split at h
  · injection h with h; subst h; exact K_manchester_Encode_ok m
  · injection h with h; subst h; exact K_ref17_Encode_ok m
  · injection h with h; subst h; exact K_ref08_Same_ok m
  · injection h with h; subst h; exact K_manchester_Expect_ok m
  · injection h with h; subst h; exact K_ref17_Expect_ok m
  · injection h with h; subst h; exact K_ref07_Same_ok m
  · injection h with h; subst h; exact K_law17_awake_ok m
  · cases h
def w_law17_ManchesterEncodes (b : Bool) : List (RV C) := [dBool.e b]
noncomputable def b_law17_ManchesterEncodes {R : Type} (m : Nat) (ret : Bool → Option R) (c_0 : Manchester) (l_1 : List Item) : Option R :=
 (manchester_Encode m c_0 l_1).bind fun r0 =>
 (ref17_Encode m c_0 l_1).bind fun r1 =>
 bif r0.snd != r1.snd then
 ret false
 else
 (ref08_Same m r0.fst r1.fst).bind fun r2 =>
 bif !r2 then
 ret false
 else
 (manchester_Expect m c_0 l_1).bind fun r3 =>
 (ref17_Expect m c_0 l_1).bind fun r4 =>
 bif r3.snd == r4.snd then
 ((ref07_Same m r3.fst r4.fst).bind fun r5 =>
 bif r5 then
 ((law17_awake m).bind fun r6 =>
 ret r6)
 else
 ret false)
 else
 ret false
theorem law17_ManchesterEncodes_pre (m : Nat) (c_0 : Manchester) (l_1 : List Item) : funK Try.prog (Ψ_law17_ManchesterEncodes m) keep m 1 5 [(dS of_Manchester cells_Manchester of_Manchester_ok).e c_0, (dRow 52).e l_1] = b_law17_ManchesterEncodes m (fun x0 => some (w_law17_ManchesterEncodes x0)) c_0 l_1 := by kernel_rfl
theorem b_law17_ManchesterEncodes_map (m : Nat) (c_0 : Manchester) (l_1 : List Item) : b_law17_ManchesterEncodes m (fun x0 => some (w_law17_ManchesterEncodes x0)) c_0 l_1 = (b_law17_ManchesterEncodes m (fun x0 => some x0) c_0 l_1).map w_law17_ManchesterEncodes := by
  simp only [b_law17_ManchesterEncodes, cond_map, bind_map, map_none, map_some]
noncomputable def law17_ManchesterEncodes (m : Nat) (c_0 : Manchester) (l_1 : List Item) : Option (Bool) := b_law17_ManchesterEncodes m (fun x0 => some x0) c_0 l_1
theorem law17_ManchesterEncodes_fun (m : Nat) (c_0 : Manchester) (l_1 : List Item) : funK Try.prog (Ψ_law17_ManchesterEncodes m) keep m 1 5 [(dS of_Manchester cells_Manchester of_Manchester_ok).e c_0, (dRow 52).e l_1] = (law17_ManchesterEncodes m c_0 l_1).map w_law17_ManchesterEncodes := by
  rw [law17_ManchesterEncodes_pre]
  exact b_law17_ManchesterEncodes_map m c_0 l_1
noncomputable def K_law17_ManchesterEncodes (m : Nat) : KnownF C := mkK (dCons (dS of_Manchester cells_Manchester of_Manchester_ok) (dCons (dRow 52) dNil)) (fun a => law17_ManchesterEncodes m a.1 a.2.1) w_law17_ManchesterEncodes
theorem K_law17_ManchesterEncodes_ok (m : Nat) : KnownAt C Try.prog 5 fun l => (K_law17_ManchesterEncodes m).run _ l some :=
  mkK_known good fit (Ψ_law17_ManchesterEncodes_ok m) (keep := keep) (m := m) (d := 1) fun a => law17_ManchesterEncodes_fun m a.1 a.2.1
/-! ### signalbench/signalbenchlaw17.found -/
def w_law17_found (b : Int) : List (RV C) := [(dInt .i64).e b]
noncomputable def Q_law17_found_5 (m : Nat) : St C → (Exit → St C → Option (List (RV C))) → Option (List (RV C)) := fun σ k => codeK Try.prog Ψ0 (callK Try.prog Ψ0 keep m 0) (keep 26) m (subC body26 [.r, .r, .r, .l, .r, .b, .o]) σ k
noncomputable def KL_law17_found_5 (m : Nat) : Exit → St C → Option (List (RV C)) := contK Try.prog Ψ0 (callK Try.prog Ψ0 keep m 0) (keep 26) m body26 [.r, .r, .r, .l, .r, .b, .o] (leaveK Try.prog Try.f26.results.toList (finK Try.prog Try.f26.resultTypes.toList))
noncomputable def L_law17_found_l5 (m n : Nat) (at_1 : Int) (n_7 : Int) (k_8 : Int) (l_0 : List Event) (c1 : Item) : Option (List (RV C)) := iterK (Q_law17_found_5 m) (St.norm (keep 26 5)) n ({ T := [.fl (.one (.sl 0)), .fl (.one (.int .i64 at_1)), .dead, .dead, .dead, .fl (.one (.ptr 1 0)), .dead, .fl (.one (.int .i64 n_7)), .fl (.one (.int .i64 k_8))] ++ List.replicate 114 .dead, F := [[]], H := [.row 29 false l_0, .box 52 (cells_Item c1)] } : St C) (KL_law17_found_5 m)
noncomputable def b_law17_found_l5 {R : Type} (m : Nat) (ret : Int → Option R) (k_l5 : Int → Int → Int → List Event → Item → Option R) (at_1 : Int) (n_7 : Int) (k_8 : Int) (l_0 : List Event) (c1 : Item) : Option R :=
 bif decide (k_8 < n_7) then
 bif decide (IntKind.i64.wrap (at_1 + k_8) ≥ (l_0.length : Int)) then
 ret (-1)
 else
 bif decide (0 ≤ IntKind.i64.wrap (at_1 + k_8)) then
 bif decide (IntKind.i64.wrap (at_1 + k_8) < (l_0.length : Int)) then
 bif (l_0.getD (IntKind.i64.wrap (at_1 + k_8)).toNat dflt_Event).Kind != 2 then
 ret (-1)
 else
 bif decide (0 ≤ IntKind.i64.wrap (at_1 + k_8)) then
 bif decide (IntKind.i64.wrap (at_1 + k_8) < (l_0.length : Int)) then
 bif decide (0 ≤ k_8) then
 bif decide (k_8 < (c1.Data.size : Int)) then
 bif (l_0.getD (IntKind.i64.wrap (at_1 + k_8)).toNat dflt_Event).Value != IntKind.i64.wrap (IntKind.i64.wrap (byteAt c1.Data k_8) - 48) then
 ret (-1)
 else
 bif decide (0 ≤ IntKind.i64.wrap (at_1 + k_8)) then
 bif decide (IntKind.i64.wrap (at_1 + k_8) < (l_0.length : Int)) then
 bif (l_0.getD (IntKind.i64.wrap (at_1 + k_8)).toNat dflt_Event).Fault != 0 then
 ret (-1)
 else
 bif decide (0 ≤ IntKind.i64.wrap (at_1 + k_8)) then
 bif decide (IntKind.i64.wrap (at_1 + k_8) < (l_0.length : Int)) then
 bif decide (0 ≤ IntKind.i64.wrap (at_1 + k_8)) then
 bif decide (IntKind.i64.wrap (at_1 + k_8) < (l_0.length : Int)) then
 bif decide ((l_0.getD (IntKind.i64.wrap (at_1 + k_8)).toNat dflt_Event).From ≥ (l_0.getD (IntKind.i64.wrap (at_1 + k_8)).toNat dflt_Event).To) then
 ret (-1)
 else
 k_l5 at_1 n_7 (IntKind.i64.wrap (k_8 + 1)) l_0 c1
 else
 none
 else
 none
 else
 none
 else
 none
 else
 none
 else
 none
 else
 none
 else
 none
 else
 none
 else
 none
 else
 none
 else
 none
 else
 bif c1.Fault == 0 then
 ret n_7
 else
 bif decide (IntKind.i64.wrap (at_1 + n_7) ≥ (l_0.length : Int)) then
 ret (-1)
 else
 bif decide (0 ≤ IntKind.i64.wrap (at_1 + n_7)) then
 bif decide (IntKind.i64.wrap (at_1 + n_7) < (l_0.length : Int)) then
 bif (l_0.getD (IntKind.i64.wrap (at_1 + n_7)).toNat dflt_Event).Kind != 2 then
 ret (-1)
 else
 bif decide (0 ≤ IntKind.i64.wrap (at_1 + n_7)) then
 bif decide (IntKind.i64.wrap (at_1 + n_7) < (l_0.length : Int)) then
 bif (l_0.getD (IntKind.i64.wrap (at_1 + n_7)).toNat dflt_Event).Value != 0 then
 ret (-1)
 else
 bif decide (0 ≤ IntKind.i64.wrap (at_1 + n_7)) then
 bif decide (IntKind.i64.wrap (at_1 + n_7) < (l_0.length : Int)) then
 bif (l_0.getD (IntKind.i64.wrap (at_1 + n_7)).toNat dflt_Event).Fault != 5 then
 ret (-1)
 else
 ret (IntKind.i64.wrap (n_7 + 1))
 else
 none
 else
 none
 else
 none
 else
 none
 else
 none
 else
 none
theorem L_law17_found_l5_step (m n : Nat) (at_1 : Int) (n_7 : Int) (k_8 : Int) (l_0 : List Event) (c1 : Item) : L_law17_found_l5 m (n + 1) at_1 n_7 k_8 l_0 c1 = b_law17_found_l5 m (fun x0 => some (w_law17_found x0)) (fun at_1 n_7 k_8 l_0 c1 => L_law17_found_l5 m n at_1 n_7 k_8 l_0 c1) at_1 n_7 k_8 l_0 c1 := by kernel_rfl
theorem b_law17_found_l5_map (m : Nat) {k_l5 : Int → Int → Int → List Event → Item → Option (List (RV C))} {q_l5 : Int → Int → Int → List Event → Item → Option (Int)} (h_l5 : ∀ at_1 n_7 k_8 l_0 c1, k_l5 at_1 n_7 k_8 l_0 c1 = (q_l5 at_1 n_7 k_8 l_0 c1).map w_law17_found) (at_1 : Int) (n_7 : Int) (k_8 : Int) (l_0 : List Event) (c1 : Item) : b_law17_found_l5 m (fun x0 => some (w_law17_found x0)) k_l5 at_1 n_7 k_8 l_0 c1 = (b_law17_found_l5 m (fun x0 => some x0) q_l5 at_1 n_7 k_8 l_0 c1).map w_law17_found := by
  simp only [b_law17_found_l5, cond_map, bind_map, map_none, map_some, h_l5]
noncomputable def law17_found_l5 (m : Nat) : Nat → Int → Int → Int → List Event → Item → Option (Int)
  | 0, _, _, _, _, _ => none
  | n + 1, at_1, n_7, k_8, l_0, c1 => b_law17_found_l5 m (fun x0 => some x0) (fun at_1 n_7 k_8 l_0 c1 => law17_found_l5 m n at_1 n_7 k_8 l_0 c1) at_1 n_7 k_8 l_0 c1
theorem L_law17_found_l5_eq (m : Nat) : ∀ (n : Nat) (at_1 : Int) (n_7 : Int) (k_8 : Int) (l_0 : List Event) (c1 : Item), L_law17_found_l5 m n at_1 n_7 k_8 l_0 c1 = (law17_found_l5 m n at_1 n_7 k_8 l_0 c1).map w_law17_found
  | 0, at_1, n_7, k_8, l_0, c1 => by kernel_rfl
  | n + 1, at_1, n_7, k_8, l_0, c1 => by
    rw [L_law17_found_l5_step]
    exact b_law17_found_l5_map m (fun at_1 n_7 k_8 l_0 c1 => L_law17_found_l5_eq m n at_1 n_7 k_8 l_0 c1) at_1 n_7 k_8 l_0 c1
noncomputable def b_law17_found {R : Type} (m : Nat) (ret : Int → Option R) (k_l5 : Int → Int → Int → List Event → Item → Option R) (l_0 : List Event) (at_1 : Int) (x_2 : Item) : Option R :=
 bif x_2.Fault == 5 then
 k_l5 at_1 x_2.Aux 0 l_0 x_2
 else
 k_l5 at_1 (x_2.Data.size : Int) 0 l_0 x_2
theorem law17_found_pre (m : Nat) (l_0 : List Event) (at_1 : Int) (x_2 : Item) : funK Try.prog Ψ0 keep m 1 26 [(dRow 29).e l_0, (dInt .i64).e at_1, (dS of_Item cells_Item of_Item_ok).e x_2] = b_law17_found m (fun x0 => some (w_law17_found x0)) (fun at_1 n_7 k_8 l_0 c1 => L_law17_found_l5 m m at_1 n_7 k_8 l_0 c1) l_0 at_1 x_2 := by kernel_rfl
theorem b_law17_found_map (m : Nat) {k_l5 : Int → Int → Int → List Event → Item → Option (List (RV C))} {q_l5 : Int → Int → Int → List Event → Item → Option (Int)} (h_l5 : ∀ at_1 n_7 k_8 l_0 c1, k_l5 at_1 n_7 k_8 l_0 c1 = (q_l5 at_1 n_7 k_8 l_0 c1).map w_law17_found) (l_0 : List Event) (at_1 : Int) (x_2 : Item) : b_law17_found m (fun x0 => some (w_law17_found x0)) k_l5 l_0 at_1 x_2 = (b_law17_found m (fun x0 => some x0) q_l5 l_0 at_1 x_2).map w_law17_found := by
  simp only [b_law17_found, cond_map, bind_map, map_none, map_some, h_l5]
noncomputable def law17_found (m : Nat) (l_0 : List Event) (at_1 : Int) (x_2 : Item) : Option (Int) := b_law17_found m (fun x0 => some x0) (fun at_1 n_7 k_8 l_0 c1 => law17_found_l5 m m at_1 n_7 k_8 l_0 c1) l_0 at_1 x_2
theorem law17_found_fun (m : Nat) (l_0 : List Event) (at_1 : Int) (x_2 : Item) : funK Try.prog Ψ0 keep m 1 26 [(dRow 29).e l_0, (dInt .i64).e at_1, (dS of_Item cells_Item of_Item_ok).e x_2] = (law17_found m l_0 at_1 x_2).map w_law17_found := by
  rw [law17_found_pre]
  exact b_law17_found_map m (fun at_1 n_7 k_8 l_0 c1 => L_law17_found_l5_eq m m at_1 n_7 k_8 l_0 c1) l_0 at_1 x_2
noncomputable def K_law17_found (m : Nat) : KnownF C := mkK (dCons (dRow 29) (dCons (dInt .i64) (dCons (dS of_Item cells_Item of_Item_ok) dNil))) (fun a => law17_found m a.1 a.2.1 a.2.2.1) w_law17_found
theorem K_law17_found_ok (m : Nat) : KnownAt C Try.prog 26 fun l => (K_law17_found m).run _ l some :=
  mkK_known good fit Ψ0_ok (keep := keep) (m := m) (d := 1) fun a => law17_found_fun m a.1 a.2.1 a.2.2.1
end Go.Abs.K
