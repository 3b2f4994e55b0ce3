/- Plain functions for the functions of the seat, printed by a program of this claim's own, with their proofs. -/
import Derived.Test.YtlpileejhdadaaaB
set_option linter.unusedVariables false
set_option linter.unusedSimpArgs false
set_option maxRecDepth 100000
namespace Go.Abs.K
open Go Go.Abs Go.Proofs
/-! ### signalbench/signalbenchlaw22.small -/
def w_law22_small (b : Bool) : List (RV C) := [dBool.e b]
noncomputable def Q_law22_small_4 (m : Nat) : St C → (Exit → St C → Option (List (RV C))) → Option (List (RV C)) := fun σ k => codeK Try.prog Ψ0 (callK Try.prog Ψ0 keep m 0) (keep 9) m (subC body9 [.r, .r, .l, .r, .b, .o]) σ k
noncomputable def KL_law22_small_4 (m : Nat) : Exit → St C → Option (List (RV C)) := contK Try.prog Ψ0 (callK Try.prog Ψ0 keep m 0) (keep 9) m body9 [.r, .r, .l, .r, .b, .o] (leaveK Try.prog Try.f9.results.toList (finK Try.prog Try.f9.resultTypes.toList))
noncomputable def L_law22_small_l4 (m n : Nat) (i_3 : Int) (l_0 : List Event) : Option (List (RV C)) := iterK (Q_law22_small_4 m) (St.norm (keep 9 4)) n ({ T := [.fl (.one (.sl 0)), .dead, .dead, .fl (.one (.int .i64 i_3))] ++ List.replicate 16 .dead, F := [[]], H := [.row 35 false l_0] } : St C) (KL_law22_small_4 m)
noncomputable def b_law22_small_l4 {R : Type} (m : Nat) (ret : Bool → Option R) (k_l4 : Int → List Event → Option R) (i_3 : Int) (l_0 : List Event) : Option R :=
 bif decide (i_3 < (l_0.length : Int)) then
 bif decide (0 ≤ i_3) then
 bif decide (i_3 < (l_0.length : Int)) then
 bif decide (((l_0.getD i_3.toNat dflt_Event).Data.size : Int) > 20) then
 ret false
 else
 k_l4 (IntKind.i64.wrap (i_3 + 1)) l_0
 else
 none
 else
 none
 else
 ret true
theorem L_law22_small_l4_step (m n : Nat) (i_3 : Int) (l_0 : List Event) : L_law22_small_l4 m (n + 1) i_3 l_0 = b_law22_small_l4 m (fun x0 => some (w_law22_small x0)) (fun i_3 l_0 => L_law22_small_l4 m n i_3 l_0) i_3 l_0 := by kernel_rfl
theorem b_law22_small_l4_map (m : Nat) {k_l4 : Int → List Event → Option (List (RV C))} {q_l4 : Int → List Event → Option (Bool)} (h_l4 : ∀ i_3 l_0, k_l4 i_3 l_0 = (q_l4 i_3 l_0).map w_law22_small) (i_3 : Int) (l_0 : List Event) : b_law22_small_l4 m (fun x0 => some (w_law22_small x0)) k_l4 i_3 l_0 = (b_law22_small_l4 m (fun x0 => some x0) q_l4 i_3 l_0).map w_law22_small := by
  simp only [b_law22_small_l4, cond_map, bind_map, map_none, map_some, h_l4]
noncomputable def law22_small_l4 (m : Nat) : Nat → Int → List Event → Option (Bool)
  | 0, _, _ => none
  | n + 1, i_3, l_0 => b_law22_small_l4 m (fun x0 => some x0) (fun i_3 l_0 => law22_small_l4 m n i_3 l_0) i_3 l_0
theorem L_law22_small_l4_eq (m : Nat) : ∀ (n : Nat) (i_3 : Int) (l_0 : List Event), L_law22_small_l4 m n i_3 l_0 = (law22_small_l4 m n i_3 l_0).map w_law22_small
  | 0, i_3, l_0 => by kernel_rfl
  | n + 1, i_3, l_0 => by
    rw [L_law22_small_l4_step]
    exact b_law22_small_l4_map m (fun i_3 l_0 => L_law22_small_l4_eq m n i_3 l_0) i_3 l_0
noncomputable def b_law22_small {R : Type} (m : Nat) (ret : Bool → Option R) (k_l4 : Int → List Event → Option R) (l_0 : List Event) : Option R :=
 bif decide ((l_0.length : Int) > 60) then
 ret false
 else
 k_l4 0 l_0
theorem law22_small_pre (m : Nat) (l_0 : List Event) : funK Try.prog Ψ0 keep m 1 9 [(dRow 35).e l_0] = b_law22_small m (fun x0 => some (w_law22_small x0)) (fun i_3 l_0 => L_law22_small_l4 m m i_3 l_0) l_0 := by kernel_rfl
theorem b_law22_small_map (m : Nat) {k_l4 : Int → List Event → Option (List (RV C))} {q_l4 : Int → List Event → Option (Bool)} (h_l4 : ∀ i_3 l_0, k_l4 i_3 l_0 = (q_l4 i_3 l_0).map w_law22_small) (l_0 : List Event) : b_law22_small m (fun x0 => some (w_law22_small x0)) k_l4 l_0 = (b_law22_small m (fun x0 => some x0) q_l4 l_0).map w_law22_small := by
  simp only [b_law22_small, cond_map, bind_map, map_none, map_some, h_l4]
noncomputable def law22_small (m : Nat) (l_0 : List Event) : Option (Bool) := b_law22_small m (fun x0 => some x0) (fun i_3 l_0 => law22_small_l4 m m i_3 l_0) l_0
theorem law22_small_fun (m : Nat) (l_0 : List Event) : funK Try.prog Ψ0 keep m 1 9 [(dRow 35).e l_0] = (law22_small m l_0).map w_law22_small := by
  rw [law22_small_pre]
  exact b_law22_small_map m (fun i_3 l_0 => L_law22_small_l4_eq m m i_3 l_0) l_0
noncomputable def K_law22_small (m : Nat) : KnownF C := mkK (dCons (dRow 35) dNil) (fun a => law22_small m a.1) w_law22_small
theorem K_law22_small_ok (m : Nat) : KnownAt C Try.prog 9 fun l => (K_law22_small m).run _ l some :=
  mkK_known good fit Ψ0_ok (keep := keep) (m := m) (d := 1) fun a => law22_small_fun m a.1
/-! ### signalbench/ratio.size -/
def w_ratio_size (b : Int) : List (RV C) := [(dInt .u64).e b]
noncomputable def b_ratio_size {R : Type} (m : Nat) (ret : Int → Option R) (n_0 : Int) : Option R :=
 bif decide (n_0 < 0) then
 ret (IntKind.u64.wrap (IntKind.u64.wrap (IntKind.i64.wrap (0 - IntKind.i64.wrap (n_0 + 1))) + 1))
 else
 ret (IntKind.u64.wrap n_0)
theorem ratio_size_pre (m : Nat) (n_0 : Int) : funK Try.prog Ψ0 keep m 1 56 [(dInt .i64).e n_0] = b_ratio_size m (fun x0 => some (w_ratio_size x0)) n_0 := by kernel_rfl
theorem b_ratio_size_map (m : Nat) (n_0 : Int) : b_ratio_size m (fun x0 => some (w_ratio_size x0)) n_0 = (b_ratio_size m (fun x0 => some x0) n_0).map w_ratio_size := by
  simp only [b_ratio_size, cond_map, bind_map, map_none, map_some]
noncomputable def ratio_size (m : Nat) (n_0 : Int) : Option (Int) := b_ratio_size m (fun x0 => some x0) n_0
theorem ratio_size_fun (m : Nat) (n_0 : Int) : funK Try.prog Ψ0 keep m 1 56 [(dInt .i64).e n_0] = (ratio_size m n_0).map w_ratio_size := by
  rw [ratio_size_pre]
  exact b_ratio_size_map m n_0
noncomputable def K_ratio_size (m : Nat) : KnownF C := mkK (dCons (dInt .i64) dNil) (fun a => ratio_size m a.1) w_ratio_size
theorem K_ratio_size_ok (m : Nat) : KnownAt C Try.prog 56 fun l => (K_ratio_size m).run _ l some :=
  mkK_known good fit Ψ0_ok (keep := keep) (m := m) (d := 1) fun a => ratio_size_fun m a.1
/-! ### signalbench/ratio.common -/
def w_ratio_common (b : Int) : List (RV C) := [(dInt .u64).e b]
noncomputable def Q_ratio_common_1 (m : Nat) : St C → (Exit → St C → Option (List (RV C))) → Option (List (RV C)) := fun σ k => codeK Try.prog Ψ0 (callK Try.prog Ψ0 keep m 0) (keep 55) m (subC body55 [.r, .l, .b, .o]) σ k
noncomputable def KL_ratio_common_1 (m : Nat) : Exit → St C → Option (List (RV C)) := contK Try.prog Ψ0 (callK Try.prog Ψ0 keep m 0) (keep 55) m body55 [.r, .l, .b, .o] (leaveK Try.prog Try.f55.results.toList (finK Try.prog Try.f55.resultTypes.toList))
noncomputable def L_ratio_common_l1 (m n : Nat) (a_0 : Int) (b_1 : Int) : Option (List (RV C)) := iterK (Q_ratio_common_1 m) (St.norm (keep 55 1)) n ({ T := [.fl (.one (.int .u64 a_0)), .fl (.one (.int .u64 b_1))] ++ List.replicate 10 .dead, F := [[]], H := [] } : St C) (KL_ratio_common_1 m)
noncomputable def b_ratio_common_l1 {R : Type} (m : Nat) (ret : Int → Option R) (k_l1 : Int → Int → Option R) (a_0 : Int) (b_1 : Int) : Option R :=
 bif b_1 != 0 then
 bif decide (b_1 = 0) then
 none
 else
 k_l1 b_1 (a_0.tmod b_1)
 else
 ret a_0
theorem L_ratio_common_l1_step (m n : Nat) (a_0 : Int) (b_1 : Int) : L_ratio_common_l1 m (n + 1) a_0 b_1 = b_ratio_common_l1 m (fun x0 => some (w_ratio_common x0)) (fun a_0 b_1 => L_ratio_common_l1 m n a_0 b_1) a_0 b_1 := by kernel_rfl
theorem b_ratio_common_l1_map (m : Nat) {k_l1 : Int → Int → Option (List (RV C))} {q_l1 : Int → Int → Option (Int)} (h_l1 : ∀ a_0 b_1, k_l1 a_0 b_1 = (q_l1 a_0 b_1).map w_ratio_common) (a_0 : Int) (b_1 : Int) : b_ratio_common_l1 m (fun x0 => some (w_ratio_common x0)) k_l1 a_0 b_1 = (b_ratio_common_l1 m (fun x0 => some x0) q_l1 a_0 b_1).map w_ratio_common := by
  simp only [b_ratio_common_l1, cond_map, bind_map, map_none, map_some, h_l1]
noncomputable def ratio_common_l1 (m : Nat) : Nat → Int → Int → Option (Int)
  | 0, _, _ => none
  | n + 1, a_0, b_1 => b_ratio_common_l1 m (fun x0 => some x0) (fun a_0 b_1 => ratio_common_l1 m n a_0 b_1) a_0 b_1
theorem L_ratio_common_l1_eq (m : Nat) : ∀ (n : Nat) (a_0 : Int) (b_1 : Int), L_ratio_common_l1 m n a_0 b_1 = (ratio_common_l1 m n a_0 b_1).map w_ratio_common
  | 0, a_0, b_1 => by kernel_rfl
  | n + 1, a_0, b_1 => by
    rw [L_ratio_common_l1_step]
    exact b_ratio_common_l1_map m (fun a_0 b_1 => L_ratio_common_l1_eq m n a_0 b_1) a_0 b_1
noncomputable def b_ratio_common {R : Type} (m : Nat) (ret : Int → Option R) (k_l1 : Int → Int → Option R) (a_0 : Int) (b_1 : Int) : Option R :=
 k_l1 a_0 b_1
theorem ratio_common_pre (m : Nat) (a_0 : Int) (b_1 : Int) : funK Try.prog Ψ0 keep m 1 55 [(dInt .u64).e a_0, (dInt .u64).e b_1] = b_ratio_common m (fun x0 => some (w_ratio_common x0)) (fun a_0 b_1 => L_ratio_common_l1 m m a_0 b_1) a_0 b_1 := by kernel_rfl
theorem b_ratio_common_map (m : Nat) {k_l1 : Int → Int → Option (List (RV C))} {q_l1 : Int → Int → Option (Int)} (h_l1 : ∀ a_0 b_1, k_l1 a_0 b_1 = (q_l1 a_0 b_1).map w_ratio_common) (a_0 : Int) (b_1 : Int) : b_ratio_common m (fun x0 => some (w_ratio_common x0)) k_l1 a_0 b_1 = (b_ratio_common m (fun x0 => some x0) q_l1 a_0 b_1).map w_ratio_common := by
  simp only [b_ratio_common, cond_map, bind_map, map_none, map_some, h_l1]
noncomputable def ratio_common (m : Nat) (a_0 : Int) (b_1 : Int) : Option (Int) := b_ratio_common m (fun x0 => some x0) (fun a_0 b_1 => ratio_common_l1 m m a_0 b_1) a_0 b_1
theorem ratio_common_fun (m : Nat) (a_0 : Int) (b_1 : Int) : funK Try.prog Ψ0 keep m 1 55 [(dInt .u64).e a_0, (dInt .u64).e b_1] = (ratio_common m a_0 b_1).map w_ratio_common := by
  rw [ratio_common_pre]
  exact b_ratio_common_map m (fun a_0 b_1 => L_ratio_common_l1_eq m m a_0 b_1) a_0 b_1
noncomputable def K_ratio_common (m : Nat) : KnownF C := mkK (dCons (dInt .u64) (dCons (dInt .u64) dNil)) (fun a => ratio_common m a.1 a.2.1) w_ratio_common
theorem K_ratio_common_ok (m : Nat) : KnownAt C Try.prog 55 fun l => (K_ratio_common m).run _ l some :=
  mkK_known good fit Ψ0_ok (keep := keep) (m := m) (d := 1) fun a => ratio_common_fun m a.1 a.2.1
/-! ### signalbench/ratio.Valid -/
noncomputable def Ψ_ratio_Valid (m : Nat) : Known C := fun f => match f with
  | 56 => some (K_ratio_size m)
  | 55 => some (K_ratio_common m)
  | _ => none
theorem Ψ_ratio_Valid_ok (m : Nat) : KnownOk C Try.prog (Ψ_ratio_Valid m) := by
  intro f φ h
  unfold Ψ_ratio_Valid at h
  split at h
  · injection h with h; subst h; exact K_ratio_size_ok m
  · injection h with h; subst h; exact K_ratio_common_ok m
  · cases h
def w_ratio_Valid (b : Bool) : List (RV C) := [dBool.e b]
noncomputable def b_ratio_Valid {R : Type} (m : Nat) (ret : Bool → Option R) (r_0 : Ratio) : Option R :=
 bif decide (r_0.Den < 1) then
 ret false
 else
 bif decide (r_0.Den > 1073741824) then
 ret false
 else
 bif decide (r_0.Num < -1073741824) then
 ret false
 else
 bif decide (r_0.Num > 1073741824) then
 ret false
 else
 (ratio_size m r_0.Num).bind fun r0 =>
 (ratio_size m r_0.Den).bind fun r1 =>
 (ratio_common m r0 r1).bind fun r2 =>
 ret (r2 == 1)
theorem ratio_Valid_pre (m : Nat) (r_0 : Ratio) : funK Try.prog (Ψ_ratio_Valid m) keep m 1 38 [(dS of_Ratio cells_Ratio of_Ratio_ok).e r_0] = b_ratio_Valid m (fun x0 => some (w_ratio_Valid x0)) r_0 := by kernel_rfl
theorem b_ratio_Valid_map (m : Nat) (r_0 : Ratio) : b_ratio_Valid m (fun x0 => some (w_ratio_Valid x0)) r_0 = (b_ratio_Valid m (fun x0 => some x0) r_0).map w_ratio_Valid := by
  simp only [b_ratio_Valid, cond_map, bind_map, map_none, map_some]
noncomputable def ratio_Valid (m : Nat) (r_0 : Ratio) : Option (Bool) := b_ratio_Valid m (fun x0 => some x0) r_0
theorem ratio_Valid_fun (m : Nat) (r_0 : Ratio) : funK Try.prog (Ψ_ratio_Valid m) keep m 1 38 [(dS of_Ratio cells_Ratio of_Ratio_ok).e r_0] = (ratio_Valid m r_0).map w_ratio_Valid := by
  rw [ratio_Valid_pre]
  exact b_ratio_Valid_map m r_0
noncomputable def K_ratio_Valid (m : Nat) : KnownF C := mkK (dCons (dS of_Ratio cells_Ratio of_Ratio_ok) dNil) (fun a => ratio_Valid m a.1) w_ratio_Valid
theorem K_ratio_Valid_ok (m : Nat) : KnownAt C Try.prog 38 fun l => (K_ratio_Valid m).run _ l some :=
  mkK_known good fit (Ψ_ratio_Valid_ok m) (keep := keep) (m := m) (d := 1) fun a => ratio_Valid_fun m a.1
/-! ### signalbench/ratio.both -/
noncomputable def Ψ_ratio_both (m : Nat) : Known C := fun f => match f with
  | 38 => some (K_ratio_Valid m)
  | _ => none
theorem Ψ_ratio_both_ok (m : Nat) : KnownOk C Try.prog (Ψ_ratio_both m) := by
  intro f φ h
  unfold Ψ_ratio_both at h
  split at h
  · injection h with h; subst h; exact K_ratio_Valid_ok m
  · cases h
def w_ratio_both (b : Bool) : List (RV C) := [dBool.e b]
noncomputable def b_ratio_both {R : Type} (m : Nat) (ret : Bool → Option R) (a_0 : Ratio) (b_1 : Ratio) : Option R :=
 (ratio_Valid m a_0).bind fun r0 =>
 bif r0 then
 ((ratio_Valid m b_1).bind fun r1 =>
 ret r1)
 else
 ret false
theorem ratio_both_pre (m : Nat) (a_0 : Ratio) (b_1 : Ratio) : funK Try.prog (Ψ_ratio_both m) keep m 1 57 [(dS of_Ratio cells_Ratio of_Ratio_ok).e a_0, (dS of_Ratio cells_Ratio of_Ratio_ok).e b_1] = b_ratio_both m (fun x0 => some (w_ratio_both x0)) a_0 b_1 := by kernel_rfl
theorem b_ratio_both_map (m : Nat) (a_0 : Ratio) (b_1 : Ratio) : b_ratio_both m (fun x0 => some (w_ratio_both x0)) a_0 b_1 = (b_ratio_both m (fun x0 => some x0) a_0 b_1).map w_ratio_both := by
  simp only [b_ratio_both, cond_map, bind_map, map_none, map_some]
noncomputable def ratio_both (m : Nat) (a_0 : Ratio) (b_1 : Ratio) : Option (Bool) := b_ratio_both m (fun x0 => some x0) a_0 b_1
theorem ratio_both_fun (m : Nat) (a_0 : Ratio) (b_1 : Ratio) : funK Try.prog (Ψ_ratio_both m) keep m 1 57 [(dS of_Ratio cells_Ratio of_Ratio_ok).e a_0, (dS of_Ratio cells_Ratio of_Ratio_ok).e b_1] = (ratio_both m a_0 b_1).map w_ratio_both := by
  rw [ratio_both_pre]
  exact b_ratio_both_map m a_0 b_1
noncomputable def K_ratio_both (m : Nat) : KnownF C := mkK (dCons (dS of_Ratio cells_Ratio of_Ratio_ok) (dCons (dS of_Ratio cells_Ratio of_Ratio_ok) dNil)) (fun a => ratio_both m a.1 a.2.1) w_ratio_both
theorem K_ratio_both_ok (m : Nat) : KnownAt C Try.prog 57 fun l => (K_ratio_both m).run _ l some :=
  mkK_known good fit (Ψ_ratio_both_ok m) (keep := keep) (m := m) (d := 1) fun a => ratio_both_fun m a.1 a.2.1
/-! ### signalbench/ratio.Cmp -/
noncomputable def Ψ_ratio_Cmp (m : Nat) : Known C := fun f => match f with
  | 57 => some (K_ratio_both m)
  | _ => none
theorem Ψ_ratio_Cmp_ok (m : Nat) : KnownOk C Try.prog (Ψ_ratio_Cmp m) := by
  intro f φ h
  unfold Ψ_ratio_Cmp at h
  split at h
  · injection h with h; subst h; exact K_ratio_both_ok m
  · cases h
def w_ratio_Cmp (b : Int) : List (RV C) := [(dInt .i64).e b]
noncomputable def b_ratio_Cmp {R : Type} (m : Nat) (ret : Int → Option R) (a_0 : Ratio) (b_1 : Ratio) : Option R :=
 (ratio_both m a_0 b_1).bind fun r0 =>
 bif !r0 then
 ret 0
 else
 bif a_0.Num == b_1.Num && (a_0.Den == b_1.Den && true) then
 ret 0
 else
 bif decide (IntKind.i64.wrap (a_0.Num * b_1.Den) < IntKind.i64.wrap (b_1.Num * a_0.Den)) then
 ret (-1)
 else
 ret 1
theorem ratio_Cmp_pre (m : Nat) (a_0 : Ratio) (b_1 : Ratio) : funK Try.prog (Ψ_ratio_Cmp m) keep m 1 39 [(dS of_Ratio cells_Ratio of_Ratio_ok).e a_0, (dS of_Ratio cells_Ratio of_Ratio_ok).e b_1] = b_ratio_Cmp m (fun x0 => some (w_ratio_Cmp x0)) a_0 b_1 := by kernel_rfl
theorem b_ratio_Cmp_map (m : Nat) (a_0 : Ratio) (b_1 : Ratio) : b_ratio_Cmp m (fun x0 => some (w_ratio_Cmp x0)) a_0 b_1 = (b_ratio_Cmp m (fun x0 => some x0) a_0 b_1).map w_ratio_Cmp := by
  simp only [b_ratio_Cmp, cond_map, bind_map, map_none, map_some]
noncomputable def ratio_Cmp (m : Nat) (a_0 : Ratio) (b_1 : Ratio) : Option (Int) := b_ratio_Cmp m (fun x0 => some x0) a_0 b_1
theorem ratio_Cmp_fun (m : Nat) (a_0 : Ratio) (b_1 : Ratio) : funK Try.prog (Ψ_ratio_Cmp m) keep m 1 39 [(dS of_Ratio cells_Ratio of_Ratio_ok).e a_0, (dS of_Ratio cells_Ratio of_Ratio_ok).e b_1] = (ratio_Cmp m a_0 b_1).map w_ratio_Cmp := by
  rw [ratio_Cmp_pre]
  exact b_ratio_Cmp_map m a_0 b_1
noncomputable def K_ratio_Cmp (m : Nat) : KnownF C := mkK (dCons (dS of_Ratio cells_Ratio of_Ratio_ok) (dCons (dS of_Ratio cells_Ratio of_Ratio_ok) dNil)) (fun a => ratio_Cmp m a.1 a.2.1) w_ratio_Cmp
theorem K_ratio_Cmp_ok (m : Nat) : KnownAt C Try.prog 39 fun l => (K_ratio_Cmp m).run _ l some :=
  mkK_known good fit (Ψ_ratio_Cmp_ok m) (keep := keep) (m := m) (d := 1) fun a => ratio_Cmp_fun m a.1 a.2.1
/-! ### signalbench/uart.Check -/
noncomputable def Ψ_uart_Check (m : Nat) : Known C := fun f => match f with
  | 38 => some (K_ratio_Valid m)
  | 39 => some (K_ratio_Cmp m)
  | _ => none
theorem Ψ_uart_Check_ok (m : Nat) : KnownOk C Try.prog (Ψ_uart_Check m) := by
  intro f φ h
  unfold Ψ_uart_Check at h
  split at h
  · injection h with h; subst h; exact K_ratio_Valid_ok m
  · injection h with h; subst h; exact K_ratio_Cmp_ok m
  · cases h
def w_uart_Check (b : Int) : List (RV C) := [(dInt .i64).e b]
noncomputable def b_uart_Check {R : Type} (m : Nat) (ret : Int → Option R) (c_0 : Uart) : Option R :=
 (ratio_Valid m (Ratio.mk c_0.T_Num c_0.T_Den)).bind fun r0 =>
 bif !r0 then
 ret 1
 else
 (ratio_Cmp m (Ratio.mk c_0.T_Num c_0.T_Den) (Ratio.mk 4 1)).bind fun r1 =>
 bif decide (r1 ≥ 0) then
 ((ratio_Cmp m (Ratio.mk c_0.T_Num c_0.T_Den) (Ratio.mk 1048576 1)).bind fun r2 =>
 bif !decide (r2 ≤ 0) then
 ret 2
 else
 bif decide (c_0.Bits < 5) then
 ret 2
 else
 bif decide (c_0.Bits > 9) then
 ret 2
 else
 bif decide (c_0.Parity < 0) then
 ret 2
 else
 bif decide (c_0.Parity > 2) then
 ret 2
 else
 bif decide (c_0.Stop < 1) then
 ret 2
 else
 bif decide (c_0.Stop > 2) then
 ret 2
 else
 ret 0)
 else
 ret 2
theorem uart_Check_pre (m : Nat) (c_0 : Uart) : funK Try.prog (Ψ_uart_Check m) keep m 1 16 [(dS of_Uart cells_Uart of_Uart_ok).e c_0] = b_uart_Check m (fun x0 => some (w_uart_Check x0)) c_0 := by kernel_rfl
theorem b_uart_Check_map (m : Nat) (c_0 : Uart) : b_uart_Check m (fun x0 => some (w_uart_Check x0)) c_0 = (b_uart_Check m (fun x0 => some x0) c_0).map w_uart_Check := by
  simp only [b_uart_Check, cond_map, bind_map, map_none, map_some]
noncomputable def uart_Check (m : Nat) (c_0 : Uart) : Option (Int) := b_uart_Check m (fun x0 => some x0) c_0
theorem uart_Check_fun (m : Nat) (c_0 : Uart) : funK Try.prog (Ψ_uart_Check m) keep m 1 16 [(dS of_Uart cells_Uart of_Uart_ok).e c_0] = (uart_Check m c_0).map w_uart_Check := by
  rw [uart_Check_pre]
  exact b_uart_Check_map m c_0
noncomputable def K_uart_Check (m : Nat) : KnownF C := mkK (dCons (dS of_Uart cells_Uart of_Uart_ok) dNil) (fun a => uart_Check m a.1) w_uart_Check
theorem K_uart_Check_ok (m : Nat) : KnownAt C Try.prog 16 fun l => (K_uart_Check m).run _ l some :=
  mkK_known good fit (Ψ_uart_Check_ok m) (keep := keep) (m := m) (d := 1) fun a => uart_Check_fun m a.1
/-! ### signalbench/uart.size -/
def w_uart_size (b : Int) : List (RV C) := [(dInt .i64).e b]
noncomputable def b_uart_size {R : Type} (m : Nat) (ret : Int → Option R) (c_0 : Uart) : Option R :=
 bif c_0.Parity != 0 then
 ret (IntKind.i64.wrap (IntKind.i64.wrap (IntKind.i64.wrap (1 + c_0.Bits) + c_0.Stop) + 1))
 else
 ret (IntKind.i64.wrap (IntKind.i64.wrap (1 + c_0.Bits) + c_0.Stop))
theorem uart_size_pre (m : Nat) (c_0 : Uart) : funK Try.prog Ψ0 keep m 1 32 [(dS of_Uart cells_Uart of_Uart_ok).e c_0] = b_uart_size m (fun x0 => some (w_uart_size x0)) c_0 := by kernel_rfl
theorem b_uart_size_map (m : Nat) (c_0 : Uart) : b_uart_size m (fun x0 => some (w_uart_size x0)) c_0 = (b_uart_size m (fun x0 => some x0) c_0).map w_uart_size := by
  simp only [b_uart_size, cond_map, bind_map, map_none, map_some]
noncomputable def uart_size (m : Nat) (c_0 : Uart) : Option (Int) := b_uart_size m (fun x0 => some x0) c_0
theorem uart_size_fun (m : Nat) (c_0 : Uart) : funK Try.prog Ψ0 keep m 1 32 [(dS of_Uart cells_Uart of_Uart_ok).e c_0] = (uart_size m c_0).map w_uart_size := by
  rw [uart_size_pre]
  exact b_uart_size_map m c_0
noncomputable def K_uart_size (m : Nat) : KnownF C := mkK (dCons (dS of_Uart cells_Uart of_Uart_ok) dNil) (fun a => uart_size m a.1) w_uart_size
theorem K_uart_size_ok (m : Nat) : KnownAt C Try.prog 32 fun l => (K_uart_size m).run _ l some :=
  mkK_known good fit Ψ0_ok (keep := keep) (m := m) (d := 1) fun a => uart_size_fun m a.1
/-! ### math/bits.OnesCount32 -/
def w_math_bits_OnesCount32 (b : Int) : List (RV C) := [(dInt .i64).e b]
noncomputable def b_math_bits_OnesCount32 {R : Type} (m : Nat) (ret : Int → Option R) (x_0 : Int) : Option R :=
 bif decide (0 ≤ x_0.fdiv 16777216) then
 bif decide (x_0.fdiv 16777216 < 256) then
 bif decide (IntKind.u32.wrap (((BitVec.ofInt 32 (x_0.fdiv 65536) &&& BitVec.ofInt 32 255).toNat : Int)) < 256) then
 bif decide (IntKind.u32.wrap (((BitVec.ofInt 32 (x_0.fdiv 256) &&& BitVec.ofInt 32 255).toNat : Int)) < 256) then
 bif decide (IntKind.u32.wrap (((BitVec.ofInt 32 x_0 &&& BitVec.ofInt 32 255).toNat : Int)) < 256) then
 ret (IntKind.i64.wrap (IntKind.u8.wrap (IntKind.u8.wrap (IntKind.u8.wrap (byteAt (bs [0, 1, 1, 2, 1, 2, 2, 3, 1, 2, 2, 3, 2, 3, 3, 4, 1, 2, 2, 3, 2, 3, 3, 4, 2, 3, 3, 4, 3, 4, 4, 5, 1, 2, 2, 3, 2, 3, 3, 4, 2, 3, 3, 4, 3, 4, 4, 5, 2, 3, 3, 4, 3, 4, 4, 5, 3, 4, 4, 5, 4, 5, 5, 6, 1, 2, 2, 3, 2, 3, 3, 4, 2, 3, 3, 4, 3, 4, 4, 5, 2, 3, 3, 4, 3, 4, 4, 5, 3, 4, 4, 5, 4, 5, 5, 6, 2, 3, 3, 4, 3, 4, 4, 5, 3, 4, 4, 5, 4, 5, 5, 6, 3, 4, 4, 5, 4, 5, 5, 6, 4, 5, 5, 6, 5, 6, 6, 7, 1, 2, 2, 3, 2, 3, 3, 4, 2, 3, 3, 4, 3, 4, 4, 5, 2, 3, 3, 4, 3, 4, 4, 5, 3, 4, 4, 5, 4, 5, 5, 6, 2, 3, 3, 4, 3, 4, 4, 5, 3, 4, 4, 5, 4, 5, 5, 6, 3, 4, 4, 5, 4, 5, 5, 6, 4, 5, 5, 6, 5, 6, 6, 7, 2, 3, 3, 4, 3, 4, 4, 5, 3, 4, 4, 5, 4, 5, 5, 6, 3, 4, 4, 5, 4, 5, 5, 6, 4, 5, 5, 6, 5, 6, 6, 7, 3, 4, 4, 5, 4, 5, 5, 6, 4, 5, 5, 6, 5, 6, 6, 7, 4, 5, 5, 6, 5, 6, 6, 7, 5, 6, 6, 7, 6, 7, 7, 8]) (x_0.fdiv 16777216) + byteAt (bs [0, 1, 1, 2, 1, 2, 2, 3, 1, 2, 2, 3, 2, 3, 3, 4, 1, 2, 2, 3, 2, 3, 3, 4, 2, 3, 3, 4, 3, 4, 4, 5, 1, 2, 2, 3, 2, 3, 3, 4, 2, 3, 3, 4, 3, 4, 4, 5, 2, 3, 3, 4, 3, 4, 4, 5, 3, 4, 4, 5, 4, 5, 5, 6, 1, 2, 2, 3, 2, 3, 3, 4, 2, 3, 3, 4, 3, 4, 4, 5, 2, 3, 3, 4, 3, 4, 4, 5, 3, 4, 4, 5, 4, 5, 5, 6, 2, 3, 3, 4, 3, 4, 4, 5, 3, 4, 4, 5, 4, 5, 5, 6, 3, 4, 4, 5, 4, 5, 5, 6, 4, 5, 5, 6, 5, 6, 6, 7, 1, 2, 2, 3, 2, 3, 3, 4, 2, 3, 3, 4, 3, 4, 4, 5, 2, 3, 3, 4, 3, 4, 4, 5, 3, 4, 4, 5, 4, 5, 5, 6, 2, 3, 3, 4, 3, 4, 4, 5, 3, 4, 4, 5, 4, 5, 5, 6, 3, 4, 4, 5, 4, 5, 5, 6, 4, 5, 5, 6, 5, 6, 6, 7, 2, 3, 3, 4, 3, 4, 4, 5, 3, 4, 4, 5, 4, 5, 5, 6, 3, 4, 4, 5, 4, 5, 5, 6, 4, 5, 5, 6, 5, 6, 6, 7, 3, 4, 4, 5, 4, 5, 5, 6, 4, 5, 5, 6, 5, 6, 6, 7, 4, 5, 5, 6, 5, 6, 6, 7, 5, 6, 6, 7, 6, 7, 7, 8]) (IntKind.u32.wrap (((BitVec.ofInt 32 (x_0.fdiv 65536) &&& BitVec.ofInt 32 255).toNat : Int)))) + byteAt (bs [0, 1, 1, 2, 1, 2, 2, 3, 1, 2, 2, 3, 2, 3, 3, 4, 1, 2, 2, 3, 2, 3, 3, 4, 2, 3, 3, 4, 3, 4, 4, 5, 1, 2, 2, 3, 2, 3, 3, 4, 2, 3, 3, 4, 3, 4, 4, 5, 2, 3, 3, 4, 3, 4, 4, 5, 3, 4, 4, 5, 4, 5, 5, 6, 1, 2, 2, 3, 2, 3, 3, 4, 2, 3, 3, 4, 3, 4, 4, 5, 2, 3, 3, 4, 3, 4, 4, 5, 3, 4, 4, 5, 4, 5, 5, 6, 2, 3, 3, 4, 3, 4, 4, 5, 3, 4, 4, 5, 4, 5, 5, 6, 3, 4, 4, 5, 4, 5, 5, 6, 4, 5, 5, 6, 5, 6, 6, 7, 1, 2, 2, 3, 2, 3, 3, 4, 2, 3, 3, 4, 3, 4, 4, 5, 2, 3, 3, 4, 3, 4, 4, 5, 3, 4, 4, 5, 4, 5, 5, 6, 2, 3, 3, 4, 3, 4, 4, 5, 3, 4, 4, 5, 4, 5, 5, 6, 3, 4, 4, 5, 4, 5, 5, 6, 4, 5, 5, 6, 5, 6, 6, 7, 2, 3, 3, 4, 3, 4, 4, 5, 3, 4, 4, 5, 4, 5, 5, 6, 3, 4, 4, 5, 4, 5, 5, 6, 4, 5, 5, 6, 5, 6, 6, 7, 3, 4, 4, 5, 4, 5, 5, 6, 4, 5, 5, 6, 5, 6, 6, 7, 4, 5, 5, 6, 5, 6, 6, 7, 5, 6, 6, 7, 6, 7, 7, 8]) (IntKind.u32.wrap (((BitVec.ofInt 32 (x_0.fdiv 256) &&& BitVec.ofInt 32 255).toNat : Int)))) + byteAt (bs [0, 1, 1, 2, 1, 2, 2, 3, 1, 2, 2, 3, 2, 3, 3, 4, 1, 2, 2, 3, 2, 3, 3, 4, 2, 3, 3, 4, 3, 4, 4, 5, 1, 2, 2, 3, 2, 3, 3, 4, 2, 3, 3, 4, 3, 4, 4, 5, 2, 3, 3, 4, 3, 4, 4, 5, 3, 4, 4, 5, 4, 5, 5, 6, 1, 2, 2, 3, 2, 3, 3, 4, 2, 3, 3, 4, 3, 4, 4, 5, 2, 3, 3, 4, 3, 4, 4, 5, 3, 4, 4, 5, 4, 5, 5, 6, 2, 3, 3, 4, 3, 4, 4, 5, 3, 4, 4, 5, 4, 5, 5, 6, 3, 4, 4, 5, 4, 5, 5, 6, 4, 5, 5, 6, 5, 6, 6, 7, 1, 2, 2, 3, 2, 3, 3, 4, 2, 3, 3, 4, 3, 4, 4, 5, 2, 3, 3, 4, 3, 4, 4, 5, 3, 4, 4, 5, 4, 5, 5, 6, 2, 3, 3, 4, 3, 4, 4, 5, 3, 4, 4, 5, 4, 5, 5, 6, 3, 4, 4, 5, 4, 5, 5, 6, 4, 5, 5, 6, 5, 6, 6, 7, 2, 3, 3, 4, 3, 4, 4, 5, 3, 4, 4, 5, 4, 5, 5, 6, 3, 4, 4, 5, 4, 5, 5, 6, 4, 5, 5, 6, 5, 6, 6, 7, 3, 4, 4, 5, 4, 5, 5, 6, 4, 5, 5, 6, 5, 6, 6, 7, 4, 5, 5, 6, 5, 6, 6, 7, 5, 6, 6, 7, 6, 7, 7, 8]) (IntKind.u32.wrap (((BitVec.ofInt 32 x_0 &&& BitVec.ofInt 32 255).toNat : Int))))))
 else
 none
 else
 none
 else
 none
 else
 none
 else
 none
theorem math_bits_OnesCount32_pre (m : Nat) (x_0 : Int) : funK Try.prog Ψ0 keep m 1 64 [(dInt .u32).e x_0] = b_math_bits_OnesCount32 m (fun x0 => some (w_math_bits_OnesCount32 x0)) x_0 := by kernel_rfl
theorem b_math_bits_OnesCount32_map (m : Nat) (x_0 : Int) : b_math_bits_OnesCount32 m (fun x0 => some (w_math_bits_OnesCount32 x0)) x_0 = (b_math_bits_OnesCount32 m (fun x0 => some x0) x_0).map w_math_bits_OnesCount32 := by
  simp only [b_math_bits_OnesCount32, cond_map, bind_map, map_none, map_some]
noncomputable def math_bits_OnesCount32 (m : Nat) (x_0 : Int) : Option (Int) := b_math_bits_OnesCount32 m (fun x0 => some x0) x_0
theorem math_bits_OnesCount32_fun (m : Nat) (x_0 : Int) : funK Try.prog Ψ0 keep m 1 64 [(dInt .u32).e x_0] = (math_bits_OnesCount32 m x_0).map w_math_bits_OnesCount32 := by
  rw [math_bits_OnesCount32_pre]
  exact b_math_bits_OnesCount32_map m x_0
noncomputable def K_math_bits_OnesCount32 (m : Nat) : KnownF C := mkK (dCons (dInt .u32) dNil) (fun a => math_bits_OnesCount32 m a.1) w_math_bits_OnesCount32
theorem K_math_bits_OnesCount32_ok (m : Nat) : KnownAt C Try.prog 64 fun l => (K_math_bits_OnesCount32 m).run _ l some :=
  mkK_known good fit Ψ0_ok (keep := keep) (m := m) (d := 1) fun a => math_bits_OnesCount32_fun m a.1
/-! ### math/bits.OnesCount64 -/
def w_math_bits_OnesCount64 (b : Int) : List (RV C) := [(dInt .i64).e b]
noncomputable def b_math_bits_OnesCount64 {R : Type} (m : Nat) (ret : Int → Option R) (x_0 : Int) : Option R :=
 ret (IntKind.i64.wrap (((BitVec.ofInt 64 (IntKind.i64.wrap (IntKind.u64.wrap (IntKind.u64.wrap (IntKind.u64.wrap (IntKind.u64.wrap (((BitVec.ofInt 64 (IntKind.u64.wrap ((IntKind.u64.wrap (IntKind.u64.wrap (((BitVec.ofInt 64 ((IntKind.u64.wrap (IntKind.u64.wrap (((BitVec.ofInt 64 (x_0.fdiv 2) &&& BitVec.ofInt 64 6148914691236517205).toNat : Int)) + IntKind.u64.wrap (((BitVec.ofInt 64 x_0 &&& BitVec.ofInt 64 6148914691236517205).toNat : Int)))).fdiv 4) &&& BitVec.ofInt 64 3689348814741910323).toNat : Int)) + IntKind.u64.wrap (((BitVec.ofInt 64 (IntKind.u64.wrap (IntKind.u64.wrap (((BitVec.ofInt 64 (x_0.fdiv 2) &&& BitVec.ofInt 64 6148914691236517205).toNat : Int)) + IntKind.u64.wrap (((BitVec.ofInt 64 x_0 &&& BitVec.ofInt 64 6148914691236517205).toNat : Int)))) &&& BitVec.ofInt 64 3689348814741910323).toNat : Int)))).fdiv 16 + IntKind.u64.wrap (IntKind.u64.wrap (((BitVec.ofInt 64 ((IntKind.u64.wrap (IntKind.u64.wrap (((BitVec.ofInt 64 (x_0.fdiv 2) &&& BitVec.ofInt 64 6148914691236517205).toNat : Int)) + IntKind.u64.wrap (((BitVec.ofInt 64 x_0 &&& BitVec.ofInt 64 6148914691236517205).toNat : Int)))).fdiv 4) &&& BitVec.ofInt 64 3689348814741910323).toNat : Int)) + IntKind.u64.wrap (((BitVec.ofInt 64 (IntKind.u64.wrap (IntKind.u64.wrap (((BitVec.ofInt 64 (x_0.fdiv 2) &&& BitVec.ofInt 64 6148914691236517205).toNat : Int)) + IntKind.u64.wrap (((BitVec.ofInt 64 x_0 &&& BitVec.ofInt 64 6148914691236517205).toNat : Int)))) &&& BitVec.ofInt 64 3689348814741910323).toNat : Int))))) &&& BitVec.ofInt 64 1085102592571150095).toNat : Int)) + (IntKind.u64.wrap (((BitVec.ofInt 64 (IntKind.u64.wrap ((IntKind.u64.wrap (IntKind.u64.wrap (((BitVec.ofInt 64 ((IntKind.u64.wrap (IntKind.u64.wrap (((BitVec.ofInt 64 (x_0.fdiv 2) &&& BitVec.ofInt 64 6148914691236517205).toNat : Int)) + IntKind.u64.wrap (((BitVec.ofInt 64 x_0 &&& BitVec.ofInt 64 6148914691236517205).toNat : Int)))).fdiv 4) &&& BitVec.ofInt 64 3689348814741910323).toNat : Int)) + IntKind.u64.wrap (((BitVec.ofInt 64 (IntKind.u64.wrap (IntKind.u64.wrap (((BitVec.ofInt 64 (x_0.fdiv 2) &&& BitVec.ofInt 64 6148914691236517205).toNat : Int)) + IntKind.u64.wrap (((BitVec.ofInt 64 x_0 &&& BitVec.ofInt 64 6148914691236517205).toNat : Int)))) &&& BitVec.ofInt 64 3689348814741910323).toNat : Int)))).fdiv 16 + IntKind.u64.wrap (IntKind.u64.wrap (((BitVec.ofInt 64 ((IntKind.u64.wrap (IntKind.u64.wrap (((BitVec.ofInt 64 (x_0.fdiv 2) &&& BitVec.ofInt 64 6148914691236517205).toNat : Int)) + IntKind.u64.wrap (((BitVec.ofInt 64 x_0 &&& BitVec.ofInt 64 6148914691236517205).toNat : Int)))).fdiv 4) &&& BitVec.ofInt 64 3689348814741910323).toNat : Int)) + IntKind.u64.wrap (((BitVec.ofInt 64 (IntKind.u64.wrap (IntKind.u64.wrap (((BitVec.ofInt 64 (x_0.fdiv 2) &&& BitVec.ofInt 64 6148914691236517205).toNat : Int)) + IntKind.u64.wrap (((BitVec.ofInt 64 x_0 &&& BitVec.ofInt 64 6148914691236517205).toNat : Int)))) &&& BitVec.ofInt 64 3689348814741910323).toNat : Int))))) &&& BitVec.ofInt 64 1085102592571150095).toNat : Int))).fdiv 256) + (IntKind.u64.wrap (IntKind.u64.wrap (((BitVec.ofInt 64 (IntKind.u64.wrap ((IntKind.u64.wrap (IntKind.u64.wrap (((BitVec.ofInt 64 ((IntKind.u64.wrap (IntKind.u64.wrap (((BitVec.ofInt 64 (x_0.fdiv 2) &&& BitVec.ofInt 64 6148914691236517205).toNat : Int)) + IntKind.u64.wrap (((BitVec.ofInt 64 x_0 &&& BitVec.ofInt 64 6148914691236517205).toNat : Int)))).fdiv 4) &&& BitVec.ofInt 64 3689348814741910323).toNat : Int)) + IntKind.u64.wrap (((BitVec.ofInt 64 (IntKind.u64.wrap (IntKind.u64.wrap (((BitVec.ofInt 64 (x_0.fdiv 2) &&& BitVec.ofInt 64 6148914691236517205).toNat : Int)) + IntKind.u64.wrap (((BitVec.ofInt 64 x_0 &&& BitVec.ofInt 64 6148914691236517205).toNat : Int)))) &&& BitVec.ofInt 64 3689348814741910323).toNat : Int)))).fdiv 16 + IntKind.u64.wrap (IntKind.u64.wrap (((BitVec.ofInt 64 ((IntKind.u64.wrap (IntKind.u64.wrap (((BitVec.ofInt 64 (x_0.fdiv 2) &&& BitVec.ofInt 64 6148914691236517205).toNat : Int)) + IntKind.u64.wrap (((BitVec.ofInt 64 x_0 &&& BitVec.ofInt 64 6148914691236517205).toNat : Int)))).fdiv 4) &&& BitVec.ofInt 64 3689348814741910323).toNat : Int)) + IntKind.u64.wrap (((BitVec.ofInt 64 (IntKind.u64.wrap (IntKind.u64.wrap (((BitVec.ofInt 64 (x_0.fdiv 2) &&& BitVec.ofInt 64 6148914691236517205).toNat : Int)) + IntKind.u64.wrap (((BitVec.ofInt 64 x_0 &&& BitVec.ofInt 64 6148914691236517205).toNat : Int)))) &&& BitVec.ofInt 64 3689348814741910323).toNat : Int))))) &&& BitVec.ofInt 64 1085102592571150095).toNat : Int)) + (IntKind.u64.wrap (((BitVec.ofInt 64 (IntKind.u64.wrap ((IntKind.u64.wrap (IntKind.u64.wrap (((BitVec.ofInt 64 ((IntKind.u64.wrap (IntKind.u64.wrap (((BitVec.ofInt 64 (x_0.fdiv 2) &&& BitVec.ofInt 64 6148914691236517205).toNat : Int)) + IntKind.u64.wrap (((BitVec.ofInt 64 x_0 &&& BitVec.ofInt 64 6148914691236517205).toNat : Int)))).fdiv 4) &&& BitVec.ofInt 64 3689348814741910323).toNat : Int)) + IntKind.u64.wrap (((BitVec.ofInt 64 (IntKind.u64.wrap (IntKind.u64.wrap (((BitVec.ofInt 64 (x_0.fdiv 2) &&& BitVec.ofInt 64 6148914691236517205).toNat : Int)) + IntKind.u64.wrap (((BitVec.ofInt 64 x_0 &&& BitVec.ofInt 64 6148914691236517205).toNat : Int)))) &&& BitVec.ofInt 64 3689348814741910323).toNat : Int)))).fdiv 16 + IntKind.u64.wrap (IntKind.u64.wrap (((BitVec.ofInt 64 ((IntKind.u64.wrap (IntKind.u64.wrap (((BitVec.ofInt 64 (x_0.fdiv 2) &&& BitVec.ofInt 64 6148914691236517205).toNat : Int)) + IntKind.u64.wrap (((BitVec.ofInt 64 x_0 &&& BitVec.ofInt 64 6148914691236517205).toNat : Int)))).fdiv 4) &&& BitVec.ofInt 64 3689348814741910323).toNat : Int)) + IntKind.u64.wrap (((BitVec.ofInt 64 (IntKind.u64.wrap (IntKind.u64.wrap (((BitVec.ofInt 64 (x_0.fdiv 2) &&& BitVec.ofInt 64 6148914691236517205).toNat : Int)) + IntKind.u64.wrap (((BitVec.ofInt 64 x_0 &&& BitVec.ofInt 64 6148914691236517205).toNat : Int)))) &&& BitVec.ofInt 64 3689348814741910323).toNat : Int))))) &&& BitVec.ofInt 64 1085102592571150095).toNat : Int))).fdiv 256)).fdiv 65536) + (IntKind.u64.wrap (IntKind.u64.wrap (IntKind.u64.wrap (((BitVec.ofInt 64 (IntKind.u64.wrap ((IntKind.u64.wrap (IntKind.u64.wrap (((BitVec.ofInt 64 ((IntKind.u64.wrap (IntKind.u64.wrap (((BitVec.ofInt 64 (x_0.fdiv 2) &&& BitVec.ofInt 64 6148914691236517205).toNat : Int)) + IntKind.u64.wrap (((BitVec.ofInt 64 x_0 &&& BitVec.ofInt 64 6148914691236517205).toNat : Int)))).fdiv 4) &&& BitVec.ofInt 64 3689348814741910323).toNat : Int)) + IntKind.u64.wrap (((BitVec.ofInt 64 (IntKind.u64.wrap (IntKind.u64.wrap (((BitVec.ofInt 64 (x_0.fdiv 2) &&& BitVec.ofInt 64 6148914691236517205).toNat : Int)) + IntKind.u64.wrap (((BitVec.ofInt 64 x_0 &&& BitVec.ofInt 64 6148914691236517205).toNat : Int)))) &&& BitVec.ofInt 64 3689348814741910323).toNat : Int)))).fdiv 16 + IntKind.u64.wrap (IntKind.u64.wrap (((BitVec.ofInt 64 ((IntKind.u64.wrap (IntKind.u64.wrap (((BitVec.ofInt 64 (x_0.fdiv 2) &&& BitVec.ofInt 64 6148914691236517205).toNat : Int)) + IntKind.u64.wrap (((BitVec.ofInt 64 x_0 &&& BitVec.ofInt 64 6148914691236517205).toNat : Int)))).fdiv 4) &&& BitVec.ofInt 64 3689348814741910323).toNat : Int)) + IntKind.u64.wrap (((BitVec.ofInt 64 (IntKind.u64.wrap (IntKind.u64.wrap (((BitVec.ofInt 64 (x_0.fdiv 2) &&& BitVec.ofInt 64 6148914691236517205).toNat : Int)) + IntKind.u64.wrap (((BitVec.ofInt 64 x_0 &&& BitVec.ofInt 64 6148914691236517205).toNat : Int)))) &&& BitVec.ofInt 64 3689348814741910323).toNat : Int))))) &&& BitVec.ofInt 64 1085102592571150095).toNat : Int)) + (IntKind.u64.wrap (((BitVec.ofInt 64 (IntKind.u64.wrap ((IntKind.u64.wrap (IntKind.u64.wrap (((BitVec.ofInt 64 ((IntKind.u64.wrap (IntKind.u64.wrap (((BitVec.ofInt 64 (x_0.fdiv 2) &&& BitVec.ofInt 64 6148914691236517205).toNat : Int)) + IntKind.u64.wrap (((BitVec.ofInt 64 x_0 &&& BitVec.ofInt 64 6148914691236517205).toNat : Int)))).fdiv 4) &&& BitVec.ofInt 64 3689348814741910323).toNat : Int)) + IntKind.u64.wrap (((BitVec.ofInt 64 (IntKind.u64.wrap (IntKind.u64.wrap (((BitVec.ofInt 64 (x_0.fdiv 2) &&& BitVec.ofInt 64 6148914691236517205).toNat : Int)) + IntKind.u64.wrap (((BitVec.ofInt 64 x_0 &&& BitVec.ofInt 64 6148914691236517205).toNat : Int)))) &&& BitVec.ofInt 64 3689348814741910323).toNat : Int)))).fdiv 16 + IntKind.u64.wrap (IntKind.u64.wrap (((BitVec.ofInt 64 ((IntKind.u64.wrap (IntKind.u64.wrap (((BitVec.ofInt 64 (x_0.fdiv 2) &&& BitVec.ofInt 64 6148914691236517205).toNat : Int)) + IntKind.u64.wrap (((BitVec.ofInt 64 x_0 &&& BitVec.ofInt 64 6148914691236517205).toNat : Int)))).fdiv 4) &&& BitVec.ofInt 64 3689348814741910323).toNat : Int)) + IntKind.u64.wrap (((BitVec.ofInt 64 (IntKind.u64.wrap (IntKind.u64.wrap (((BitVec.ofInt 64 (x_0.fdiv 2) &&& BitVec.ofInt 64 6148914691236517205).toNat : Int)) + IntKind.u64.wrap (((BitVec.ofInt 64 x_0 &&& BitVec.ofInt 64 6148914691236517205).toNat : Int)))) &&& BitVec.ofInt 64 3689348814741910323).toNat : Int))))) &&& BitVec.ofInt 64 1085102592571150095).toNat : Int))).fdiv 256) + (IntKind.u64.wrap (IntKind.u64.wrap (((BitVec.ofInt 64 (IntKind.u64.wrap ((IntKind.u64.wrap (IntKind.u64.wrap (((BitVec.ofInt 64 ((IntKind.u64.wrap (IntKind.u64.wrap (((BitVec.ofInt 64 (x_0.fdiv 2) &&& BitVec.ofInt 64 6148914691236517205).toNat : Int)) + IntKind.u64.wrap (((BitVec.ofInt 64 x_0 &&& BitVec.ofInt 64 6148914691236517205).toNat : Int)))).fdiv 4) &&& BitVec.ofInt 64 3689348814741910323).toNat : Int)) + IntKind.u64.wrap (((BitVec.ofInt 64 (IntKind.u64.wrap (IntKind.u64.wrap (((BitVec.ofInt 64 (x_0.fdiv 2) &&& BitVec.ofInt 64 6148914691236517205).toNat : Int)) + IntKind.u64.wrap (((BitVec.ofInt 64 x_0 &&& BitVec.ofInt 64 6148914691236517205).toNat : Int)))) &&& BitVec.ofInt 64 3689348814741910323).toNat : Int)))).fdiv 16 + IntKind.u64.wrap (IntKind.u64.wrap (((BitVec.ofInt 64 ((IntKind.u64.wrap (IntKind.u64.wrap (((BitVec.ofInt 64 (x_0.fdiv 2) &&& BitVec.ofInt 64 6148914691236517205).toNat : Int)) + IntKind.u64.wrap (((BitVec.ofInt 64 x_0 &&& BitVec.ofInt 64 6148914691236517205).toNat : Int)))).fdiv 4) &&& BitVec.ofInt 64 3689348814741910323).toNat : Int)) + IntKind.u64.wrap (((BitVec.ofInt 64 (IntKind.u64.wrap (IntKind.u64.wrap (((BitVec.ofInt 64 (x_0.fdiv 2) &&& BitVec.ofInt 64 6148914691236517205).toNat : Int)) + IntKind.u64.wrap (((BitVec.ofInt 64 x_0 &&& BitVec.ofInt 64 6148914691236517205).toNat : Int)))) &&& BitVec.ofInt 64 3689348814741910323).toNat : Int))))) &&& BitVec.ofInt 64 1085102592571150095).toNat : Int)) + (IntKind.u64.wrap (((BitVec.ofInt 64 (IntKind.u64.wrap ((IntKind.u64.wrap (IntKind.u64.wrap (((BitVec.ofInt 64 ((IntKind.u64.wrap (IntKind.u64.wrap (((BitVec.ofInt 64 (x_0.fdiv 2) &&& BitVec.ofInt 64 6148914691236517205).toNat : Int)) + IntKind.u64.wrap (((BitVec.ofInt 64 x_0 &&& BitVec.ofInt 64 6148914691236517205).toNat : Int)))).fdiv 4) &&& BitVec.ofInt 64 3689348814741910323).toNat : Int)) + IntKind.u64.wrap (((BitVec.ofInt 64 (IntKind.u64.wrap (IntKind.u64.wrap (((BitVec.ofInt 64 (x_0.fdiv 2) &&& BitVec.ofInt 64 6148914691236517205).toNat : Int)) + IntKind.u64.wrap (((BitVec.ofInt 64 x_0 &&& BitVec.ofInt 64 6148914691236517205).toNat : Int)))) &&& BitVec.ofInt 64 3689348814741910323).toNat : Int)))).fdiv 16 + IntKind.u64.wrap (IntKind.u64.wrap (((BitVec.ofInt 64 ((IntKind.u64.wrap (IntKind.u64.wrap (((BitVec.ofInt 64 (x_0.fdiv 2) &&& BitVec.ofInt 64 6148914691236517205).toNat : Int)) + IntKind.u64.wrap (((BitVec.ofInt 64 x_0 &&& BitVec.ofInt 64 6148914691236517205).toNat : Int)))).fdiv 4) &&& BitVec.ofInt 64 3689348814741910323).toNat : Int)) + IntKind.u64.wrap (((BitVec.ofInt 64 (IntKind.u64.wrap (IntKind.u64.wrap (((BitVec.ofInt 64 (x_0.fdiv 2) &&& BitVec.ofInt 64 6148914691236517205).toNat : Int)) + IntKind.u64.wrap (((BitVec.ofInt 64 x_0 &&& BitVec.ofInt 64 6148914691236517205).toNat : Int)))) &&& BitVec.ofInt 64 3689348814741910323).toNat : Int))))) &&& BitVec.ofInt 64 1085102592571150095).toNat : Int))).fdiv 256)).fdiv 65536)).fdiv 4294967296))) &&& BitVec.ofInt 64 127).toNat : Int)))
theorem math_bits_OnesCount64_pre (m : Nat) (x_0 : Int) : funK Try.prog Ψ0 keep m 1 65 [(dInt .u64).e x_0] = b_math_bits_OnesCount64 m (fun x0 => some (w_math_bits_OnesCount64 x0)) x_0 := by kernel_rfl
theorem b_math_bits_OnesCount64_map (m : Nat) (x_0 : Int) : b_math_bits_OnesCount64 m (fun x0 => some (w_math_bits_OnesCount64 x0)) x_0 = (b_math_bits_OnesCount64 m (fun x0 => some x0) x_0).map w_math_bits_OnesCount64 := by
  simp only [b_math_bits_OnesCount64, cond_map, bind_map, map_none, map_some]
noncomputable def math_bits_OnesCount64 (m : Nat) (x_0 : Int) : Option (Int) := b_math_bits_OnesCount64 m (fun x0 => some x0) x_0
theorem math_bits_OnesCount64_fun (m : Nat) (x_0 : Int) : funK Try.prog Ψ0 keep m 1 65 [(dInt .u64).e x_0] = (math_bits_OnesCount64 m x_0).map w_math_bits_OnesCount64 := by
  rw [math_bits_OnesCount64_pre]
  exact b_math_bits_OnesCount64_map m x_0
noncomputable def K_math_bits_OnesCount64 (m : Nat) : KnownF C := mkK (dCons (dInt .u64) dNil) (fun a => math_bits_OnesCount64 m a.1) w_math_bits_OnesCount64
theorem K_math_bits_OnesCount64_ok (m : Nat) : KnownAt C Try.prog 65 fun l => (K_math_bits_OnesCount64 m).run _ l some :=
  mkK_known good fit Ψ0_ok (keep := keep) (m := m) (d := 1) fun a => math_bits_OnesCount64_fun m a.1
/-! ### math/bits.OnesCount -/
noncomputable def Ψ_math_bits_OnesCount (m : Nat) : Known C := fun f => match f with
  | 64 => some (K_math_bits_OnesCount32 m)
  | 65 => some (K_math_bits_OnesCount64 m)
  | _ => none
theorem Ψ_math_bits_OnesCount_ok (m : Nat) : KnownOk C Try.prog (Ψ_math_bits_OnesCount m) := by
  intro f φ h
  unfold Ψ_math_bits_OnesCount at h
  split at h
  · injection h with h; subst h; exact K_math_bits_OnesCount32_ok m
  · injection h with h; subst h; exact K_math_bits_OnesCount64_ok m
  · cases h
def w_math_bits_OnesCount (b : Int) : List (RV C) := [(dInt .i64).e b]
noncomputable def b_math_bits_OnesCount {R : Type} (m : Nat) (ret : Int → Option R) (x_0 : Int) : Option R :=
 ret (IntKind.i64.wrap (((BitVec.ofInt 64 (IntKind.i64.wrap (IntKind.u64.wrap (IntKind.u64.wrap (IntKind.u64.wrap (IntKind.u64.wrap (((BitVec.ofInt 64 (IntKind.u64.wrap ((IntKind.u64.wrap (IntKind.u64.wrap (((BitVec.ofInt 64 ((IntKind.u64.wrap (IntKind.u64.wrap (((BitVec.ofInt 64 (x_0.fdiv 2) &&& BitVec.ofInt 64 6148914691236517205).toNat : Int)) + IntKind.u64.wrap (((BitVec.ofInt 64 x_0 &&& BitVec.ofInt 64 6148914691236517205).toNat : Int)))).fdiv 4) &&& BitVec.ofInt 64 3689348814741910323).toNat : Int)) + IntKind.u64.wrap (((BitVec.ofInt 64 (IntKind.u64.wrap (IntKind.u64.wrap (((BitVec.ofInt 64 (x_0.fdiv 2) &&& BitVec.ofInt 64 6148914691236517205).toNat : Int)) + IntKind.u64.wrap (((BitVec.ofInt 64 x_0 &&& BitVec.ofInt 64 6148914691236517205).toNat : Int)))) &&& BitVec.ofInt 64 3689348814741910323).toNat : Int)))).fdiv 16 + IntKind.u64.wrap (IntKind.u64.wrap (((BitVec.ofInt 64 ((IntKind.u64.wrap (IntKind.u64.wrap (((BitVec.ofInt 64 (x_0.fdiv 2) &&& BitVec.ofInt 64 6148914691236517205).toNat : Int)) + IntKind.u64.wrap (((BitVec.ofInt 64 x_0 &&& BitVec.ofInt 64 6148914691236517205).toNat : Int)))).fdiv 4) &&& BitVec.ofInt 64 3689348814741910323).toNat : Int)) + IntKind.u64.wrap (((BitVec.ofInt 64 (IntKind.u64.wrap (IntKind.u64.wrap (((BitVec.ofInt 64 (x_0.fdiv 2) &&& BitVec.ofInt 64 6148914691236517205).toNat : Int)) + IntKind.u64.wrap (((BitVec.ofInt 64 x_0 &&& BitVec.ofInt 64 6148914691236517205).toNat : Int)))) &&& BitVec.ofInt 64 3689348814741910323).toNat : Int))))) &&& BitVec.ofInt 64 1085102592571150095).toNat : Int)) + (IntKind.u64.wrap (((BitVec.ofInt 64 (IntKind.u64.wrap ((IntKind.u64.wrap (IntKind.u64.wrap (((BitVec.ofInt 64 ((IntKind.u64.wrap (IntKind.u64.wrap (((BitVec.ofInt 64 (x_0.fdiv 2) &&& BitVec.ofInt 64 6148914691236517205).toNat : Int)) + IntKind.u64.wrap (((BitVec.ofInt 64 x_0 &&& BitVec.ofInt 64 6148914691236517205).toNat : Int)))).fdiv 4) &&& BitVec.ofInt 64 3689348814741910323).toNat : Int)) + IntKind.u64.wrap (((BitVec.ofInt 64 (IntKind.u64.wrap (IntKind.u64.wrap (((BitVec.ofInt 64 (x_0.fdiv 2) &&& BitVec.ofInt 64 6148914691236517205).toNat : Int)) + IntKind.u64.wrap (((BitVec.ofInt 64 x_0 &&& BitVec.ofInt 64 6148914691236517205).toNat : Int)))) &&& BitVec.ofInt 64 3689348814741910323).toNat : Int)))).fdiv 16 + IntKind.u64.wrap (IntKind.u64.wrap (((BitVec.ofInt 64 ((IntKind.u64.wrap (IntKind.u64.wrap (((BitVec.ofInt 64 (x_0.fdiv 2) &&& BitVec.ofInt 64 6148914691236517205).toNat : Int)) + IntKind.u64.wrap (((BitVec.ofInt 64 x_0 &&& BitVec.ofInt 64 6148914691236517205).toNat : Int)))).fdiv 4) &&& BitVec.ofInt 64 3689348814741910323).toNat : Int)) + IntKind.u64.wrap (((BitVec.ofInt 64 (IntKind.u64.wrap (IntKind.u64.wrap (((BitVec.ofInt 64 (x_0.fdiv 2) &&& BitVec.ofInt 64 6148914691236517205).toNat : Int)) + IntKind.u64.wrap (((BitVec.ofInt 64 x_0 &&& BitVec.ofInt 64 6148914691236517205).toNat : Int)))) &&& BitVec.ofInt 64 3689348814741910323).toNat : Int))))) &&& BitVec.ofInt 64 1085102592571150095).toNat : Int))).fdiv 256) + (IntKind.u64.wrap (IntKind.u64.wrap (((BitVec.ofInt 64 (IntKind.u64.wrap ((IntKind.u64.wrap (IntKind.u64.wrap (((BitVec.ofInt 64 ((IntKind.u64.wrap (IntKind.u64.wrap (((BitVec.ofInt 64 (x_0.fdiv 2) &&& BitVec.ofInt 64 6148914691236517205).toNat : Int)) + IntKind.u64.wrap (((BitVec.ofInt 64 x_0 &&& BitVec.ofInt 64 6148914691236517205).toNat : Int)))).fdiv 4) &&& BitVec.ofInt 64 3689348814741910323).toNat : Int)) + IntKind.u64.wrap (((BitVec.ofInt 64 (IntKind.u64.wrap (IntKind.u64.wrap (((BitVec.ofInt 64 (x_0.fdiv 2) &&& BitVec.ofInt 64 6148914691236517205).toNat : Int)) + IntKind.u64.wrap (((BitVec.ofInt 64 x_0 &&& BitVec.ofInt 64 6148914691236517205).toNat : Int)))) &&& BitVec.ofInt 64 3689348814741910323).toNat : Int)))).fdiv 16 + IntKind.u64.wrap (IntKind.u64.wrap (((BitVec.ofInt 64 ((IntKind.u64.wrap (IntKind.u64.wrap (((BitVec.ofInt 64 (x_0.fdiv 2) &&& BitVec.ofInt 64 6148914691236517205).toNat : Int)) + IntKind.u64.wrap (((BitVec.ofInt 64 x_0 &&& BitVec.ofInt 64 6148914691236517205).toNat : Int)))).fdiv 4) &&& BitVec.ofInt 64 3689348814741910323).toNat : Int)) + IntKind.u64.wrap (((BitVec.ofInt 64 (IntKind.u64.wrap (IntKind.u64.wrap (((BitVec.ofInt 64 (x_0.fdiv 2) &&& BitVec.ofInt 64 6148914691236517205).toNat : Int)) + IntKind.u64.wrap (((BitVec.ofInt 64 x_0 &&& BitVec.ofInt 64 6148914691236517205).toNat : Int)))) &&& BitVec.ofInt 64 3689348814741910323).toNat : Int))))) &&& BitVec.ofInt 64 1085102592571150095).toNat : Int)) + (IntKind.u64.wrap (((BitVec.ofInt 64 (IntKind.u64.wrap ((IntKind.u64.wrap (IntKind.u64.wrap (((BitVec.ofInt 64 ((IntKind.u64.wrap (IntKind.u64.wrap (((BitVec.ofInt 64 (x_0.fdiv 2) &&& BitVec.ofInt 64 6148914691236517205).toNat : Int)) + IntKind.u64.wrap (((BitVec.ofInt 64 x_0 &&& BitVec.ofInt 64 6148914691236517205).toNat : Int)))).fdiv 4) &&& BitVec.ofInt 64 3689348814741910323).toNat : Int)) + IntKind.u64.wrap (((BitVec.ofInt 64 (IntKind.u64.wrap (IntKind.u64.wrap (((BitVec.ofInt 64 (x_0.fdiv 2) &&& BitVec.ofInt 64 6148914691236517205).toNat : Int)) + IntKind.u64.wrap (((BitVec.ofInt 64 x_0 &&& BitVec.ofInt 64 6148914691236517205).toNat : Int)))) &&& BitVec.ofInt 64 3689348814741910323).toNat : Int)))).fdiv 16 + IntKind.u64.wrap (IntKind.u64.wrap (((BitVec.ofInt 64 ((IntKind.u64.wrap (IntKind.u64.wrap (((BitVec.ofInt 64 (x_0.fdiv 2) &&& BitVec.ofInt 64 6148914691236517205).toNat : Int)) + IntKind.u64.wrap (((BitVec.ofInt 64 x_0 &&& BitVec.ofInt 64 6148914691236517205).toNat : Int)))).fdiv 4) &&& BitVec.ofInt 64 3689348814741910323).toNat : Int)) + IntKind.u64.wrap (((BitVec.ofInt 64 (IntKind.u64.wrap (IntKind.u64.wrap (((BitVec.ofInt 64 (x_0.fdiv 2) &&& BitVec.ofInt 64 6148914691236517205).toNat : Int)) + IntKind.u64.wrap (((BitVec.ofInt 64 x_0 &&& BitVec.ofInt 64 6148914691236517205).toNat : Int)))) &&& BitVec.ofInt 64 3689348814741910323).toNat : Int))))) &&& BitVec.ofInt 64 1085102592571150095).toNat : Int))).fdiv 256)).fdiv 65536) + (IntKind.u64.wrap (IntKind.u64.wrap (IntKind.u64.wrap (((BitVec.ofInt 64 (IntKind.u64.wrap ((IntKind.u64.wrap (IntKind.u64.wrap (((BitVec.ofInt 64 ((IntKind.u64.wrap (IntKind.u64.wrap (((BitVec.ofInt 64 (x_0.fdiv 2) &&& BitVec.ofInt 64 6148914691236517205).toNat : Int)) + IntKind.u64.wrap (((BitVec.ofInt 64 x_0 &&& BitVec.ofInt 64 6148914691236517205).toNat : Int)))).fdiv 4) &&& BitVec.ofInt 64 3689348814741910323).toNat : Int)) + IntKind.u64.wrap (((BitVec.ofInt 64 (IntKind.u64.wrap (IntKind.u64.wrap (((BitVec.ofInt 64 (x_0.fdiv 2) &&& BitVec.ofInt 64 6148914691236517205).toNat : Int)) + IntKind.u64.wrap (((BitVec.ofInt 64 x_0 &&& BitVec.ofInt 64 6148914691236517205).toNat : Int)))) &&& BitVec.ofInt 64 3689348814741910323).toNat : Int)))).fdiv 16 + IntKind.u64.wrap (IntKind.u64.wrap (((BitVec.ofInt 64 ((IntKind.u64.wrap (IntKind.u64.wrap (((BitVec.ofInt 64 (x_0.fdiv 2) &&& BitVec.ofInt 64 6148914691236517205).toNat : Int)) + IntKind.u64.wrap (((BitVec.ofInt 64 x_0 &&& BitVec.ofInt 64 6148914691236517205).toNat : Int)))).fdiv 4) &&& BitVec.ofInt 64 3689348814741910323).toNat : Int)) + IntKind.u64.wrap (((BitVec.ofInt 64 (IntKind.u64.wrap (IntKind.u64.wrap (((BitVec.ofInt 64 (x_0.fdiv 2) &&& BitVec.ofInt 64 6148914691236517205).toNat : Int)) + IntKind.u64.wrap (((BitVec.ofInt 64 x_0 &&& BitVec.ofInt 64 6148914691236517205).toNat : Int)))) &&& BitVec.ofInt 64 3689348814741910323).toNat : Int))))) &&& BitVec.ofInt 64 1085102592571150095).toNat : Int)) + (IntKind.u64.wrap (((BitVec.ofInt 64 (IntKind.u64.wrap ((IntKind.u64.wrap (IntKind.u64.wrap (((BitVec.ofInt 64 ((IntKind.u64.wrap (IntKind.u64.wrap (((BitVec.ofInt 64 (x_0.fdiv 2) &&& BitVec.ofInt 64 6148914691236517205).toNat : Int)) + IntKind.u64.wrap (((BitVec.ofInt 64 x_0 &&& BitVec.ofInt 64 6148914691236517205).toNat : Int)))).fdiv 4) &&& BitVec.ofInt 64 3689348814741910323).toNat : Int)) + IntKind.u64.wrap (((BitVec.ofInt 64 (IntKind.u64.wrap (IntKind.u64.wrap (((BitVec.ofInt 64 (x_0.fdiv 2) &&& BitVec.ofInt 64 6148914691236517205).toNat : Int)) + IntKind.u64.wrap (((BitVec.ofInt 64 x_0 &&& BitVec.ofInt 64 6148914691236517205).toNat : Int)))) &&& BitVec.ofInt 64 3689348814741910323).toNat : Int)))).fdiv 16 + IntKind.u64.wrap (IntKind.u64.wrap (((BitVec.ofInt 64 ((IntKind.u64.wrap (IntKind.u64.wrap (((BitVec.ofInt 64 (x_0.fdiv 2) &&& BitVec.ofInt 64 6148914691236517205).toNat : Int)) + IntKind.u64.wrap (((BitVec.ofInt 64 x_0 &&& BitVec.ofInt 64 6148914691236517205).toNat : Int)))).fdiv 4) &&& BitVec.ofInt 64 3689348814741910323).toNat : Int)) + IntKind.u64.wrap (((BitVec.ofInt 64 (IntKind.u64.wrap (IntKind.u64.wrap (((BitVec.ofInt 64 (x_0.fdiv 2) &&& BitVec.ofInt 64 6148914691236517205).toNat : Int)) + IntKind.u64.wrap (((BitVec.ofInt 64 x_0 &&& BitVec.ofInt 64 6148914691236517205).toNat : Int)))) &&& BitVec.ofInt 64 3689348814741910323).toNat : Int))))) &&& BitVec.ofInt 64 1085102592571150095).toNat : Int))).fdiv 256) + (IntKind.u64.wrap (IntKind.u64.wrap (((BitVec.ofInt 64 (IntKind.u64.wrap ((IntKind.u64.wrap (IntKind.u64.wrap (((BitVec.ofInt 64 ((IntKind.u64.wrap (IntKind.u64.wrap (((BitVec.ofInt 64 (x_0.fdiv 2) &&& BitVec.ofInt 64 6148914691236517205).toNat : Int)) + IntKind.u64.wrap (((BitVec.ofInt 64 x_0 &&& BitVec.ofInt 64 6148914691236517205).toNat : Int)))).fdiv 4) &&& BitVec.ofInt 64 3689348814741910323).toNat : Int)) + IntKind.u64.wrap (((BitVec.ofInt 64 (IntKind.u64.wrap (IntKind.u64.wrap (((BitVec.ofInt 64 (x_0.fdiv 2) &&& BitVec.ofInt 64 6148914691236517205).toNat : Int)) + IntKind.u64.wrap (((BitVec.ofInt 64 x_0 &&& BitVec.ofInt 64 6148914691236517205).toNat : Int)))) &&& BitVec.ofInt 64 3689348814741910323).toNat : Int)))).fdiv 16 + IntKind.u64.wrap (IntKind.u64.wrap (((BitVec.ofInt 64 ((IntKind.u64.wrap (IntKind.u64.wrap (((BitVec.ofInt 64 (x_0.fdiv 2) &&& BitVec.ofInt 64 6148914691236517205).toNat : Int)) + IntKind.u64.wrap (((BitVec.ofInt 64 x_0 &&& BitVec.ofInt 64 6148914691236517205).toNat : Int)))).fdiv 4) &&& BitVec.ofInt 64 3689348814741910323).toNat : Int)) + IntKind.u64.wrap (((BitVec.ofInt 64 (IntKind.u64.wrap (IntKind.u64.wrap (((BitVec.ofInt 64 (x_0.fdiv 2) &&& BitVec.ofInt 64 6148914691236517205).toNat : Int)) + IntKind.u64.wrap (((BitVec.ofInt 64 x_0 &&& BitVec.ofInt 64 6148914691236517205).toNat : Int)))) &&& BitVec.ofInt 64 3689348814741910323).toNat : Int))))) &&& BitVec.ofInt 64 1085102592571150095).toNat : Int)) + (IntKind.u64.wrap (((BitVec.ofInt 64 (IntKind.u64.wrap ((IntKind.u64.wrap (IntKind.u64.wrap (((BitVec.ofInt 64 ((IntKind.u64.wrap (IntKind.u64.wrap (((BitVec.ofInt 64 (x_0.fdiv 2) &&& BitVec.ofInt 64 6148914691236517205).toNat : Int)) + IntKind.u64.wrap (((BitVec.ofInt 64 x_0 &&& BitVec.ofInt 64 6148914691236517205).toNat : Int)))).fdiv 4) &&& BitVec.ofInt 64 3689348814741910323).toNat : Int)) + IntKind.u64.wrap (((BitVec.ofInt 64 (IntKind.u64.wrap (IntKind.u64.wrap (((BitVec.ofInt 64 (x_0.fdiv 2) &&& BitVec.ofInt 64 6148914691236517205).toNat : Int)) + IntKind.u64.wrap (((BitVec.ofInt 64 x_0 &&& BitVec.ofInt 64 6148914691236517205).toNat : Int)))) &&& BitVec.ofInt 64 3689348814741910323).toNat : Int)))).fdiv 16 + IntKind.u64.wrap (IntKind.u64.wrap (((BitVec.ofInt 64 ((IntKind.u64.wrap (IntKind.u64.wrap (((BitVec.ofInt 64 (x_0.fdiv 2) &&& BitVec.ofInt 64 6148914691236517205).toNat : Int)) + IntKind.u64.wrap (((BitVec.ofInt 64 x_0 &&& BitVec.ofInt 64 6148914691236517205).toNat : Int)))).fdiv 4) &&& BitVec.ofInt 64 3689348814741910323).toNat : Int)) + IntKind.u64.wrap (((BitVec.ofInt 64 (IntKind.u64.wrap (IntKind.u64.wrap (((BitVec.ofInt 64 (x_0.fdiv 2) &&& BitVec.ofInt 64 6148914691236517205).toNat : Int)) + IntKind.u64.wrap (((BitVec.ofInt 64 x_0 &&& BitVec.ofInt 64 6148914691236517205).toNat : Int)))) &&& BitVec.ofInt 64 3689348814741910323).toNat : Int))))) &&& BitVec.ofInt 64 1085102592571150095).toNat : Int))).fdiv 256)).fdiv 65536)).fdiv 4294967296))) &&& BitVec.ofInt 64 127).toNat : Int)))
theorem math_bits_OnesCount_pre (m : Nat) (x_0 : Int) : funK Try.prog (Ψ_math_bits_OnesCount m) keep m 1 63 [(dInt .u64).e x_0] = b_math_bits_OnesCount m (fun x0 => some (w_math_bits_OnesCount x0)) x_0 := by kernel_rfl
theorem b_math_bits_OnesCount_map (m : Nat) (x_0 : Int) : b_math_bits_OnesCount m (fun x0 => some (w_math_bits_OnesCount x0)) x_0 = (b_math_bits_OnesCount m (fun x0 => some x0) x_0).map w_math_bits_OnesCount := by
  simp only [b_math_bits_OnesCount, cond_map, bind_map, map_none, map_some]
noncomputable def math_bits_OnesCount (m : Nat) (x_0 : Int) : Option (Int) := b_math_bits_OnesCount m (fun x0 => some x0) x_0
theorem math_bits_OnesCount_fun (m : Nat) (x_0 : Int) : funK Try.prog (Ψ_math_bits_OnesCount m) keep m 1 63 [(dInt .u64).e x_0] = (math_bits_OnesCount m x_0).map w_math_bits_OnesCount := by
  rw [math_bits_OnesCount_pre]
  exact b_math_bits_OnesCount_map m x_0
noncomputable def K_math_bits_OnesCount (m : Nat) : KnownF C := mkK (dCons (dInt .u64) dNil) (fun a => math_bits_OnesCount m a.1) w_math_bits_OnesCount
theorem K_math_bits_OnesCount_ok (m : Nat) : KnownAt C Try.prog 63 fun l => (K_math_bits_OnesCount m).run _ l some :=
  mkK_known good fit (Ψ_math_bits_OnesCount_ok m) (keep := keep) (m := m) (d := 1) fun a => math_bits_OnesCount_fun m a.1
/-! ### signalbench/uart.parity -/
noncomputable def Ψ_uart_parity (m : Nat) : Known C := fun f => match f with
  | 63 => some (K_math_bits_OnesCount m)
  | _ => none
theorem Ψ_uart_parity_ok (m : Nat) : KnownOk C Try.prog (Ψ_uart_parity m) := by
  intro f φ h
  unfold Ψ_uart_parity at h
  split at h
  · injection h with h; subst h; exact K_math_bits_OnesCount_ok m
  · cases h
def w_uart_parity (b : Int) : List (RV C) := [(dInt .i64).e b]
noncomputable def b_uart_parity {R : Type} (m : Nat) (ret : Int → Option R) (c_0 : Uart) (value_1 : Int) : Option R :=
 bif c_0.Parity == 2 then
 ret (IntKind.i64.wrap (1 - (IntKind.i64.wrap (((BitVec.ofInt 64 (IntKind.i64.wrap (IntKind.u64.wrap (IntKind.u64.wrap (IntKind.u64.wrap (IntKind.u64.wrap (((BitVec.ofInt 64 (IntKind.u64.wrap ((IntKind.u64.wrap (IntKind.u64.wrap (((BitVec.ofInt 64 ((IntKind.u64.wrap (IntKind.u64.wrap (((BitVec.ofInt 64 ((IntKind.u64.wrap value_1).fdiv 2) &&& BitVec.ofInt 64 6148914691236517205).toNat : Int)) + IntKind.u64.wrap (((BitVec.ofInt 64 (IntKind.u64.wrap value_1) &&& BitVec.ofInt 64 6148914691236517205).toNat : Int)))).fdiv 4) &&& BitVec.ofInt 64 3689348814741910323).toNat : Int)) + IntKind.u64.wrap (((BitVec.ofInt 64 (IntKind.u64.wrap (IntKind.u64.wrap (((BitVec.ofInt 64 ((IntKind.u64.wrap value_1).fdiv 2) &&& BitVec.ofInt 64 6148914691236517205).toNat : Int)) + IntKind.u64.wrap (((BitVec.ofInt 64 (IntKind.u64.wrap value_1) &&& BitVec.ofInt 64 6148914691236517205).toNat : Int)))) &&& BitVec.ofInt 64 3689348814741910323).toNat : Int)))).fdiv 16 + IntKind.u64.wrap (IntKind.u64.wrap (((BitVec.ofInt 64 ((IntKind.u64.wrap (IntKind.u64.wrap (((BitVec.ofInt 64 ((IntKind.u64.wrap value_1).fdiv 2) &&& BitVec.ofInt 64 6148914691236517205).toNat : Int)) + IntKind.u64.wrap (((BitVec.ofInt 64 (IntKind.u64.wrap value_1) &&& BitVec.ofInt 64 6148914691236517205).toNat : Int)))).fdiv 4) &&& BitVec.ofInt 64 3689348814741910323).toNat : Int)) + IntKind.u64.wrap (((BitVec.ofInt 64 (IntKind.u64.wrap (IntKind.u64.wrap (((BitVec.ofInt 64 ((IntKind.u64.wrap value_1).fdiv 2) &&& BitVec.ofInt 64 6148914691236517205).toNat : Int)) + IntKind.u64.wrap (((BitVec.ofInt 64 (IntKind.u64.wrap value_1) &&& BitVec.ofInt 64 6148914691236517205).toNat : Int)))) &&& BitVec.ofInt 64 3689348814741910323).toNat : Int))))) &&& BitVec.ofInt 64 1085102592571150095).toNat : Int)) + (IntKind.u64.wrap (((BitVec.ofInt 64 (IntKind.u64.wrap ((IntKind.u64.wrap (IntKind.u64.wrap (((BitVec.ofInt 64 ((IntKind.u64.wrap (IntKind.u64.wrap (((BitVec.ofInt 64 ((IntKind.u64.wrap value_1).fdiv 2) &&& BitVec.ofInt 64 6148914691236517205).toNat : Int)) + IntKind.u64.wrap (((BitVec.ofInt 64 (IntKind.u64.wrap value_1) &&& BitVec.ofInt 64 6148914691236517205).toNat : Int)))).fdiv 4) &&& BitVec.ofInt 64 3689348814741910323).toNat : Int)) + IntKind.u64.wrap (((BitVec.ofInt 64 (IntKind.u64.wrap (IntKind.u64.wrap (((BitVec.ofInt 64 ((IntKind.u64.wrap value_1).fdiv 2) &&& BitVec.ofInt 64 6148914691236517205).toNat : Int)) + IntKind.u64.wrap (((BitVec.ofInt 64 (IntKind.u64.wrap value_1) &&& BitVec.ofInt 64 6148914691236517205).toNat : Int)))) &&& BitVec.ofInt 64 3689348814741910323).toNat : Int)))).fdiv 16 + IntKind.u64.wrap (IntKind.u64.wrap (((BitVec.ofInt 64 ((IntKind.u64.wrap (IntKind.u64.wrap (((BitVec.ofInt 64 ((IntKind.u64.wrap value_1).fdiv 2) &&& BitVec.ofInt 64 6148914691236517205).toNat : Int)) + IntKind.u64.wrap (((BitVec.ofInt 64 (IntKind.u64.wrap value_1) &&& BitVec.ofInt 64 6148914691236517205).toNat : Int)))).fdiv 4) &&& BitVec.ofInt 64 3689348814741910323).toNat : Int)) + IntKind.u64.wrap (((BitVec.ofInt 64 (IntKind.u64.wrap (IntKind.u64.wrap (((BitVec.ofInt 64 ((IntKind.u64.wrap value_1).fdiv 2) &&& BitVec.ofInt 64 6148914691236517205).toNat : Int)) + IntKind.u64.wrap (((BitVec.ofInt 64 (IntKind.u64.wrap value_1) &&& BitVec.ofInt 64 6148914691236517205).toNat : Int)))) &&& BitVec.ofInt 64 3689348814741910323).toNat : Int))))) &&& BitVec.ofInt 64 1085102592571150095).toNat : Int))).fdiv 256) + (IntKind.u64.wrap (IntKind.u64.wrap (((BitVec.ofInt 64 (IntKind.u64.wrap ((IntKind.u64.wrap (IntKind.u64.wrap (((BitVec.ofInt 64 ((IntKind.u64.wrap (IntKind.u64.wrap (((BitVec.ofInt 64 ((IntKind.u64.wrap value_1).fdiv 2) &&& BitVec.ofInt 64 6148914691236517205).toNat : Int)) + IntKind.u64.wrap (((BitVec.ofInt 64 (IntKind.u64.wrap value_1) &&& BitVec.ofInt 64 6148914691236517205).toNat : Int)))).fdiv 4) &&& BitVec.ofInt 64 3689348814741910323).toNat : Int)) + IntKind.u64.wrap (((BitVec.ofInt 64 (IntKind.u64.wrap (IntKind.u64.wrap (((BitVec.ofInt 64 ((IntKind.u64.wrap value_1).fdiv 2) &&& BitVec.ofInt 64 6148914691236517205).toNat : Int)) + IntKind.u64.wrap (((BitVec.ofInt 64 (IntKind.u64.wrap value_1) &&& BitVec.ofInt 64 6148914691236517205).toNat : Int)))) &&& BitVec.ofInt 64 3689348814741910323).toNat : Int)))).fdiv 16 + IntKind.u64.wrap (IntKind.u64.wrap (((BitVec.ofInt 64 ((IntKind.u64.wrap (IntKind.u64.wrap (((BitVec.ofInt 64 ((IntKind.u64.wrap value_1).fdiv 2) &&& BitVec.ofInt 64 6148914691236517205).toNat : Int)) + IntKind.u64.wrap (((BitVec.ofInt 64 (IntKind.u64.wrap value_1) &&& BitVec.ofInt 64 6148914691236517205).toNat : Int)))).fdiv 4) &&& BitVec.ofInt 64 3689348814741910323).toNat : Int)) + IntKind.u64.wrap (((BitVec.ofInt 64 (IntKind.u64.wrap (IntKind.u64.wrap (((BitVec.ofInt 64 ((IntKind.u64.wrap value_1).fdiv 2) &&& BitVec.ofInt 64 6148914691236517205).toNat : Int)) + IntKind.u64.wrap (((BitVec.ofInt 64 (IntKind.u64.wrap value_1) &&& BitVec.ofInt 64 6148914691236517205).toNat : Int)))) &&& BitVec.ofInt 64 3689348814741910323).toNat : Int))))) &&& BitVec.ofInt 64 1085102592571150095).toNat : Int)) + (IntKind.u64.wrap (((BitVec.ofInt 64 (IntKind.u64.wrap ((IntKind.u64.wrap (IntKind.u64.wrap (((BitVec.ofInt 64 ((IntKind.u64.wrap (IntKind.u64.wrap (((BitVec.ofInt 64 ((IntKind.u64.wrap value_1).fdiv 2) &&& BitVec.ofInt 64 6148914691236517205).toNat : Int)) + IntKind.u64.wrap (((BitVec.ofInt 64 (IntKind.u64.wrap value_1) &&& BitVec.ofInt 64 6148914691236517205).toNat : Int)))).fdiv 4) &&& BitVec.ofInt 64 3689348814741910323).toNat : Int)) + IntKind.u64.wrap (((BitVec.ofInt 64 (IntKind.u64.wrap (IntKind.u64.wrap (((BitVec.ofInt 64 ((IntKind.u64.wrap value_1).fdiv 2) &&& BitVec.ofInt 64 6148914691236517205).toNat : Int)) + IntKind.u64.wrap (((BitVec.ofInt 64 (IntKind.u64.wrap value_1) &&& BitVec.ofInt 64 6148914691236517205).toNat : Int)))) &&& BitVec.ofInt 64 3689348814741910323).toNat : Int)))).fdiv 16 + IntKind.u64.wrap (IntKind.u64.wrap (((BitVec.ofInt 64 ((IntKind.u64.wrap (IntKind.u64.wrap (((BitVec.ofInt 64 ((IntKind.u64.wrap value_1).fdiv 2) &&& BitVec.ofInt 64 6148914691236517205).toNat : Int)) + IntKind.u64.wrap (((BitVec.ofInt 64 (IntKind.u64.wrap value_1) &&& BitVec.ofInt 64 6148914691236517205).toNat : Int)))).fdiv 4) &&& BitVec.ofInt 64 3689348814741910323).toNat : Int)) + IntKind.u64.wrap (((BitVec.ofInt 64 (IntKind.u64.wrap (IntKind.u64.wrap (((BitVec.ofInt 64 ((IntKind.u64.wrap value_1).fdiv 2) &&& BitVec.ofInt 64 6148914691236517205).toNat : Int)) + IntKind.u64.wrap (((BitVec.ofInt 64 (IntKind.u64.wrap value_1) &&& BitVec.ofInt 64 6148914691236517205).toNat : Int)))) &&& BitVec.ofInt 64 3689348814741910323).toNat : Int))))) &&& BitVec.ofInt 64 1085102592571150095).toNat : Int))).fdiv 256)).fdiv 65536) + (IntKind.u64.wrap (IntKind.u64.wrap (IntKind.u64.wrap (((BitVec.ofInt 64 (IntKind.u64.wrap ((IntKind.u64.wrap (IntKind.u64.wrap (((BitVec.ofInt 64 ((IntKind.u64.wrap (IntKind.u64.wrap (((BitVec.ofInt 64 ((IntKind.u64.wrap value_1).fdiv 2) &&& BitVec.ofInt 64 6148914691236517205).toNat : Int)) + IntKind.u64.wrap (((BitVec.ofInt 64 (IntKind.u64.wrap value_1) &&& BitVec.ofInt 64 6148914691236517205).toNat : Int)))).fdiv 4) &&& BitVec.ofInt 64 3689348814741910323).toNat : Int)) + IntKind.u64.wrap (((BitVec.ofInt 64 (IntKind.u64.wrap (IntKind.u64.wrap (((BitVec.ofInt 64 ((IntKind.u64.wrap value_1).fdiv 2) &&& BitVec.ofInt 64 6148914691236517205).toNat : Int)) + IntKind.u64.wrap (((BitVec.ofInt 64 (IntKind.u64.wrap value_1) &&& BitVec.ofInt 64 6148914691236517205).toNat : Int)))) &&& BitVec.ofInt 64 3689348814741910323).toNat : Int)))).fdiv 16 + IntKind.u64.wrap (IntKind.u64.wrap (((BitVec.ofInt 64 ((IntKind.u64.wrap (IntKind.u64.wrap (((BitVec.ofInt 64 ((IntKind.u64.wrap value_1).fdiv 2) &&& BitVec.ofInt 64 6148914691236517205).toNat : Int)) + IntKind.u64.wrap (((BitVec.ofInt 64 (IntKind.u64.wrap value_1) &&& BitVec.ofInt 64 6148914691236517205).toNat : Int)))).fdiv 4) &&& BitVec.ofInt 64 3689348814741910323).toNat : Int)) + IntKind.u64.wrap (((BitVec.ofInt 64 (IntKind.u64.wrap (IntKind.u64.wrap (((BitVec.ofInt 64 ((IntKind.u64.wrap value_1).fdiv 2) &&& BitVec.ofInt 64 6148914691236517205).toNat : Int)) + IntKind.u64.wrap (((BitVec.ofInt 64 (IntKind.u64.wrap value_1) &&& BitVec.ofInt 64 6148914691236517205).toNat : Int)))) &&& BitVec.ofInt 64 3689348814741910323).toNat : Int))))) &&& BitVec.ofInt 64 1085102592571150095).toNat : Int)) + (IntKind.u64.wrap (((BitVec.ofInt 64 (IntKind.u64.wrap ((IntKind.u64.wrap (IntKind.u64.wrap (((BitVec.ofInt 64 ((IntKind.u64.wrap (IntKind.u64.wrap (((BitVec.ofInt 64 ((IntKind.u64.wrap value_1).fdiv 2) &&& BitVec.ofInt 64 6148914691236517205).toNat : Int)) + IntKind.u64.wrap (((BitVec.ofInt 64 (IntKind.u64.wrap value_1) &&& BitVec.ofInt 64 6148914691236517205).toNat : Int)))).fdiv 4) &&& BitVec.ofInt 64 3689348814741910323).toNat : Int)) + IntKind.u64.wrap (((BitVec.ofInt 64 (IntKind.u64.wrap (IntKind.u64.wrap (((BitVec.ofInt 64 ((IntKind.u64.wrap value_1).fdiv 2) &&& BitVec.ofInt 64 6148914691236517205).toNat : Int)) + IntKind.u64.wrap (((BitVec.ofInt 64 (IntKind.u64.wrap value_1) &&& BitVec.ofInt 64 6148914691236517205).toNat : Int)))) &&& BitVec.ofInt 64 3689348814741910323).toNat : Int)))).fdiv 16 + IntKind.u64.wrap (IntKind.u64.wrap (((BitVec.ofInt 64 ((IntKind.u64.wrap (IntKind.u64.wrap (((BitVec.ofInt 64 ((IntKind.u64.wrap value_1).fdiv 2) &&& BitVec.ofInt 64 6148914691236517205).toNat : Int)) + IntKind.u64.wrap (((BitVec.ofInt 64 (IntKind.u64.wrap value_1) &&& BitVec.ofInt 64 6148914691236517205).toNat : Int)))).fdiv 4) &&& BitVec.ofInt 64 3689348814741910323).toNat : Int)) + IntKind.u64.wrap (((BitVec.ofInt 64 (IntKind.u64.wrap (IntKind.u64.wrap (((BitVec.ofInt 64 ((IntKind.u64.wrap value_1).fdiv 2) &&& BitVec.ofInt 64 6148914691236517205).toNat : Int)) + IntKind.u64.wrap (((BitVec.ofInt 64 (IntKind.u64.wrap value_1) &&& BitVec.ofInt 64 6148914691236517205).toNat : Int)))) &&& BitVec.ofInt 64 3689348814741910323).toNat : Int))))) &&& BitVec.ofInt 64 1085102592571150095).toNat : Int))).fdiv 256) + (IntKind.u64.wrap (IntKind.u64.wrap (((BitVec.ofInt 64 (IntKind.u64.wrap ((IntKind.u64.wrap (IntKind.u64.wrap (((BitVec.ofInt 64 ((IntKind.u64.wrap (IntKind.u64.wrap (((BitVec.ofInt 64 ((IntKind.u64.wrap value_1).fdiv 2) &&& BitVec.ofInt 64 6148914691236517205).toNat : Int)) + IntKind.u64.wrap (((BitVec.ofInt 64 (IntKind.u64.wrap value_1) &&& BitVec.ofInt 64 6148914691236517205).toNat : Int)))).fdiv 4) &&& BitVec.ofInt 64 3689348814741910323).toNat : Int)) + IntKind.u64.wrap (((BitVec.ofInt 64 (IntKind.u64.wrap (IntKind.u64.wrap (((BitVec.ofInt 64 ((IntKind.u64.wrap value_1).fdiv 2) &&& BitVec.ofInt 64 6148914691236517205).toNat : Int)) + IntKind.u64.wrap (((BitVec.ofInt 64 (IntKind.u64.wrap value_1) &&& BitVec.ofInt 64 6148914691236517205).toNat : Int)))) &&& BitVec.ofInt 64 3689348814741910323).toNat : Int)))).fdiv 16 + IntKind.u64.wrap (IntKind.u64.wrap (((BitVec.ofInt 64 ((IntKind.u64.wrap (IntKind.u64.wrap (((BitVec.ofInt 64 ((IntKind.u64.wrap value_1).fdiv 2) &&& BitVec.ofInt 64 6148914691236517205).toNat : Int)) + IntKind.u64.wrap (((BitVec.ofInt 64 (IntKind.u64.wrap value_1) &&& BitVec.ofInt 64 6148914691236517205).toNat : Int)))).fdiv 4) &&& BitVec.ofInt 64 3689348814741910323).toNat : Int)) + IntKind.u64.wrap (((BitVec.ofInt 64 (IntKind.u64.wrap (IntKind.u64.wrap (((BitVec.ofInt 64 ((IntKind.u64.wrap value_1).fdiv 2) &&& BitVec.ofInt 64 6148914691236517205).toNat : Int)) + IntKind.u64.wrap (((BitVec.ofInt 64 (IntKind.u64.wrap value_1) &&& BitVec.ofInt 64 6148914691236517205).toNat : Int)))) &&& BitVec.ofInt 64 3689348814741910323).toNat : Int))))) &&& BitVec.ofInt 64 1085102592571150095).toNat : Int)) + (IntKind.u64.wrap (((BitVec.ofInt 64 (IntKind.u64.wrap ((IntKind.u64.wrap (IntKind.u64.wrap (((BitVec.ofInt 64 ((IntKind.u64.wrap (IntKind.u64.wrap (((BitVec.ofInt 64 ((IntKind.u64.wrap value_1).fdiv 2) &&& BitVec.ofInt 64 6148914691236517205).toNat : Int)) + IntKind.u64.wrap (((BitVec.ofInt 64 (IntKind.u64.wrap value_1) &&& BitVec.ofInt 64 6148914691236517205).toNat : Int)))).fdiv 4) &&& BitVec.ofInt 64 3689348814741910323).toNat : Int)) + IntKind.u64.wrap (((BitVec.ofInt 64 (IntKind.u64.wrap (IntKind.u64.wrap (((BitVec.ofInt 64 ((IntKind.u64.wrap value_1).fdiv 2) &&& BitVec.ofInt 64 6148914691236517205).toNat : Int)) + IntKind.u64.wrap (((BitVec.ofInt 64 (IntKind.u64.wrap value_1) &&& BitVec.ofInt 64 6148914691236517205).toNat : Int)))) &&& BitVec.ofInt 64 3689348814741910323).toNat : Int)))).fdiv 16 + IntKind.u64.wrap (IntKind.u64.wrap (((BitVec.ofInt 64 ((IntKind.u64.wrap (IntKind.u64.wrap (((BitVec.ofInt 64 ((IntKind.u64.wrap value_1).fdiv 2) &&& BitVec.ofInt 64 6148914691236517205).toNat : Int)) + IntKind.u64.wrap (((BitVec.ofInt 64 (IntKind.u64.wrap value_1) &&& BitVec.ofInt 64 6148914691236517205).toNat : Int)))).fdiv 4) &&& BitVec.ofInt 64 3689348814741910323).toNat : Int)) + IntKind.u64.wrap (((BitVec.ofInt 64 (IntKind.u64.wrap (IntKind.u64.wrap (((BitVec.ofInt 64 ((IntKind.u64.wrap value_1).fdiv 2) &&& BitVec.ofInt 64 6148914691236517205).toNat : Int)) + IntKind.u64.wrap (((BitVec.ofInt 64 (IntKind.u64.wrap value_1) &&& BitVec.ofInt 64 6148914691236517205).toNat : Int)))) &&& BitVec.ofInt 64 3689348814741910323).toNat : Int))))) &&& BitVec.ofInt 64 1085102592571150095).toNat : Int))).fdiv 256)).fdiv 65536)).fdiv 4294967296))) &&& BitVec.ofInt 64 127).toNat : Int))).tmod 2))
 else
 ret ((IntKind.i64.wrap (((BitVec.ofInt 64 (IntKind.i64.wrap (IntKind.u64.wrap (IntKind.u64.wrap (IntKind.u64.wrap (IntKind.u64.wrap (((BitVec.ofInt 64 (IntKind.u64.wrap ((IntKind.u64.wrap (IntKind.u64.wrap (((BitVec.ofInt 64 ((IntKind.u64.wrap (IntKind.u64.wrap (((BitVec.ofInt 64 ((IntKind.u64.wrap value_1).fdiv 2) &&& BitVec.ofInt 64 6148914691236517205).toNat : Int)) + IntKind.u64.wrap (((BitVec.ofInt 64 (IntKind.u64.wrap value_1) &&& BitVec.ofInt 64 6148914691236517205).toNat : Int)))).fdiv 4) &&& BitVec.ofInt 64 3689348814741910323).toNat : Int)) + IntKind.u64.wrap (((BitVec.ofInt 64 (IntKind.u64.wrap (IntKind.u64.wrap (((BitVec.ofInt 64 ((IntKind.u64.wrap value_1).fdiv 2) &&& BitVec.ofInt 64 6148914691236517205).toNat : Int)) + IntKind.u64.wrap (((BitVec.ofInt 64 (IntKind.u64.wrap value_1) &&& BitVec.ofInt 64 6148914691236517205).toNat : Int)))) &&& BitVec.ofInt 64 3689348814741910323).toNat : Int)))).fdiv 16 + IntKind.u64.wrap (IntKind.u64.wrap (((BitVec.ofInt 64 ((IntKind.u64.wrap (IntKind.u64.wrap (((BitVec.ofInt 64 ((IntKind.u64.wrap value_1).fdiv 2) &&& BitVec.ofInt 64 6148914691236517205).toNat : Int)) + IntKind.u64.wrap (((BitVec.ofInt 64 (IntKind.u64.wrap value_1) &&& BitVec.ofInt 64 6148914691236517205).toNat : Int)))).fdiv 4) &&& BitVec.ofInt 64 3689348814741910323).toNat : Int)) + IntKind.u64.wrap (((BitVec.ofInt 64 (IntKind.u64.wrap (IntKind.u64.wrap (((BitVec.ofInt 64 ((IntKind.u64.wrap value_1).fdiv 2) &&& BitVec.ofInt 64 6148914691236517205).toNat : Int)) + IntKind.u64.wrap (((BitVec.ofInt 64 (IntKind.u64.wrap value_1) &&& BitVec.ofInt 64 6148914691236517205).toNat : Int)))) &&& BitVec.ofInt 64 3689348814741910323).toNat : Int))))) &&& BitVec.ofInt 64 1085102592571150095).toNat : Int)) + (IntKind.u64.wrap (((BitVec.ofInt 64 (IntKind.u64.wrap ((IntKind.u64.wrap (IntKind.u64.wrap (((BitVec.ofInt 64 ((IntKind.u64.wrap (IntKind.u64.wrap (((BitVec.ofInt 64 ((IntKind.u64.wrap value_1).fdiv 2) &&& BitVec.ofInt 64 6148914691236517205).toNat : Int)) + IntKind.u64.wrap (((BitVec.ofInt 64 (IntKind.u64.wrap value_1) &&& BitVec.ofInt 64 6148914691236517205).toNat : Int)))).fdiv 4) &&& BitVec.ofInt 64 3689348814741910323).toNat : Int)) + IntKind.u64.wrap (((BitVec.ofInt 64 (IntKind.u64.wrap (IntKind.u64.wrap (((BitVec.ofInt 64 ((IntKind.u64.wrap value_1).fdiv 2) &&& BitVec.ofInt 64 6148914691236517205).toNat : Int)) + IntKind.u64.wrap (((BitVec.ofInt 64 (IntKind.u64.wrap value_1) &&& BitVec.ofInt 64 6148914691236517205).toNat : Int)))) &&& BitVec.ofInt 64 3689348814741910323).toNat : Int)))).fdiv 16 + IntKind.u64.wrap (IntKind.u64.wrap (((BitVec.ofInt 64 ((IntKind.u64.wrap (IntKind.u64.wrap (((BitVec.ofInt 64 ((IntKind.u64.wrap value_1).fdiv 2) &&& BitVec.ofInt 64 6148914691236517205).toNat : Int)) + IntKind.u64.wrap (((BitVec.ofInt 64 (IntKind.u64.wrap value_1) &&& BitVec.ofInt 64 6148914691236517205).toNat : Int)))).fdiv 4) &&& BitVec.ofInt 64 3689348814741910323).toNat : Int)) + IntKind.u64.wrap (((BitVec.ofInt 64 (IntKind.u64.wrap (IntKind.u64.wrap (((BitVec.ofInt 64 ((IntKind.u64.wrap value_1).fdiv 2) &&& BitVec.ofInt 64 6148914691236517205).toNat : Int)) + IntKind.u64.wrap (((BitVec.ofInt 64 (IntKind.u64.wrap value_1) &&& BitVec.ofInt 64 6148914691236517205).toNat : Int)))) &&& BitVec.ofInt 64 3689348814741910323).toNat : Int))))) &&& BitVec.ofInt 64 1085102592571150095).toNat : Int))).fdiv 256) + (IntKind.u64.wrap (IntKind.u64.wrap (((BitVec.ofInt 64 (IntKind.u64.wrap ((IntKind.u64.wrap (IntKind.u64.wrap (((BitVec.ofInt 64 ((IntKind.u64.wrap (IntKind.u64.wrap (((BitVec.ofInt 64 ((IntKind.u64.wrap value_1).fdiv 2) &&& BitVec.ofInt 64 6148914691236517205).toNat : Int)) + IntKind.u64.wrap (((BitVec.ofInt 64 (IntKind.u64.wrap value_1) &&& BitVec.ofInt 64 6148914691236517205).toNat : Int)))).fdiv 4) &&& BitVec.ofInt 64 3689348814741910323).toNat : Int)) + IntKind.u64.wrap (((BitVec.ofInt 64 (IntKind.u64.wrap (IntKind.u64.wrap (((BitVec.ofInt 64 ((IntKind.u64.wrap value_1).fdiv 2) &&& BitVec.ofInt 64 6148914691236517205).toNat : Int)) + IntKind.u64.wrap (((BitVec.ofInt 64 (IntKind.u64.wrap value_1) &&& BitVec.ofInt 64 6148914691236517205).toNat : Int)))) &&& BitVec.ofInt 64 3689348814741910323).toNat : Int)))).fdiv 16 + IntKind.u64.wrap (IntKind.u64.wrap (((BitVec.ofInt 64 ((IntKind.u64.wrap (IntKind.u64.wrap (((BitVec.ofInt 64 ((IntKind.u64.wrap value_1).fdiv 2) &&& BitVec.ofInt 64 6148914691236517205).toNat : Int)) + IntKind.u64.wrap (((BitVec.ofInt 64 (IntKind.u64.wrap value_1) &&& BitVec.ofInt 64 6148914691236517205).toNat : Int)))).fdiv 4) &&& BitVec.ofInt 64 3689348814741910323).toNat : Int)) + IntKind.u64.wrap (((BitVec.ofInt 64 (IntKind.u64.wrap (IntKind.u64.wrap (((BitVec.ofInt 64 ((IntKind.u64.wrap value_1).fdiv 2) &&& BitVec.ofInt 64 6148914691236517205).toNat : Int)) + IntKind.u64.wrap (((BitVec.ofInt 64 (IntKind.u64.wrap value_1) &&& BitVec.ofInt 64 6148914691236517205).toNat : Int)))) &&& BitVec.ofInt 64 3689348814741910323).toNat : Int))))) &&& BitVec.ofInt 64 1085102592571150095).toNat : Int)) + (IntKind.u64.wrap (((BitVec.ofInt 64 (IntKind.u64.wrap ((IntKind.u64.wrap (IntKind.u64.wrap (((BitVec.ofInt 64 ((IntKind.u64.wrap (IntKind.u64.wrap (((BitVec.ofInt 64 ((IntKind.u64.wrap value_1).fdiv 2) &&& BitVec.ofInt 64 6148914691236517205).toNat : Int)) + IntKind.u64.wrap (((BitVec.ofInt 64 (IntKind.u64.wrap value_1) &&& BitVec.ofInt 64 6148914691236517205).toNat : Int)))).fdiv 4) &&& BitVec.ofInt 64 3689348814741910323).toNat : Int)) + IntKind.u64.wrap (((BitVec.ofInt 64 (IntKind.u64.wrap (IntKind.u64.wrap (((BitVec.ofInt 64 ((IntKind.u64.wrap value_1).fdiv 2) &&& BitVec.ofInt 64 6148914691236517205).toNat : Int)) + IntKind.u64.wrap (((BitVec.ofInt 64 (IntKind.u64.wrap value_1) &&& BitVec.ofInt 64 6148914691236517205).toNat : Int)))) &&& BitVec.ofInt 64 3689348814741910323).toNat : Int)))).fdiv 16 + IntKind.u64.wrap (IntKind.u64.wrap (((BitVec.ofInt 64 ((IntKind.u64.wrap (IntKind.u64.wrap (((BitVec.ofInt 64 ((IntKind.u64.wrap value_1).fdiv 2) &&& BitVec.ofInt 64 6148914691236517205).toNat : Int)) + IntKind.u64.wrap (((BitVec.ofInt 64 (IntKind.u64.wrap value_1) &&& BitVec.ofInt 64 6148914691236517205).toNat : Int)))).fdiv 4) &&& BitVec.ofInt 64 3689348814741910323).toNat : Int)) + IntKind.u64.wrap (((BitVec.ofInt 64 (IntKind.u64.wrap (IntKind.u64.wrap (((BitVec.ofInt 64 ((IntKind.u64.wrap value_1).fdiv 2) &&& BitVec.ofInt 64 6148914691236517205).toNat : Int)) + IntKind.u64.wrap (((BitVec.ofInt 64 (IntKind.u64.wrap value_1) &&& BitVec.ofInt 64 6148914691236517205).toNat : Int)))) &&& BitVec.ofInt 64 3689348814741910323).toNat : Int))))) &&& BitVec.ofInt 64 1085102592571150095).toNat : Int))).fdiv 256)).fdiv 65536) + (IntKind.u64.wrap (IntKind.u64.wrap (IntKind.u64.wrap (((BitVec.ofInt 64 (IntKind.u64.wrap ((IntKind.u64.wrap (IntKind.u64.wrap (((BitVec.ofInt 64 ((IntKind.u64.wrap (IntKind.u64.wrap (((BitVec.ofInt 64 ((IntKind.u64.wrap value_1).fdiv 2) &&& BitVec.ofInt 64 6148914691236517205).toNat : Int)) + IntKind.u64.wrap (((BitVec.ofInt 64 (IntKind.u64.wrap value_1) &&& BitVec.ofInt 64 6148914691236517205).toNat : Int)))).fdiv 4) &&& BitVec.ofInt 64 3689348814741910323).toNat : Int)) + IntKind.u64.wrap (((BitVec.ofInt 64 (IntKind.u64.wrap (IntKind.u64.wrap (((BitVec.ofInt 64 ((IntKind.u64.wrap value_1).fdiv 2) &&& BitVec.ofInt 64 6148914691236517205).toNat : Int)) + IntKind.u64.wrap (((BitVec.ofInt 64 (IntKind.u64.wrap value_1) &&& BitVec.ofInt 64 6148914691236517205).toNat : Int)))) &&& BitVec.ofInt 64 3689348814741910323).toNat : Int)))).fdiv 16 + IntKind.u64.wrap (IntKind.u64.wrap (((BitVec.ofInt 64 ((IntKind.u64.wrap (IntKind.u64.wrap (((BitVec.ofInt 64 ((IntKind.u64.wrap value_1).fdiv 2) &&& BitVec.ofInt 64 6148914691236517205).toNat : Int)) + IntKind.u64.wrap (((BitVec.ofInt 64 (IntKind.u64.wrap value_1) &&& BitVec.ofInt 64 6148914691236517205).toNat : Int)))).fdiv 4) &&& BitVec.ofInt 64 3689348814741910323).toNat : Int)) + IntKind.u64.wrap (((BitVec.ofInt 64 (IntKind.u64.wrap (IntKind.u64.wrap (((BitVec.ofInt 64 ((IntKind.u64.wrap value_1).fdiv 2) &&& BitVec.ofInt 64 6148914691236517205).toNat : Int)) + IntKind.u64.wrap (((BitVec.ofInt 64 (IntKind.u64.wrap value_1) &&& BitVec.ofInt 64 6148914691236517205).toNat : Int)))) &&& BitVec.ofInt 64 3689348814741910323).toNat : Int))))) &&& BitVec.ofInt 64 1085102592571150095).toNat : Int)) + (IntKind.u64.wrap (((BitVec.ofInt 64 (IntKind.u64.wrap ((IntKind.u64.wrap (IntKind.u64.wrap (((BitVec.ofInt 64 ((IntKind.u64.wrap (IntKind.u64.wrap (((BitVec.ofInt 64 ((IntKind.u64.wrap value_1).fdiv 2) &&& BitVec.ofInt 64 6148914691236517205).toNat : Int)) + IntKind.u64.wrap (((BitVec.ofInt 64 (IntKind.u64.wrap value_1) &&& BitVec.ofInt 64 6148914691236517205).toNat : Int)))).fdiv 4) &&& BitVec.ofInt 64 3689348814741910323).toNat : Int)) + IntKind.u64.wrap (((BitVec.ofInt 64 (IntKind.u64.wrap (IntKind.u64.wrap (((BitVec.ofInt 64 ((IntKind.u64.wrap value_1).fdiv 2) &&& BitVec.ofInt 64 6148914691236517205).toNat : Int)) + IntKind.u64.wrap (((BitVec.ofInt 64 (IntKind.u64.wrap value_1) &&& BitVec.ofInt 64 6148914691236517205).toNat : Int)))) &&& BitVec.ofInt 64 3689348814741910323).toNat : Int)))).fdiv 16 + IntKind.u64.wrap (IntKind.u64.wrap (((BitVec.ofInt 64 ((IntKind.u64.wrap (IntKind.u64.wrap (((BitVec.ofInt 64 ((IntKind.u64.wrap value_1).fdiv 2) &&& BitVec.ofInt 64 6148914691236517205).toNat : Int)) + IntKind.u64.wrap (((BitVec.ofInt 64 (IntKind.u64.wrap value_1) &&& BitVec.ofInt 64 6148914691236517205).toNat : Int)))).fdiv 4) &&& BitVec.ofInt 64 3689348814741910323).toNat : Int)) + IntKind.u64.wrap (((BitVec.ofInt 64 (IntKind.u64.wrap (IntKind.u64.wrap (((BitVec.ofInt 64 ((IntKind.u64.wrap value_1).fdiv 2) &&& BitVec.ofInt 64 6148914691236517205).toNat : Int)) + IntKind.u64.wrap (((BitVec.ofInt 64 (IntKind.u64.wrap value_1) &&& BitVec.ofInt 64 6148914691236517205).toNat : Int)))) &&& BitVec.ofInt 64 3689348814741910323).toNat : Int))))) &&& BitVec.ofInt 64 1085102592571150095).toNat : Int))).fdiv 256) + (IntKind.u64.wrap (IntKind.u64.wrap (((BitVec.ofInt 64 (IntKind.u64.wrap ((IntKind.u64.wrap (IntKind.u64.wrap (((BitVec.ofInt 64 ((IntKind.u64.wrap (IntKind.u64.wrap (((BitVec.ofInt 64 ((IntKind.u64.wrap value_1).fdiv 2) &&& BitVec.ofInt 64 6148914691236517205).toNat : Int)) + IntKind.u64.wrap (((BitVec.ofInt 64 (IntKind.u64.wrap value_1) &&& BitVec.ofInt 64 6148914691236517205).toNat : Int)))).fdiv 4) &&& BitVec.ofInt 64 3689348814741910323).toNat : Int)) + IntKind.u64.wrap (((BitVec.ofInt 64 (IntKind.u64.wrap (IntKind.u64.wrap (((BitVec.ofInt 64 ((IntKind.u64.wrap value_1).fdiv 2) &&& BitVec.ofInt 64 6148914691236517205).toNat : Int)) + IntKind.u64.wrap (((BitVec.ofInt 64 (IntKind.u64.wrap value_1) &&& BitVec.ofInt 64 6148914691236517205).toNat : Int)))) &&& BitVec.ofInt 64 3689348814741910323).toNat : Int)))).fdiv 16 + IntKind.u64.wrap (IntKind.u64.wrap (((BitVec.ofInt 64 ((IntKind.u64.wrap (IntKind.u64.wrap (((BitVec.ofInt 64 ((IntKind.u64.wrap value_1).fdiv 2) &&& BitVec.ofInt 64 6148914691236517205).toNat : Int)) + IntKind.u64.wrap (((BitVec.ofInt 64 (IntKind.u64.wrap value_1) &&& BitVec.ofInt 64 6148914691236517205).toNat : Int)))).fdiv 4) &&& BitVec.ofInt 64 3689348814741910323).toNat : Int)) + IntKind.u64.wrap (((BitVec.ofInt 64 (IntKind.u64.wrap (IntKind.u64.wrap (((BitVec.ofInt 64 ((IntKind.u64.wrap value_1).fdiv 2) &&& BitVec.ofInt 64 6148914691236517205).toNat : Int)) + IntKind.u64.wrap (((BitVec.ofInt 64 (IntKind.u64.wrap value_1) &&& BitVec.ofInt 64 6148914691236517205).toNat : Int)))) &&& BitVec.ofInt 64 3689348814741910323).toNat : Int))))) &&& BitVec.ofInt 64 1085102592571150095).toNat : Int)) + (IntKind.u64.wrap (((BitVec.ofInt 64 (IntKind.u64.wrap ((IntKind.u64.wrap (IntKind.u64.wrap (((BitVec.ofInt 64 ((IntKind.u64.wrap (IntKind.u64.wrap (((BitVec.ofInt 64 ((IntKind.u64.wrap value_1).fdiv 2) &&& BitVec.ofInt 64 6148914691236517205).toNat : Int)) + IntKind.u64.wrap (((BitVec.ofInt 64 (IntKind.u64.wrap value_1) &&& BitVec.ofInt 64 6148914691236517205).toNat : Int)))).fdiv 4) &&& BitVec.ofInt 64 3689348814741910323).toNat : Int)) + IntKind.u64.wrap (((BitVec.ofInt 64 (IntKind.u64.wrap (IntKind.u64.wrap (((BitVec.ofInt 64 ((IntKind.u64.wrap value_1).fdiv 2) &&& BitVec.ofInt 64 6148914691236517205).toNat : Int)) + IntKind.u64.wrap (((BitVec.ofInt 64 (IntKind.u64.wrap value_1) &&& BitVec.ofInt 64 6148914691236517205).toNat : Int)))) &&& BitVec.ofInt 64 3689348814741910323).toNat : Int)))).fdiv 16 + IntKind.u64.wrap (IntKind.u64.wrap (((BitVec.ofInt 64 ((IntKind.u64.wrap (IntKind.u64.wrap (((BitVec.ofInt 64 ((IntKind.u64.wrap value_1).fdiv 2) &&& BitVec.ofInt 64 6148914691236517205).toNat : Int)) + IntKind.u64.wrap (((BitVec.ofInt 64 (IntKind.u64.wrap value_1) &&& BitVec.ofInt 64 6148914691236517205).toNat : Int)))).fdiv 4) &&& BitVec.ofInt 64 3689348814741910323).toNat : Int)) + IntKind.u64.wrap (((BitVec.ofInt 64 (IntKind.u64.wrap (IntKind.u64.wrap (((BitVec.ofInt 64 ((IntKind.u64.wrap value_1).fdiv 2) &&& BitVec.ofInt 64 6148914691236517205).toNat : Int)) + IntKind.u64.wrap (((BitVec.ofInt 64 (IntKind.u64.wrap value_1) &&& BitVec.ofInt 64 6148914691236517205).toNat : Int)))) &&& BitVec.ofInt 64 3689348814741910323).toNat : Int))))) &&& BitVec.ofInt 64 1085102592571150095).toNat : Int))).fdiv 256)).fdiv 65536)).fdiv 4294967296))) &&& BitVec.ofInt 64 127).toNat : Int))).tmod 2)
theorem uart_parity_pre (m : Nat) (c_0 : Uart) (value_1 : Int) : funK Try.prog (Ψ_uart_parity m) keep m 1 53 [(dS of_Uart cells_Uart of_Uart_ok).e c_0, (dInt .i64).e value_1] = b_uart_parity m (fun x0 => some (w_uart_parity x0)) c_0 value_1 := by kernel_rfl
theorem b_uart_parity_map (m : Nat) (c_0 : Uart) (value_1 : Int) : b_uart_parity m (fun x0 => some (w_uart_parity x0)) c_0 value_1 = (b_uart_parity m (fun x0 => some x0) c_0 value_1).map w_uart_parity := by
  simp only [b_uart_parity, cond_map, bind_map, map_none, map_some]
noncomputable def uart_parity (m : Nat) (c_0 : Uart) (value_1 : Int) : Option (Int) := b_uart_parity m (fun x0 => some x0) c_0 value_1
theorem uart_parity_fun (m : Nat) (c_0 : Uart) (value_1 : Int) : funK Try.prog (Ψ_uart_parity m) keep m 1 53 [(dS of_Uart cells_Uart of_Uart_ok).e c_0, (dInt .i64).e value_1] = (uart_parity m c_0 value_1).map w_uart_parity := by
  rw [uart_parity_pre]
  exact b_uart_parity_map m c_0 value_1
noncomputable def K_uart_parity (m : Nat) : KnownF C := mkK (dCons (dS of_Uart cells_Uart of_Uart_ok) (dCons (dInt .i64) dNil)) (fun a => uart_parity m a.1 a.2.1) w_uart_parity
theorem K_uart_parity_ok (m : Nat) : KnownAt C Try.prog 53 fun l => (K_uart_parity m).run _ l some :=
  mkK_known good fit (Ψ_uart_parity_ok m) (keep := keep) (m := m) (d := 1) fun a => uart_parity_fun m a.1 a.2.1
/-! ### signalbench/uart.samples -/
noncomputable def Ψ_uart_samples (m : Nat) : Known C := fun f => match f with
  | 32 => some (K_uart_size m)
  | 53 => some (K_uart_parity m)
  | _ => none
theorem Ψ_uart_samples_ok (m : Nat) : KnownOk C Try.prog (Ψ_uart_samples m) := by
  intro f φ h
  unfold Ψ_uart_samples at h
  split at h
  · injection h with h; subst h; exact K_uart_size_ok m
  · injection h with h; subst h; exact K_uart_parity_ok m
  · cases h
def w_uart_samples (b : Int) : List (RV C) := [(dInt .i64).e b]
noncomputable def b_uart_samples {R : Type} (m : Nat) (ret : Int → Option R) (c_0 : Uart) (x_1 : Item) : Option R :=
 bif x_1.Aux == 1 then
 ret 0
 else
 (uart_size m c_0).bind fun r0 =>
 bif decide (c_0.Stop < 0) then
 none
 else
 bif decide (IntKind.i64.wrap (r0 - c_0.Stop) < 0) then
 none
 else
 bif c_0.Parity != 0 then
 ((uart_parity m c_0 x_1.Value).bind fun r1 =>
 bif x_1.Fault == 2 then
 bif decide (IntKind.i64.wrap (1 + c_0.Bits) < 0) then
 none
 else
 bif x_1.Fault == 1 then
 bif decide (IntKind.i64.wrap (r0 - 1) < 0) then
 none
 else
 ret (IntKind.i64.wrap (((BitVec.ofInt 64 (IntKind.i64.wrap (((BitVec.ofInt 64 (IntKind.i64.wrap (((BitVec.ofInt 64 (IntKind.i64.wrap (x_1.Value * 2)) ||| BitVec.ofInt 64 (IntKind.i64.wrap (IntKind.i64.wrap (IntKind.i64.wrap (1 * 2 ^ min c_0.Stop.toNat 64) - 1) * 2 ^ min (IntKind.i64.wrap (r0 - c_0.Stop)).toNat 64))).toNat : Int))) ||| BitVec.ofInt 64 (IntKind.i64.wrap (IntKind.i64.wrap (1 - r1) * 2 ^ min (IntKind.i64.wrap (1 + c_0.Bits)).toNat 64))).toNat : Int))) &&& ~~~BitVec.ofInt 64 (IntKind.i64.wrap (1 * 2 ^ min (IntKind.i64.wrap (r0 - 1)).toNat 64))).toNat : Int)))
 else
 ret (IntKind.i64.wrap (((BitVec.ofInt 64 (IntKind.i64.wrap (((BitVec.ofInt 64 (IntKind.i64.wrap (x_1.Value * 2)) ||| BitVec.ofInt 64 (IntKind.i64.wrap (IntKind.i64.wrap (IntKind.i64.wrap (1 * 2 ^ min c_0.Stop.toNat 64) - 1) * 2 ^ min (IntKind.i64.wrap (r0 - c_0.Stop)).toNat 64))).toNat : Int))) ||| BitVec.ofInt 64 (IntKind.i64.wrap (IntKind.i64.wrap (1 - r1) * 2 ^ min (IntKind.i64.wrap (1 + c_0.Bits)).toNat 64))).toNat : Int)))
 else
 bif decide (IntKind.i64.wrap (1 + c_0.Bits) < 0) then
 none
 else
 bif x_1.Fault == 1 then
 bif decide (IntKind.i64.wrap (r0 - 1) < 0) then
 none
 else
 ret (IntKind.i64.wrap (((BitVec.ofInt 64 (IntKind.i64.wrap (((BitVec.ofInt 64 (IntKind.i64.wrap (((BitVec.ofInt 64 (IntKind.i64.wrap (x_1.Value * 2)) ||| BitVec.ofInt 64 (IntKind.i64.wrap (IntKind.i64.wrap (IntKind.i64.wrap (1 * 2 ^ min c_0.Stop.toNat 64) - 1) * 2 ^ min (IntKind.i64.wrap (r0 - c_0.Stop)).toNat 64))).toNat : Int))) ||| BitVec.ofInt 64 (IntKind.i64.wrap (r1 * 2 ^ min (IntKind.i64.wrap (1 + c_0.Bits)).toNat 64))).toNat : Int))) &&& ~~~BitVec.ofInt 64 (IntKind.i64.wrap (1 * 2 ^ min (IntKind.i64.wrap (r0 - 1)).toNat 64))).toNat : Int)))
 else
 ret (IntKind.i64.wrap (((BitVec.ofInt 64 (IntKind.i64.wrap (((BitVec.ofInt 64 (IntKind.i64.wrap (x_1.Value * 2)) ||| BitVec.ofInt 64 (IntKind.i64.wrap (IntKind.i64.wrap (IntKind.i64.wrap (1 * 2 ^ min c_0.Stop.toNat 64) - 1) * 2 ^ min (IntKind.i64.wrap (r0 - c_0.Stop)).toNat 64))).toNat : Int))) ||| BitVec.ofInt 64 (IntKind.i64.wrap (r1 * 2 ^ min (IntKind.i64.wrap (1 + c_0.Bits)).toNat 64))).toNat : Int))))
 else
 bif x_1.Fault == 1 then
 bif decide (IntKind.i64.wrap (r0 - 1) < 0) then
 none
 else
 ret (IntKind.i64.wrap (((BitVec.ofInt 64 (IntKind.i64.wrap (((BitVec.ofInt 64 (IntKind.i64.wrap (x_1.Value * 2)) ||| BitVec.ofInt 64 (IntKind.i64.wrap (IntKind.i64.wrap (IntKind.i64.wrap (1 * 2 ^ min c_0.Stop.toNat 64) - 1) * 2 ^ min (IntKind.i64.wrap (r0 - c_0.Stop)).toNat 64))).toNat : Int))) &&& ~~~BitVec.ofInt 64 (IntKind.i64.wrap (1 * 2 ^ min (IntKind.i64.wrap (r0 - 1)).toNat 64))).toNat : Int)))
 else
 ret (IntKind.i64.wrap (((BitVec.ofInt 64 (IntKind.i64.wrap (x_1.Value * 2)) ||| BitVec.ofInt 64 (IntKind.i64.wrap (IntKind.i64.wrap (IntKind.i64.wrap (1 * 2 ^ min c_0.Stop.toNat 64) - 1) * 2 ^ min (IntKind.i64.wrap (r0 - c_0.Stop)).toNat 64))).toNat : Int)))
theorem uart_samples_pre (m : Nat) (c_0 : Uart) (x_1 : Item) : funK Try.prog (Ψ_uart_samples m) keep m 1 44 [(dS of_Uart cells_Uart of_Uart_ok).e c_0, (dS of_Item cells_Item of_Item_ok).e x_1] = b_uart_samples m (fun x0 => some (w_uart_samples x0)) c_0 x_1 := by kernel_rfl
theorem b_uart_samples_map (m : Nat) (c_0 : Uart) (x_1 : Item) : b_uart_samples m (fun x0 => some (w_uart_samples x0)) c_0 x_1 = (b_uart_samples m (fun x0 => some x0) c_0 x_1).map w_uart_samples := by
  simp only [b_uart_samples, cond_map, bind_map, map_none, map_some]
noncomputable def uart_samples (m : Nat) (c_0 : Uart) (x_1 : Item) : Option (Int) := b_uart_samples m (fun x0 => some x0) c_0 x_1
theorem uart_samples_fun (m : Nat) (c_0 : Uart) (x_1 : Item) : funK Try.prog (Ψ_uart_samples m) keep m 1 44 [(dS of_Uart cells_Uart of_Uart_ok).e c_0, (dS of_Item cells_Item of_Item_ok).e x_1] = (uart_samples m c_0 x_1).map w_uart_samples := by
  rw [uart_samples_pre]
  exact b_uart_samples_map m c_0 x_1
noncomputable def K_uart_samples (m : Nat) : KnownF C := mkK (dCons (dS of_Uart cells_Uart of_Uart_ok) (dCons (dS of_Item cells_Item of_Item_ok) dNil)) (fun a => uart_samples m a.1 a.2.1) w_uart_samples
theorem K_uart_samples_ok (m : Nat) : KnownAt C Try.prog 44 fun l => (K_uart_samples m).run _ l some :=
  mkK_known good fit (Ψ_uart_samples_ok m) (keep := keep) (m := m) (d := 1) fun a => uart_samples_fun m a.1 a.2.1
/-! ### signalbench/uart.refused -/
noncomputable def Ψ_uart_refused (m : Nat) : Known C := fun f => match f with
  | 44 => some (K_uart_samples m)
  | _ => none
theorem Ψ_uart_refused_ok (m : Nat) : KnownOk C Try.prog (Ψ_uart_refused m) := by
  intro f φ h
  unfold Ψ_uart_refused at h
  split at h
  · injection h with h; subst h; exact K_uart_samples_ok m
  · cases h
def w_uart_refused (b : Int) : List (RV C) := [(dInt .i64).e b]
noncomputable def b_uart_refused {R : Type} (m : Nat) (ret : Int → Option R) (c_0 : Uart) (x_1 : Item) : Option R :=
 bif decide (x_1.Gap < 0) then
 ret 1
 else
 bif decide (x_1.Gap > 1048576) then
 ret 1
 else
 bif decide ((x_1.Data.size : Int) > 4096) then
 ret 6
 else
 bif x_1.Aux != 0 then
 (bif x_1.Aux != 1 then
 ret 2
 else
 bif decide (x_1.Value < 0) then
 ret 2
 else
 bif decide (c_0.Bits < 0) then
 none
 else
 bif decide (x_1.Value ≥ IntKind.i64.wrap (1 * 2 ^ min c_0.Bits.toNat 64)) then
 ret 2
 else
 bif x_1.Fault != 0 then
 (bif x_1.Fault != 1 then
 (bif x_1.Fault != 2 then
 ret 1
 else
 bif x_1.Aux == 1 then
 (bif x_1.Value != 0 then
 ret 1
 else
 bif x_1.Fault != 0 then
 ret 1
 else
 bif x_1.Fault == 2 then
 (bif c_0.Parity == 0 then
 ret 17
 else
 bif x_1.Fault == 1 then
 ((uart_samples m c_0 x_1).bind fun r0 =>
 bif r0 == 0 then
 ret 17
 else
 bif !x_1.Data.toList == (bs []).toList then
 ret 1
 else
 ret 0)
 else
 bif !x_1.Data.toList == (bs []).toList then
 ret 1
 else
 ret 0)
 else
 bif x_1.Fault == 1 then
 ((uart_samples m c_0 x_1).bind fun r1 =>
 bif r1 == 0 then
 ret 17
 else
 bif !x_1.Data.toList == (bs []).toList then
 ret 1
 else
 ret 0)
 else
 bif !x_1.Data.toList == (bs []).toList then
 ret 1
 else
 ret 0)
 else
 bif x_1.Fault == 2 then
 (bif c_0.Parity == 0 then
 ret 17
 else
 bif x_1.Fault == 1 then
 ((uart_samples m c_0 x_1).bind fun r2 =>
 bif r2 == 0 then
 ret 17
 else
 bif !x_1.Data.toList == (bs []).toList then
 ret 1
 else
 ret 0)
 else
 bif !x_1.Data.toList == (bs []).toList then
 ret 1
 else
 ret 0)
 else
 bif x_1.Fault == 1 then
 ((uart_samples m c_0 x_1).bind fun r3 =>
 bif r3 == 0 then
 ret 17
 else
 bif !x_1.Data.toList == (bs []).toList then
 ret 1
 else
 ret 0)
 else
 bif !x_1.Data.toList == (bs []).toList then
 ret 1
 else
 ret 0)
 else
 bif x_1.Aux == 1 then
 (bif x_1.Value != 0 then
 ret 1
 else
 bif x_1.Fault != 0 then
 ret 1
 else
 bif x_1.Fault == 2 then
 (bif c_0.Parity == 0 then
 ret 17
 else
 bif x_1.Fault == 1 then
 ((uart_samples m c_0 x_1).bind fun r4 =>
 bif r4 == 0 then
 ret 17
 else
 bif !x_1.Data.toList == (bs []).toList then
 ret 1
 else
 ret 0)
 else
 bif !x_1.Data.toList == (bs []).toList then
 ret 1
 else
 ret 0)
 else
 bif x_1.Fault == 1 then
 ((uart_samples m c_0 x_1).bind fun r5 =>
 bif r5 == 0 then
 ret 17
 else
 bif !x_1.Data.toList == (bs []).toList then
 ret 1
 else
 ret 0)
 else
 bif !x_1.Data.toList == (bs []).toList then
 ret 1
 else
 ret 0)
 else
 bif x_1.Fault == 2 then
 (bif c_0.Parity == 0 then
 ret 17
 else
 bif x_1.Fault == 1 then
 ((uart_samples m c_0 x_1).bind fun r6 =>
 bif r6 == 0 then
 ret 17
 else
 bif !x_1.Data.toList == (bs []).toList then
 ret 1
 else
 ret 0)
 else
 bif !x_1.Data.toList == (bs []).toList then
 ret 1
 else
 ret 0)
 else
 bif x_1.Fault == 1 then
 ((uart_samples m c_0 x_1).bind fun r7 =>
 bif r7 == 0 then
 ret 17
 else
 bif !x_1.Data.toList == (bs []).toList then
 ret 1
 else
 ret 0)
 else
 bif !x_1.Data.toList == (bs []).toList then
 ret 1
 else
 ret 0)
 else
 bif x_1.Aux == 1 then
 (bif x_1.Value != 0 then
 ret 1
 else
 bif x_1.Fault != 0 then
 ret 1
 else
 bif x_1.Fault == 2 then
 (bif c_0.Parity == 0 then
 ret 17
 else
 bif x_1.Fault == 1 then
 ((uart_samples m c_0 x_1).bind fun r8 =>
 bif r8 == 0 then
 ret 17
 else
 bif !x_1.Data.toList == (bs []).toList then
 ret 1
 else
 ret 0)
 else
 bif !x_1.Data.toList == (bs []).toList then
 ret 1
 else
 ret 0)
 else
 bif x_1.Fault == 1 then
 ((uart_samples m c_0 x_1).bind fun r9 =>
 bif r9 == 0 then
 ret 17
 else
 bif !x_1.Data.toList == (bs []).toList then
 ret 1
 else
 ret 0)
 else
 bif !x_1.Data.toList == (bs []).toList then
 ret 1
 else
 ret 0)
 else
 bif x_1.Fault == 2 then
 (bif c_0.Parity == 0 then
 ret 17
 else
 bif x_1.Fault == 1 then
 ((uart_samples m c_0 x_1).bind fun r10 =>
 bif r10 == 0 then
 ret 17
 else
 bif !x_1.Data.toList == (bs []).toList then
 ret 1
 else
 ret 0)
 else
 bif !x_1.Data.toList == (bs []).toList then
 ret 1
 else
 ret 0)
 else
 bif x_1.Fault == 1 then
 ((uart_samples m c_0 x_1).bind fun r11 =>
 bif r11 == 0 then
 ret 17
 else
 bif !x_1.Data.toList == (bs []).toList then
 ret 1
 else
 ret 0)
 else
 bif !x_1.Data.toList == (bs []).toList then
 ret 1
 else
 ret 0)
 else
 bif decide (x_1.Value < 0) then
 ret 2
 else
 bif decide (c_0.Bits < 0) then
 none
 else
 bif decide (x_1.Value ≥ IntKind.i64.wrap (1 * 2 ^ min c_0.Bits.toNat 64)) then
 ret 2
 else
 bif x_1.Fault != 0 then
 (bif x_1.Fault != 1 then
 (bif x_1.Fault != 2 then
 ret 1
 else
 bif x_1.Aux == 1 then
 (bif x_1.Value != 0 then
 ret 1
 else
 bif x_1.Fault != 0 then
 ret 1
 else
 bif x_1.Fault == 2 then
 (bif c_0.Parity == 0 then
 ret 17
 else
 bif x_1.Fault == 1 then
 ((uart_samples m c_0 x_1).bind fun r12 =>
 bif r12 == 0 then
 ret 17
 else
 bif !x_1.Data.toList == (bs []).toList then
 ret 1
 else
 ret 0)
 else
 bif !x_1.Data.toList == (bs []).toList then
 ret 1
 else
 ret 0)
 else
 bif x_1.Fault == 1 then
 ((uart_samples m c_0 x_1).bind fun r13 =>
 bif r13 == 0 then
 ret 17
 else
 bif !x_1.Data.toList == (bs []).toList then
 ret 1
 else
 ret 0)
 else
 bif !x_1.Data.toList == (bs []).toList then
 ret 1
 else
 ret 0)
 else
 bif x_1.Fault == 2 then
 (bif c_0.Parity == 0 then
 ret 17
 else
 bif x_1.Fault == 1 then
 ((uart_samples m c_0 x_1).bind fun r14 =>
 bif r14 == 0 then
 ret 17
 else
 bif !x_1.Data.toList == (bs []).toList then
 ret 1
 else
 ret 0)
 else
 bif !x_1.Data.toList == (bs []).toList then
 ret 1
 else
 ret 0)
 else
 bif x_1.Fault == 1 then
 ((uart_samples m c_0 x_1).bind fun r15 =>
 bif r15 == 0 then
 ret 17
 else
 bif !x_1.Data.toList == (bs []).toList then
 ret 1
 else
 ret 0)
 else
 bif !x_1.Data.toList == (bs []).toList then
 ret 1
 else
 ret 0)
 else
 bif x_1.Aux == 1 then
 (bif x_1.Value != 0 then
 ret 1
 else
 bif x_1.Fault != 0 then
 ret 1
 else
 bif x_1.Fault == 2 then
 (bif c_0.Parity == 0 then
 ret 17
 else
 bif x_1.Fault == 1 then
 ((uart_samples m c_0 x_1).bind fun r16 =>
 bif r16 == 0 then
 ret 17
 else
 bif !x_1.Data.toList == (bs []).toList then
 ret 1
 else
 ret 0)
 else
 bif !x_1.Data.toList == (bs []).toList then
 ret 1
 else
 ret 0)
 else
 bif x_1.Fault == 1 then
 ((uart_samples m c_0 x_1).bind fun r17 =>
 bif r17 == 0 then
 ret 17
 else
 bif !x_1.Data.toList == (bs []).toList then
 ret 1
 else
 ret 0)
 else
 bif !x_1.Data.toList == (bs []).toList then
 ret 1
 else
 ret 0)
 else
 bif x_1.Fault == 2 then
 (bif c_0.Parity == 0 then
 ret 17
 else
 bif x_1.Fault == 1 then
 ((uart_samples m c_0 x_1).bind fun r18 =>
 bif r18 == 0 then
 ret 17
 else
 bif !x_1.Data.toList == (bs []).toList then
 ret 1
 else
 ret 0)
 else
 bif !x_1.Data.toList == (bs []).toList then
 ret 1
 else
 ret 0)
 else
 bif x_1.Fault == 1 then
 ((uart_samples m c_0 x_1).bind fun r19 =>
 bif r19 == 0 then
 ret 17
 else
 bif !x_1.Data.toList == (bs []).toList then
 ret 1
 else
 ret 0)
 else
 bif !x_1.Data.toList == (bs []).toList then
 ret 1
 else
 ret 0)
 else
 bif x_1.Aux == 1 then
 (bif x_1.Value != 0 then
 ret 1
 else
 bif x_1.Fault != 0 then
 ret 1
 else
 bif x_1.Fault == 2 then
 (bif c_0.Parity == 0 then
 ret 17
 else
 bif x_1.Fault == 1 then
 ((uart_samples m c_0 x_1).bind fun r20 =>
 bif r20 == 0 then
 ret 17
 else
 bif !x_1.Data.toList == (bs []).toList then
 ret 1
 else
 ret 0)
 else
 bif !x_1.Data.toList == (bs []).toList then
 ret 1
 else
 ret 0)
 else
 bif x_1.Fault == 1 then
 ((uart_samples m c_0 x_1).bind fun r21 =>
 bif r21 == 0 then
 ret 17
 else
 bif !x_1.Data.toList == (bs []).toList then
 ret 1
 else
 ret 0)
 else
 bif !x_1.Data.toList == (bs []).toList then
 ret 1
 else
 ret 0)
 else
 bif x_1.Fault == 2 then
 (bif c_0.Parity == 0 then
 ret 17
 else
 bif x_1.Fault == 1 then
 ((uart_samples m c_0 x_1).bind fun r22 =>
 bif r22 == 0 then
 ret 17
 else
 bif !x_1.Data.toList == (bs []).toList then
 ret 1
 else
 ret 0)
 else
 bif !x_1.Data.toList == (bs []).toList then
 ret 1
 else
 ret 0)
 else
 bif x_1.Fault == 1 then
 ((uart_samples m c_0 x_1).bind fun r23 =>
 bif r23 == 0 then
 ret 17
 else
 bif !x_1.Data.toList == (bs []).toList then
 ret 1
 else
 ret 0)
 else
 bif !x_1.Data.toList == (bs []).toList then
 ret 1
 else
 ret 0
theorem uart_refused_pre (m : Nat) (c_0 : Uart) (x_1 : Item) : funK Try.prog (Ψ_uart_refused m) keep m 1 42 [(dS of_Uart cells_Uart of_Uart_ok).e c_0, (dS of_Item cells_Item of_Item_ok).e x_1] = b_uart_refused m (fun x0 => some (w_uart_refused x0)) c_0 x_1 := by kernel_rfl
theorem b_uart_refused_map (m : Nat) (c_0 : Uart) (x_1 : Item) : b_uart_refused m (fun x0 => some (w_uart_refused x0)) c_0 x_1 = (b_uart_refused m (fun x0 => some x0) c_0 x_1).map w_uart_refused := by
  simp only [b_uart_refused, cond_map, bind_map, map_none, map_some]
noncomputable def uart_refused (m : Nat) (c_0 : Uart) (x_1 : Item) : Option (Int) := b_uart_refused m (fun x0 => some x0) c_0 x_1
theorem uart_refused_fun (m : Nat) (c_0 : Uart) (x_1 : Item) : funK Try.prog (Ψ_uart_refused m) keep m 1 42 [(dS of_Uart cells_Uart of_Uart_ok).e c_0, (dS of_Item cells_Item of_Item_ok).e x_1] = (uart_refused m c_0 x_1).map w_uart_refused := by
  rw [uart_refused_pre]
  exact b_uart_refused_map m c_0 x_1
noncomputable def K_uart_refused (m : Nat) : KnownF C := mkK (dCons (dS of_Uart cells_Uart of_Uart_ok) (dCons (dS of_Item cells_Item of_Item_ok) dNil)) (fun a => uart_refused m a.1 a.2.1) w_uart_refused
theorem K_uart_refused_ok (m : Nat) : KnownAt C Try.prog 42 fun l => (K_uart_refused m).run _ l some :=
  mkK_known good fit (Ψ_uart_refused_ok m) (keep := keep) (m := m) (d := 1) fun a => uart_refused_fun m a.1 a.2.1
/-! ### signalbench/uart.Encode$1 -/
def w_uart_Encode_1 (b : Int × List Run) : List (RV C) := [(dInt .i64).e b.1, (dRow 59).e b.2]
noncomputable def b_uart_Encode_1 {R : Type} (m : Nat) (ret : Int → List Run → Option R) (level_0 : Int) (ticks_1 : Int) (t2 : Int) (t3 : List Run) : Option R :=
 bif decide ((t3.length : Int) > 0) then
 bif decide (0 ≤ IntKind.i64.wrap ((t3.length : Int) - 1)) then
 bif decide (IntKind.i64.wrap ((t3.length : Int) - 1) < (t3.length : Int)) then
 bif (t3.getD (IntKind.i64.wrap ((t3.length : Int) - 1)).toNat dflt_Run).Level == level_0 then
 bif decide (0 ≤ IntKind.i64.wrap ((t3.length : Int) - 1)) then
 bif decide (IntKind.i64.wrap ((t3.length : Int) - 1) < (t3.length : Int)) then
 bif decide (0 ≤ IntKind.i64.wrap ((t3.length : Int) - 1)) then
 bif decide (IntKind.i64.wrap ((t3.length : Int) - 1) < (t3.length : Int)) then
 ret (IntKind.i64.wrap (t2 + ticks_1)) (t3.set (IntKind.i64.wrap ((t3.length : Int) - 1)).toNat (Run.mk (t3.getD (IntKind.i64.wrap ((t3.length : Int) - 1)).toNat dflt_Run).Level (IntKind.i64.wrap ((t3.getD (IntKind.i64.wrap ((t3.length : Int) - 1)).toNat dflt_Run).Ticks + ticks_1))))
 else
 none
 else
 none
 else
 none
 else
 none
 else
 bif decide (ticks_1 > 0) then
 bif decide ((t3.length + 1) * 16 ≤ 140737488355328) then
 ret (IntKind.i64.wrap (t2 + ticks_1)) (t3 ++ [Run.mk level_0 ticks_1])
 else
 none
 else
 ret (IntKind.i64.wrap (t2 + ticks_1)) t3
 else
 none
 else
 none
 else
 bif decide (ticks_1 > 0) then
 bif decide ((t3.length + 1) * 16 ≤ 140737488355328) then
 ret (IntKind.i64.wrap (t2 + ticks_1)) (t3 ++ [Run.mk level_0 ticks_1])
 else
 none
 else
 ret (IntKind.i64.wrap (t2 + ticks_1)) t3
theorem uart_Encode_1_pre (m : Nat) (level_0 : Int) (ticks_1 : Int) (t2 : Int) (t3 : List Run) : funE Try.prog Ψ0 keep m 1 43 [.no, .no, .box 3 [3], .box 44 [44]] [(dInt .i64).e level_0, (dInt .i64).e ticks_1, (dInt .i64).e t2, (dRow 59).e t3] = b_uart_Encode_1 m (fun x0 x1 => some (w_uart_Encode_1 (x0, x1))) level_0 ticks_1 t2 t3 := by kernel_rfl
theorem b_uart_Encode_1_map (m : Nat) (level_0 : Int) (ticks_1 : Int) (t2 : Int) (t3 : List Run) : b_uart_Encode_1 m (fun x0 x1 => some (w_uart_Encode_1 (x0, x1))) level_0 ticks_1 t2 t3 = (b_uart_Encode_1 m (fun x0 x1 => some (x0, x1)) level_0 ticks_1 t2 t3).map w_uart_Encode_1 := by
  simp only [b_uart_Encode_1, cond_map, bind_map, map_none, map_some]
noncomputable def uart_Encode_1 (m : Nat) (level_0 : Int) (ticks_1 : Int) (t2 : Int) (t3 : List Run) : Option (Int × List Run) := b_uart_Encode_1 m (fun x0 x1 => some (x0, x1)) level_0 ticks_1 t2 t3
theorem uart_Encode_1_fun (m : Nat) (level_0 : Int) (ticks_1 : Int) (t2 : Int) (t3 : List Run) : funE Try.prog Ψ0 keep m 1 43 [.no, .no, .box 3 [3], .box 44 [44]] [(dInt .i64).e level_0, (dInt .i64).e ticks_1, (dInt .i64).e t2, (dRow 59).e t3] = (uart_Encode_1 m level_0 ticks_1 t2 t3).map w_uart_Encode_1 := by
  rw [uart_Encode_1_pre]
  exact b_uart_Encode_1_map m level_0 ticks_1 t2 t3
noncomputable def K_uart_Encode_1 (m : Nat) : KnownF C := mkE [.no, .no, .box 3 [3], .box 44 [44]] (dCons (dInt .i64) (dCons (dInt .i64) (dCons (dInt .i64) (dCons (dRow 59) dNil)))) (fun a => uart_Encode_1 m a.1 a.2.1 a.2.2.1 a.2.2.2.1) w_uart_Encode_1
theorem K_uart_Encode_1_ok (m : Nat) : KnownAtE C Try.prog 43 [.no, .no, .box 3 [3], .box 44 [44]] fun l => (K_uart_Encode_1 m).run _ l some :=
  mkE_known good fit Ψ0_ok (keep := keep) (m := m) (d := 1) fun a => uart_Encode_1_fun m a.1 a.2.1 a.2.2.1 a.2.2.2.1
/-! ### signalbench/uart.halves -/
def w_uart_halves (b : Int) : List (RV C) := [(dInt .i64).e b]
noncomputable def b_uart_halves {R : Type} (m : Nat) (ret : Int → Option R) (c_0 : Uart) (n_1 : Int) : Option R :=
 bif decide (IntKind.i64.wrap (2 * c_0.T_Den) = 0) then
 none
 else
 ret (IntKind.i64.wrap ((IntKind.i64.wrap (n_1 * c_0.T_Num)).tdiv (IntKind.i64.wrap (2 * c_0.T_Den))))
theorem uart_halves_pre (m : Nat) (c_0 : Uart) (n_1 : Int) : funK Try.prog Ψ0 keep m 1 31 [(dS of_Uart cells_Uart of_Uart_ok).e c_0, (dInt .i64).e n_1] = b_uart_halves m (fun x0 => some (w_uart_halves x0)) c_0 n_1 := by kernel_rfl
theorem b_uart_halves_map (m : Nat) (c_0 : Uart) (n_1 : Int) : b_uart_halves m (fun x0 => some (w_uart_halves x0)) c_0 n_1 = (b_uart_halves m (fun x0 => some x0) c_0 n_1).map w_uart_halves := by
  simp only [b_uart_halves, cond_map, bind_map, map_none, map_some]
noncomputable def uart_halves (m : Nat) (c_0 : Uart) (n_1 : Int) : Option (Int) := b_uart_halves m (fun x0 => some x0) c_0 n_1
theorem uart_halves_fun (m : Nat) (c_0 : Uart) (n_1 : Int) : funK Try.prog Ψ0 keep m 1 31 [(dS of_Uart cells_Uart of_Uart_ok).e c_0, (dInt .i64).e n_1] = (uart_halves m c_0 n_1).map w_uart_halves := by
  rw [uart_halves_pre]
  exact b_uart_halves_map m c_0 n_1
noncomputable def K_uart_halves (m : Nat) : KnownF C := mkK (dCons (dS of_Uart cells_Uart of_Uart_ok) (dCons (dInt .i64) dNil)) (fun a => uart_halves m a.1 a.2.1) w_uart_halves
theorem K_uart_halves_ok (m : Nat) : KnownAt C Try.prog 31 fun l => (K_uart_halves m).run _ l some :=
  mkK_known good fit Ψ0_ok (keep := keep) (m := m) (d := 1) fun a => uart_halves_fun m a.1 a.2.1
/-! ### signalbench/wave.Valid -/
def w_wave_Valid (b : Bool) : List (RV C) := [dBool.e b]
noncomputable def Q_wave_Valid_5 (m : Nat) : St C → (Exit → St C → Option (List (RV C))) → Option (List (RV C)) := fun σ k => codeK Try.prog Ψ0 (callK Try.prog Ψ0 keep m 0) (keep 60) m (subC body60 [.r, .r, .r, .l, .r, .b, .o]) σ k
noncomputable def KL_wave_Valid_5 (m : Nat) : Exit → St C → Option (List (RV C)) := contK Try.prog Ψ0 (callK Try.prog Ψ0 keep m 0) (keep 60) m body60 [.r, .r, .r, .l, .r, .b, .o] (leaveK Try.prog Try.f60.results.toList (finK Try.prog Try.f60.resultTypes.toList))
noncomputable def L_wave_Valid_l5 (m n : Nat) (left_3 : Int) (t10 : Int) (t11 : Int) (t9 : List Run) : Option (List (RV C)) := iterK (Q_wave_Valid_5 m) (St.norm (keep 60 5)) n ({ T := [.dead, .dead, .dead, .fl (.one (.int .i64 left_3)), .dead, .dead, .dead, .dead, .dead, .fl (.one (.sl 0)), .fl (.one (.int .i64 t10)), .fl (.one (.int .i64 t11))] ++ List.replicate 23 .dead, F := [[]], H := [.row 59 false t9] } : St C) (KL_wave_Valid_5 m)
noncomputable def b_wave_Valid_l5 {R : Type} (m : Nat) (ret : Bool → Option R) (k_l5 : Int → Int → Int → List Run → Option R) (left_3 : Int) (t10 : Int) (t11 : Int) (t9 : List Run) : Option R :=
 bif decide (t11 < t10) then
 bif decide (0 ≤ t11) then
 bif decide (t11 < (t9.length : Int)) then
 bif IntKind.i64.wrap (((BitVec.ofInt 64 (t9.getD t11.toNat dflt_Run).Level &&& ~~~BitVec.ofInt 64 1).toNat : Int)) != 0 then
 ret false
 else
 bif decide ((t9.getD t11.toNat dflt_Run).Ticks < 1) then
 ret false
 else
 bif decide ((t9.getD t11.toNat dflt_Run).Ticks > left_3) then
 ret false
 else
 k_l5 (IntKind.i64.wrap (left_3 - (t9.getD t11.toNat dflt_Run).Ticks)) t10 (IntKind.i64.wrap (t11 + 1)) t9
 else
 none
 else
 none
 else
 ret true
theorem L_wave_Valid_l5_step (m n : Nat) (left_3 : Int) (t10 : Int) (t11 : Int) (t9 : List Run) : L_wave_Valid_l5 m (n + 1) left_3 t10 t11 t9 = b_wave_Valid_l5 m (fun x0 => some (w_wave_Valid x0)) (fun left_3 t10 t11 t9 => L_wave_Valid_l5 m n left_3 t10 t11 t9) left_3 t10 t11 t9 := by kernel_rfl
theorem b_wave_Valid_l5_map (m : Nat) {k_l5 : Int → Int → Int → List Run → Option (List (RV C))} {q_l5 : Int → Int → Int → List Run → Option (Bool)} (h_l5 : ∀ left_3 t10 t11 t9, k_l5 left_3 t10 t11 t9 = (q_l5 left_3 t10 t11 t9).map w_wave_Valid) (left_3 : Int) (t10 : Int) (t11 : Int) (t9 : List Run) : b_wave_Valid_l5 m (fun x0 => some (w_wave_Valid x0)) k_l5 left_3 t10 t11 t9 = (b_wave_Valid_l5 m (fun x0 => some x0) q_l5 left_3 t10 t11 t9).map w_wave_Valid := by
  simp only [b_wave_Valid_l5, cond_map, bind_map, map_none, map_some, h_l5]
noncomputable def wave_Valid_l5 (m : Nat) : Nat → Int → Int → Int → List Run → Option (Bool)
  | 0, _, _, _, _ => none
  | n + 1, left_3, t10, t11, t9 => b_wave_Valid_l5 m (fun x0 => some x0) (fun left_3 t10 t11 t9 => wave_Valid_l5 m n left_3 t10 t11 t9) left_3 t10 t11 t9
theorem L_wave_Valid_l5_eq (m : Nat) : ∀ (n : Nat) (left_3 : Int) (t10 : Int) (t11 : Int) (t9 : List Run), L_wave_Valid_l5 m n left_3 t10 t11 t9 = (wave_Valid_l5 m n left_3 t10 t11 t9).map w_wave_Valid
  | 0, left_3, t10, t11, t9 => by kernel_rfl
  | n + 1, left_3, t10, t11, t9 => by
    rw [L_wave_Valid_l5_step]
    exact b_wave_Valid_l5_map m (fun left_3 t10 t11 t9 => L_wave_Valid_l5_eq m n left_3 t10 t11 t9) left_3 t10 t11 t9
noncomputable def b_wave_Valid {R : Type} (m : Nat) (ret : Bool → Option R) (k_l5 : Int → Int → Int → List Run → Option R) (l_0 : List Run) : Option R :=
 bif decide ((l_0.length : Int) > 262144) then
 ret false
 else
 k_l5 1099511627776 (l_0.length : Int) 0 l_0
theorem wave_Valid_pre (m : Nat) (l_0 : List Run) : funK Try.prog Ψ0 keep m 1 60 [(dRow 59).e l_0] = b_wave_Valid m (fun x0 => some (w_wave_Valid x0)) (fun left_3 t10 t11 t9 => L_wave_Valid_l5 m m left_3 t10 t11 t9) l_0 := by kernel_rfl
theorem b_wave_Valid_map (m : Nat) {k_l5 : Int → Int → Int → List Run → Option (List (RV C))} {q_l5 : Int → Int → Int → List Run → Option (Bool)} (h_l5 : ∀ left_3 t10 t11 t9, k_l5 left_3 t10 t11 t9 = (q_l5 left_3 t10 t11 t9).map w_wave_Valid) (l_0 : List Run) : b_wave_Valid m (fun x0 => some (w_wave_Valid x0)) k_l5 l_0 = (b_wave_Valid m (fun x0 => some x0) q_l5 l_0).map w_wave_Valid := by
  simp only [b_wave_Valid, cond_map, bind_map, map_none, map_some, h_l5]
noncomputable def wave_Valid (m : Nat) (l_0 : List Run) : Option (Bool) := b_wave_Valid m (fun x0 => some x0) (fun left_3 t10 t11 t9 => wave_Valid_l5 m m left_3 t10 t11 t9) l_0
theorem wave_Valid_fun (m : Nat) (l_0 : List Run) : funK Try.prog Ψ0 keep m 1 60 [(dRow 59).e l_0] = (wave_Valid m l_0).map w_wave_Valid := by
  rw [wave_Valid_pre]
  exact b_wave_Valid_map m (fun left_3 t10 t11 t9 => L_wave_Valid_l5_eq m m left_3 t10 t11 t9) l_0
noncomputable def K_wave_Valid (m : Nat) : KnownF C := mkK (dCons (dRow 59) dNil) (fun a => wave_Valid m a.1) w_wave_Valid
theorem K_wave_Valid_ok (m : Nat) : KnownAt C Try.prog 60 fun l => (K_wave_Valid m).run _ l some :=
  mkK_known good fit Ψ0_ok (keep := keep) (m := m) (d := 1) fun a => wave_Valid_fun m a.1
/-! ### signalbench/wave.joined -/
def w_wave_joined (b : List Run) : List (RV C) := [(dRow 59).e b]
noncomputable def Q_wave_joined_3 (m : Nat) : St C → (Exit → St C → Option (List (RV C))) → Option (List (RV C)) := fun σ k => codeK Try.prog Ψ0 (callK Try.prog Ψ0 keep m 0) (keep 61) m (subC body61 [.r, .r, .l, .r, .b, .o]) σ k
noncomputable def KL_wave_joined_3 (m : Nat) : Exit → St C → Option (List (RV C)) := contK Try.prog Ψ0 (callK Try.prog Ψ0 keep m 0) (keep 61) m body61 [.r, .r, .l, .r, .b, .o] (leaveK Try.prog Try.f61.results.toList (finK Try.prog Try.f61.resultTypes.toList))
noncomputable def L_wave_joined_l3 (m n : Nat) (t8 : Int) (t9 : Int) (out_3 : List Run) (t7 : List Run) : Option (List (RV C)) := iterK (Q_wave_joined_3 m) (St.norm (keep 61 3)) n ({ T := [.dead, .dead, .dead, .fl (.one (.sl 0)), .dead, .dead, .dead, .fl (.one (.sl 1)), .fl (.one (.int .i64 t8)), .fl (.one (.int .i64 t9))] ++ List.replicate 35 .dead, F := [[]], H := [.row 59 true out_3, .row 59 false t7] } : St C) (KL_wave_joined_3 m)
noncomputable def b_wave_joined_l3 {R : Type} (m : Nat) (ret : List Run → Option R) (k_l3 : Int → Int → List Run → List Run → Option R) (t8 : Int) (t9 : Int) (out_3 : List Run) (t7 : List Run) : Option R :=
 bif decide (t9 < t8) then
 bif decide (0 ≤ t9) then
 bif decide (t9 < (t7.length : Int)) then
 bif decide ((out_3.length : Int) > 0) then
 bif decide (0 ≤ IntKind.i64.wrap ((out_3.length : Int) - 1)) then
 bif decide (IntKind.i64.wrap ((out_3.length : Int) - 1) < (out_3.length : Int)) then
 bif (out_3.getD (IntKind.i64.wrap ((out_3.length : Int) - 1)).toNat dflt_Run).Level == (t7.getD t9.toNat dflt_Run).Level then
 bif decide (0 ≤ IntKind.i64.wrap ((out_3.length : Int) - 1)) then
 bif decide (IntKind.i64.wrap ((out_3.length : Int) - 1) < (out_3.length : Int)) then
 bif decide (0 ≤ IntKind.i64.wrap ((out_3.length : Int) - 1)) then
 bif decide (IntKind.i64.wrap ((out_3.length : Int) - 1) < (out_3.length : Int)) then
 k_l3 t8 (IntKind.i64.wrap (t9 + 1)) (out_3.set (IntKind.i64.wrap ((out_3.length : Int) - 1)).toNat (Run.mk (out_3.getD (IntKind.i64.wrap ((out_3.length : Int) - 1)).toNat dflt_Run).Level (IntKind.i64.wrap ((out_3.getD (IntKind.i64.wrap ((out_3.length : Int) - 1)).toNat dflt_Run).Ticks + (t7.getD t9.toNat dflt_Run).Ticks)))) t7
 else
 none
 else
 none
 else
 none
 else
 none
 else
 bif decide ((out_3.length + 1) * 16 ≤ 140737488355328) then
 k_l3 t8 (IntKind.i64.wrap (t9 + 1)) (out_3 ++ [t7.getD t9.toNat dflt_Run]) t7
 else
 none
 else
 none
 else
 none
 else
 bif decide ((out_3.length + 1) * 16 ≤ 140737488355328) then
 k_l3 t8 (IntKind.i64.wrap (t9 + 1)) (out_3 ++ [t7.getD t9.toNat dflt_Run]) t7
 else
 none
 else
 none
 else
 none
 else
 ret out_3
theorem L_wave_joined_l3_step (m n : Nat) (t8 : Int) (t9 : Int) (out_3 : List Run) (t7 : List Run) : L_wave_joined_l3 m (n + 1) t8 t9 out_3 t7 = b_wave_joined_l3 m (fun x0 => some (w_wave_joined x0)) (fun t8 t9 out_3 t7 => L_wave_joined_l3 m n t8 t9 out_3 t7) t8 t9 out_3 t7 := by kernel_rfl
theorem b_wave_joined_l3_map (m : Nat) {k_l3 : Int → Int → List Run → List Run → Option (List (RV C))} {q_l3 : Int → Int → List Run → List Run → Option (List Run)} (h_l3 : ∀ t8 t9 out_3 t7, k_l3 t8 t9 out_3 t7 = (q_l3 t8 t9 out_3 t7).map w_wave_joined) (t8 : Int) (t9 : Int) (out_3 : List Run) (t7 : List Run) : b_wave_joined_l3 m (fun x0 => some (w_wave_joined x0)) k_l3 t8 t9 out_3 t7 = (b_wave_joined_l3 m (fun x0 => some x0) q_l3 t8 t9 out_3 t7).map w_wave_joined := by
  simp only [b_wave_joined_l3, cond_map, bind_map, map_none, map_some, h_l3]
noncomputable def wave_joined_l3 (m : Nat) : Nat → Int → Int → List Run → List Run → Option (List Run)
  | 0, _, _, _, _ => none
  | n + 1, t8, t9, out_3, t7 => b_wave_joined_l3 m (fun x0 => some x0) (fun t8 t9 out_3 t7 => wave_joined_l3 m n t8 t9 out_3 t7) t8 t9 out_3 t7
theorem L_wave_joined_l3_eq (m : Nat) : ∀ (n : Nat) (t8 : Int) (t9 : Int) (out_3 : List Run) (t7 : List Run), L_wave_joined_l3 m n t8 t9 out_3 t7 = (wave_joined_l3 m n t8 t9 out_3 t7).map w_wave_joined
  | 0, t8, t9, out_3, t7 => by kernel_rfl
  | n + 1, t8, t9, out_3, t7 => by
    rw [L_wave_joined_l3_step]
    exact b_wave_joined_l3_map m (fun t8 t9 out_3 t7 => L_wave_joined_l3_eq m n t8 t9 out_3 t7) t8 t9 out_3 t7
noncomputable def b_wave_joined {R : Type} (m : Nat) (ret : List Run → Option R) (k_l3 : Int → Int → List Run → List Run → Option R) (l_0 : List Run) : Option R :=
 k_l3 (l_0.length : Int) 0 [] l_0
theorem wave_joined_pre (m : Nat) (l_0 : List Run) : funK Try.prog Ψ0 keep m 1 61 [(dRow 59).e l_0] = b_wave_joined m (fun x0 => some (w_wave_joined x0)) (fun t8 t9 out_3 t7 => L_wave_joined_l3 m m t8 t9 out_3 t7) l_0 := by kernel_rfl
theorem b_wave_joined_map (m : Nat) {k_l3 : Int → Int → List Run → List Run → Option (List (RV C))} {q_l3 : Int → Int → List Run → List Run → Option (List Run)} (h_l3 : ∀ t8 t9 out_3 t7, k_l3 t8 t9 out_3 t7 = (q_l3 t8 t9 out_3 t7).map w_wave_joined) (l_0 : List Run) : b_wave_joined m (fun x0 => some (w_wave_joined x0)) k_l3 l_0 = (b_wave_joined m (fun x0 => some x0) q_l3 l_0).map w_wave_joined := by
  simp only [b_wave_joined, cond_map, bind_map, map_none, map_some, h_l3]
noncomputable def wave_joined (m : Nat) (l_0 : List Run) : Option (List Run) := b_wave_joined m (fun x0 => some x0) (fun t8 t9 out_3 t7 => wave_joined_l3 m m t8 t9 out_3 t7) l_0
theorem wave_joined_fun (m : Nat) (l_0 : List Run) : funK Try.prog Ψ0 keep m 1 61 [(dRow 59).e l_0] = (wave_joined m l_0).map w_wave_joined := by
  rw [wave_joined_pre]
  exact b_wave_joined_map m (fun t8 t9 out_3 t7 => L_wave_joined_l3_eq m m t8 t9 out_3 t7) l_0
noncomputable def K_wave_joined (m : Nat) : KnownF C := mkK (dCons (dRow 59) dNil) (fun a => wave_joined m a.1) w_wave_joined
theorem K_wave_joined_ok (m : Nat) : KnownAt C Try.prog 61 fun l => (K_wave_joined m).run _ l some :=
  mkK_known good fit Ψ0_ok (keep := keep) (m := m) (d := 1) fun a => wave_joined_fun m a.1
/-! ### signalbench/wave.Clean -/
noncomputable def Ψ_wave_Clean (m : Nat) : Known C := fun f => match f with
  | 60 => some (K_wave_Valid m)
  | 61 => some (K_wave_joined m)
  | _ => none
theorem Ψ_wave_Clean_ok (m : Nat) : KnownOk C Try.prog (Ψ_wave_Clean m) := by
  intro f φ h
  unfold Ψ_wave_Clean at h
  split at h
  · injection h with h; subst h; exact K_wave_Valid_ok m
  · injection h with h; subst h; exact K_wave_joined_ok m
  · cases h
def w_wave_Clean (b : List Run) : List (RV C) := [(dRow 59).e b]
noncomputable def b_wave_Clean {R : Type} (m : Nat) (ret : List Run → Option R) (l_0 : List Run) : Option R :=
 (wave_Valid m l_0).bind fun r0 =>
 bif !r0 then
 ret []
 else
 (wave_joined m l_0).bind fun r1 =>
 ret r1
theorem wave_Clean_pre (m : Nat) (l_0 : List Run) : funK Try.prog (Ψ_wave_Clean m) keep m 1 45 [(dRow 59).e l_0] = b_wave_Clean m (fun x0 => some (w_wave_Clean x0)) l_0 := by kernel_rfl
theorem b_wave_Clean_map (m : Nat) (l_0 : List Run) : b_wave_Clean m (fun x0 => some (w_wave_Clean x0)) l_0 = (b_wave_Clean m (fun x0 => some x0) l_0).map w_wave_Clean := by
  simp only [b_wave_Clean, cond_map, bind_map, map_none, map_some]
noncomputable def wave_Clean (m : Nat) (l_0 : List Run) : Option (List Run) := b_wave_Clean m (fun x0 => some x0) l_0
theorem wave_Clean_fun (m : Nat) (l_0 : List Run) : funK Try.prog (Ψ_wave_Clean m) keep m 1 45 [(dRow 59).e l_0] = (wave_Clean m l_0).map w_wave_Clean := by
  rw [wave_Clean_pre]
  exact b_wave_Clean_map m l_0
noncomputable def K_wave_Clean (m : Nat) : KnownF C := mkK (dCons (dRow 59) dNil) (fun a => wave_Clean m a.1) w_wave_Clean
theorem K_wave_Clean_ok (m : Nat) : KnownAt C Try.prog 45 fun l => (K_wave_Clean m).run _ l some :=
  mkK_known good fit (Ψ_wave_Clean_ok m) (keep := keep) (m := m) (d := 1) fun a => wave_Clean_fun m a.1
/-! ### signalbench/uart.Encode -/
noncomputable def Ψ_uart_Encode (m : Nat) : Known C := fun f => match f with
  | 16 => some (K_uart_Check m)
  | 42 => some (K_uart_refused m)
  | 43 => some (K_uart_Encode_1 m)
  | 31 => some (K_uart_halves m)
  | 32 => some (K_uart_size m)
  | 44 => some (K_uart_samples m)
  | 45 => some (K_wave_Clean m)
  | _ => none
theorem Ψ_uart_Encode_ok (m : Nat) : KnownOk C Try.prog (Ψ_uart_Encode m) := by
  intro f φ h
  unfold Ψ_uart_Encode at h
  split at h
  · injection h with h; subst h; exact K_uart_Check_ok m
  · injection h with h; subst h; exact K_uart_refused_ok m
  · injection h with h; subst h; exact K_uart_Encode_1_ok m
  · injection h with h; subst h; exact K_uart_halves_ok m
  · injection h with h; subst h; exact K_uart_size_ok m
  · injection h with h; subst h; exact K_uart_samples_ok m
  · injection h with h; subst h; exact K_wave_Clean_ok m
  · cases h
def w_uart_Encode (b : List Run × Int) : List (RV C) := [(dRow 59).e b.1, (dInt .i64).e b.2]
noncomputable def Q_uart_Encode_7 (m : Nat) : St C → (Exit → St C → Option (List (RV C))) → Option (List (RV C)) := fun σ k => codeK Try.prog (Ψ_uart_Encode m) (callK Try.prog (Ψ_uart_Encode m) keep m 0) (keep 22) m (subC body22 [.r, .r, .r, .l, .r, .b, .o]) σ k
noncomputable def KL_uart_Encode_7 (m : Nat) : Exit → St C → Option (List (RV C)) := contK Try.prog (Ψ_uart_Encode m) (callK Try.prog (Ψ_uart_Encode m) keep m 0) (keep 22) m body22 [.r, .r, .r, .l, .r, .b, .o] (leaveK Try.prog Try.f22.results.toList (finK Try.prog Try.f22.resultTypes.toList))
noncomputable def Q_uart_Encode_18 (m : Nat) : St C → (Exit → St C → Option (List (RV C))) → Option (List (RV C)) := fun σ k => codeK Try.prog (Ψ_uart_Encode m) (callK Try.prog (Ψ_uart_Encode m) keep m 0) (keep 22) m (subC body22 [.r, .r, .r, .r, .r, .r, .r, .r, .l, .r, .b, .o]) σ k
noncomputable def KL_uart_Encode_18 (m : Nat) : Exit → St C → Option (List (RV C)) := contK Try.prog (Ψ_uart_Encode m) (callK Try.prog (Ψ_uart_Encode m) keep m 0) (keep 22) m body22 [.r, .r, .r, .r, .r, .r, .r, .r, .l, .r, .b, .o] (leaveK Try.prog Try.f22.results.toList (finK Try.prog Try.f22.resultTypes.toList))
noncomputable def Q_uart_Encode_23 (m : Nat) : St C → (Exit → St C → Option (List (RV C))) → Option (List (RV C)) := fun σ k => codeK Try.prog (Ψ_uart_Encode m) (callK Try.prog (Ψ_uart_Encode m) keep m 0) (keep 22) m (subC (subC body22 [.r, .r, .r, .r, .r, .r, .r, .r, .l, .r, .b, .o]) [.r, .r, .l, .b, .r, .r, .r, .l, .r, .b, .o]) σ k
noncomputable def KL_uart_Encode_23 (m : Nat) (n18 : Nat) : Exit → St C → Option (List (RV C)) := contK Try.prog (Ψ_uart_Encode m) (callK Try.prog (Ψ_uart_Encode m) keep m 0) (keep 22) m (subC body22 [.r, .r, .r, .r, .r, .r, .r, .r, .l, .r, .b, .o]) [.r, .r, .l, .b, .r, .r, .r, .l, .r, .b, .o] (rndK (Q_uart_Encode_18 m) (St.norm (keep 22 18)) n18 (KL_uart_Encode_18 m))
noncomputable def L_uart_Encode_l7 (m n : Nat) (t27 : Int) (t28 : Int) (l_1 : List Item) (c1 : Uart) : Option (List (RV C)) := iterK (Q_uart_Encode_7 m) (St.norm (keep 22 7)) n ({ T := [.dead, .fl (.one (.sl 0)), .fl (.one (.ptr 1 0)), .dead, .dead, .dead, .dead, .dead, .dead, .dead, .dead, .dead, .dead, .dead, .dead, .dead, .dead, .dead, .dead, .dead, .dead, .dead, .dead, .dead, .dead, .dead, .fl (.one (.sl 0)), .fl (.one (.int .i64 t27)), .fl (.one (.int .i64 t28))] ++ List.replicate 83 .dead, F := [[]], H := [.row 54 false l_1, .box 25 (cells_Uart c1)] } : St C) (KL_uart_Encode_7 m)
noncomputable def L_uart_Encode_l18 (m n : Nat) (t45 : Int) (t46 : Int) (c0 : Uart) (r2 : List Run) (c3 : Int) (t44 : List Item) : Option (List (RV C)) := iterK (Q_uart_Encode_18 m) (St.norm (keep 22 18)) n ({ T := [.dead, .dead, .fl (.one (.ptr 0 0)), .dead, .dead, .dead, .dead, .dead, .dead, .dead, .fl (.one (.ptr 1 0)), .fl (.one (.ptr 3 0)), .clo 43 [] [.one (.ptr 3 0), .one (.ptr 1 0)], .dead, .dead, .dead, .dead, .dead, .dead, .dead, .dead, .dead, .dead, .dead, .dead, .dead, .dead, .dead, .dead, .dead, .dead, .dead, .dead, .dead, .dead, .dead, .dead, .dead, .dead, .dead, .dead, .dead, .dead, .dead, .fl (.one (.sl 4)), .fl (.one (.int .i64 t45)), .fl (.one (.int .i64 t46))] ++ List.replicate 65 .dead, F := [[]], H := [.box 25 (cells_Uart c0), .box 44 ([.sl 2]), .row 59 true r2, .box 3 ([.int .i64 c3]), .row 54 false t44] } : St C) (KL_uart_Encode_18 m)
noncomputable def L_uart_Encode_l23 (m n18 n : Nat) (n_15 : Int) (b_16 : Int) (t45 : Int) (t46 : Int) (t59 : Int) (t60 : Int) (c0 : Uart) (r2 : List Run) (c3 : Int) (c4 : Item) (t44 : List Item) : Option (List (RV C)) := iterK (Q_uart_Encode_23 m) (St.norm (keep 22 23)) n ({ T := [.dead, .dead, .fl (.one (.ptr 0 0)), .dead, .dead, .dead, .dead, .dead, .dead, .dead, .fl (.one (.ptr 1 0)), .fl (.one (.ptr 3 0)), .clo 43 [] [.one (.ptr 3 0), .one (.ptr 1 0)], .dead, .fl (.one (.ptr 4 0)), .fl (.one (.int .i64 n_15)), .fl (.one (.int .i64 b_16)), .dead, .dead, .dead, .dead, .dead, .dead, .dead, .dead, .dead, .dead, .dead, .dead, .dead, .dead, .dead, .dead, .dead, .dead, .dead, .dead, .dead, .dead, .dead, .dead, .dead, .dead, .dead, .fl (.one (.sl 5)), .fl (.one (.int .i64 t45)), .fl (.one (.int .i64 t46)), .dead, .dead, .dead, .dead, .dead, .dead, .dead, .dead, .dead, .dead, .dead, .dead, .fl (.one (.int .i64 t59)), .fl (.one (.int .i64 t60))] ++ List.replicate 51 .dead, F := [[]], H := [.box 25 (cells_Uart c0), .box 44 ([.sl 2]), .row 59 true r2, .box 3 ([.int .i64 c3]), .box 54 (cells_Item c4), .row 54 false t44] } : St C) (KL_uart_Encode_23 m n18)
noncomputable def b_uart_Encode_l23 {R : Type} (m : Nat) (ret : List Run → Int → Option R) (k_l23 : Int → Int → Int → Int → Int → Int → Uart → List Run → Int → Item → List Item → Option R) (k_l18 : Int → Int → Uart → List Run → Int → List Item → Option R) (n_15 : Int) (b_16 : Int) (t45 : Int) (t46 : Int) (t59 : Int) (t60 : Int) (c0 : Uart) (r2 : List Run) (c3 : Int) (c4 : Item) (t44 : List Item) : Option R :=
 bif decide (t60 < t59) then
 (bif decide (t60 < 0) then
 none
 else
 (uart_halves m c0 (IntKind.i64.wrap (IntKind.i64.wrap (2 * t60) + 2))).bind fun r0 =>
 (uart_halves m c0 (IntKind.i64.wrap (2 * t60))).bind fun r1 =>
 (uart_Encode_1 m (IntKind.i64.wrap (((BitVec.ofInt 64 (b_16.fdiv (2 ^ min t60.toNat 64)) &&& BitVec.ofInt 64 1).toNat : Int))) (IntKind.i64.wrap (r0 - r1)) c3 r2).bind fun r2 =>
 k_l23 n_15 b_16 t45 t46 t59 (IntKind.i64.wrap (t60 + 1)) c0 r2.snd r2.fst c4 t44)
 else
 bif c4.Aux == 1 then
 ((uart_halves m c0 (IntKind.i64.wrap (IntKind.i64.wrap (2 * n_15) + 2))).bind fun r3 =>
 (uart_halves m c0 (IntKind.i64.wrap (2 * n_15))).bind fun r4 =>
 (uart_Encode_1 m 1 (IntKind.i64.wrap (r3 - r4)) c3 r2).bind fun r5 =>
 k_l18 t45 (IntKind.i64.wrap (t46 + 1)) c0 r5.snd r5.fst t44)
 else
 bif c4.Fault == 1 then
 ((uart_halves m c0 (IntKind.i64.wrap (IntKind.i64.wrap (2 * n_15) + 2))).bind fun r6 =>
 (uart_halves m c0 (IntKind.i64.wrap (2 * n_15))).bind fun r7 =>
 (uart_Encode_1 m 1 (IntKind.i64.wrap (r6 - r7)) c3 r2).bind fun r8 =>
 k_l18 t45 (IntKind.i64.wrap (t46 + 1)) c0 r8.snd r8.fst t44)
 else
 k_l18 t45 (IntKind.i64.wrap (t46 + 1)) c0 r2 c3 t44
theorem L_uart_Encode_l23_step (m n18 n : Nat) (n_15 : Int) (b_16 : Int) (t45 : Int) (t46 : Int) (t59 : Int) (t60 : Int) (c0 : Uart) (r2 : List Run) (c3 : Int) (c4 : Item) (t44 : List Item) : L_uart_Encode_l23 m n18 (n + 1) n_15 b_16 t45 t46 t59 t60 c0 r2 c3 c4 t44 = b_uart_Encode_l23 m (fun x0 x1 => some (w_uart_Encode (x0, x1))) (fun n_15 b_16 t45 t46 t59 t60 c0 r2 c3 c4 t44 => L_uart_Encode_l23 m n18 n n_15 b_16 t45 t46 t59 t60 c0 r2 c3 c4 t44) (fun t45 t46 c0 r2 c3 t44 => L_uart_Encode_l18 m n18 t45 t46 c0 r2 c3 t44) n_15 b_16 t45 t46 t59 t60 c0 r2 c3 c4 t44 := by kernel_rfl
theorem b_uart_Encode_l23_map (m : Nat) {k_l23 : Int → Int → Int → Int → Int → Int → Uart → List Run → Int → Item → List Item → Option (List (RV C))} {q_l23 : Int → Int → Int → Int → Int → Int → Uart → List Run → Int → Item → List Item → Option (List Run × Int)} (h_l23 : ∀ n_15 b_16 t45 t46 t59 t60 c0 r2 c3 c4 t44, k_l23 n_15 b_16 t45 t46 t59 t60 c0 r2 c3 c4 t44 = (q_l23 n_15 b_16 t45 t46 t59 t60 c0 r2 c3 c4 t44).map w_uart_Encode) {k_l18 : Int → Int → Uart → List Run → Int → List Item → Option (List (RV C))} {q_l18 : Int → Int → Uart → List Run → Int → List Item → Option (List Run × Int)} (h_l18 : ∀ t45 t46 c0 r2 c3 t44, k_l18 t45 t46 c0 r2 c3 t44 = (q_l18 t45 t46 c0 r2 c3 t44).map w_uart_Encode) (n_15 : Int) (b_16 : Int) (t45 : Int) (t46 : Int) (t59 : Int) (t60 : Int) (c0 : Uart) (r2 : List Run) (c3 : Int) (c4 : Item) (t44 : List Item) : b_uart_Encode_l23 m (fun x0 x1 => some (w_uart_Encode (x0, x1))) k_l23 k_l18 n_15 b_16 t45 t46 t59 t60 c0 r2 c3 c4 t44 = (b_uart_Encode_l23 m (fun x0 x1 => some (x0, x1)) q_l23 q_l18 n_15 b_16 t45 t46 t59 t60 c0 r2 c3 c4 t44).map w_uart_Encode := by
  simp only [b_uart_Encode_l23, cond_map, bind_map, map_none, map_some, h_l23, h_l18]
noncomputable def uart_Encode_l23 (m : Nat) (q_l18 : Int → Int → Uart → List Run → Int → List Item → Option (List Run × Int)) : Nat → Int → Int → Int → Int → Int → Int → Uart → List Run → Int → Item → List Item → Option (List Run × Int)
  | 0, _, _, _, _, _, _, _, _, _, _, _ => none
  | n + 1, n_15, b_16, t45, t46, t59, t60, c0, r2, c3, c4, t44 => b_uart_Encode_l23 m (fun x0 x1 => some (x0, x1)) (fun n_15 b_16 t45 t46 t59 t60 c0 r2 c3 c4 t44 => uart_Encode_l23 m q_l18 n n_15 b_16 t45 t46 t59 t60 c0 r2 c3 c4 t44) q_l18 n_15 b_16 t45 t46 t59 t60 c0 r2 c3 c4 t44
theorem L_uart_Encode_l23_eq (m n18 : Nat) (q_l18 : Int → Int → Uart → List Run → Int → List Item → Option (List Run × Int)) (h_l18 : ∀ t45 t46 c0 r2 c3 t44, L_uart_Encode_l18 m n18 t45 t46 c0 r2 c3 t44 = (q_l18 t45 t46 c0 r2 c3 t44).map w_uart_Encode) : ∀ (n : Nat) (n_15 : Int) (b_16 : Int) (t45 : Int) (t46 : Int) (t59 : Int) (t60 : Int) (c0 : Uart) (r2 : List Run) (c3 : Int) (c4 : Item) (t44 : List Item), L_uart_Encode_l23 m n18 n n_15 b_16 t45 t46 t59 t60 c0 r2 c3 c4 t44 = (uart_Encode_l23 m q_l18 n n_15 b_16 t45 t46 t59 t60 c0 r2 c3 c4 t44).map w_uart_Encode
  | 0, n_15, b_16, t45, t46, t59, t60, c0, r2, c3, c4, t44 => by kernel_rfl
  | n + 1, n_15, b_16, t45, t46, t59, t60, c0, r2, c3, c4, t44 => by
    rw [L_uart_Encode_l23_step]
    exact b_uart_Encode_l23_map m (fun n_15 b_16 t45 t46 t59 t60 c0 r2 c3 c4 t44 => L_uart_Encode_l23_eq m n18 q_l18 h_l18 n n_15 b_16 t45 t46 t59 t60 c0 r2 c3 c4 t44) h_l18 n_15 b_16 t45 t46 t59 t60 c0 r2 c3 c4 t44
noncomputable def b_uart_Encode_l18 {R : Type} (m : Nat) (ret : List Run → Int → Option R) (k_l23 : Int → Int → Int → Int → Int → Int → Uart → List Run → Int → Item → List Item → Option R) (t45 : Int) (t46 : Int) (c0 : Uart) (r2 : List Run) (c3 : Int) (t44 : List Item) : Option R :=
 bif decide (t46 < t45) then
 (bif decide (0 ≤ t46) then
 (bif decide (t46 < (t44.length : Int)) then
 ((uart_Encode_1 m 1 (t44.getD t46.toNat dflt_Item).Gap c3 r2).bind fun r0 =>
 (uart_size m c0).bind fun r1 =>
 (uart_samples m c0 (t44.getD t46.toNat dflt_Item)).bind fun r2 =>
 k_l23 r1 r2 t45 t46 r1 0 c0 r0.snd r0.fst (t44.getD t46.toNat dflt_Item) t44)
 else
 none)
 else
 none)
 else
 (uart_halves m c0 4).bind fun r3 =>
 (uart_Encode_1 m 1 r3 c3 r2).bind fun r4 =>
 bif decide ((r4.snd.length : Int) > 262144) then
 ret [] 6
 else
 bif decide (r4.fst > 1099511627776) then
 ret [] 2
 else
 (wave_Clean m r4.snd).bind fun r5 =>
 ret r5 0
theorem L_uart_Encode_l18_step (m n : Nat) (t45 : Int) (t46 : Int) (c0 : Uart) (r2 : List Run) (c3 : Int) (t44 : List Item) : L_uart_Encode_l18 m (n + 1) t45 t46 c0 r2 c3 t44 = b_uart_Encode_l18 m (fun x0 x1 => some (w_uart_Encode (x0, x1))) (fun n_15 b_16 t45 t46 t59 t60 c0 r2 c3 c4 t44 => L_uart_Encode_l23 m n m n_15 b_16 t45 t46 t59 t60 c0 r2 c3 c4 t44) t45 t46 c0 r2 c3 t44 := by kernel_rfl
theorem b_uart_Encode_l18_map (m : Nat) {k_l23 : Int → Int → Int → Int → Int → Int → Uart → List Run → Int → Item → List Item → Option (List (RV C))} {q_l23 : Int → Int → Int → Int → Int → Int → Uart → List Run → Int → Item → List Item → Option (List Run × Int)} (h_l23 : ∀ n_15 b_16 t45 t46 t59 t60 c0 r2 c3 c4 t44, k_l23 n_15 b_16 t45 t46 t59 t60 c0 r2 c3 c4 t44 = (q_l23 n_15 b_16 t45 t46 t59 t60 c0 r2 c3 c4 t44).map w_uart_Encode) (t45 : Int) (t46 : Int) (c0 : Uart) (r2 : List Run) (c3 : Int) (t44 : List Item) : b_uart_Encode_l18 m (fun x0 x1 => some (w_uart_Encode (x0, x1))) k_l23 t45 t46 c0 r2 c3 t44 = (b_uart_Encode_l18 m (fun x0 x1 => some (x0, x1)) q_l23 t45 t46 c0 r2 c3 t44).map w_uart_Encode := by
  simp only [b_uart_Encode_l18, cond_map, bind_map, map_none, map_some, h_l23]
noncomputable def uart_Encode_l18 (m : Nat) : Nat → Int → Int → Uart → List Run → Int → List Item → Option (List Run × Int)
  | 0, _, _, _, _, _, _ => none
  | n + 1, t45, t46, c0, r2, c3, t44 => b_uart_Encode_l18 m (fun x0 x1 => some (x0, x1)) (fun n_15 b_16 t45 t46 t59 t60 c0 r2 c3 c4 t44 => uart_Encode_l23 m (fun t45 t46 c0 r2 c3 t44 => uart_Encode_l18 m n t45 t46 c0 r2 c3 t44) m n_15 b_16 t45 t46 t59 t60 c0 r2 c3 c4 t44) t45 t46 c0 r2 c3 t44
theorem L_uart_Encode_l18_eq (m : Nat) : ∀ (n : Nat) (t45 : Int) (t46 : Int) (c0 : Uart) (r2 : List Run) (c3 : Int) (t44 : List Item), L_uart_Encode_l18 m n t45 t46 c0 r2 c3 t44 = (uart_Encode_l18 m n t45 t46 c0 r2 c3 t44).map w_uart_Encode
  | 0, t45, t46, c0, r2, c3, t44 => by kernel_rfl
  | n + 1, t45, t46, c0, r2, c3, t44 => by
    rw [L_uart_Encode_l18_step]
    exact b_uart_Encode_l18_map m (fun n_15 b_16 t45 t46 t59 t60 c0 r2 c3 c4 t44 => L_uart_Encode_l23_eq m n (fun t45 t46 c0 r2 c3 t44 => uart_Encode_l18 m n t45 t46 c0 r2 c3 t44) (fun t45 t46 c0 r2 c3 t44 => L_uart_Encode_l18_eq m n t45 t46 c0 r2 c3 t44) m n_15 b_16 t45 t46 t59 t60 c0 r2 c3 c4 t44) t45 t46 c0 r2 c3 t44
noncomputable def b_uart_Encode_l7 {R : Type} (m : Nat) (ret : List Run → Int → Option R) (k_l7 : Int → Int → List Item → Uart → Option R) (k_l18 : Int → Int → Uart → List Run → Int → List Item → Option R) (t27 : Int) (t28 : Int) (l_1 : List Item) (c1 : Uart) : Option R :=
 bif decide (t28 < t27) then
 (bif decide (0 ≤ t28) then
 (bif decide (t28 < (l_1.length : Int)) then
 ((uart_refused m c1 (l_1.getD t28.toNat dflt_Item)).bind fun r0 =>
 bif r0 != 0 then
 ret [] r0
 else
 k_l7 t27 (IntKind.i64.wrap (t28 + 1)) l_1 c1)
 else
 none)
 else
 none)
 else
 (uart_halves m c1 4).bind fun r1 =>
 (uart_Encode_1 m 1 r1 0 []).bind fun r2 =>
 k_l18 (l_1.length : Int) 0 c1 r2.snd r2.fst l_1
theorem L_uart_Encode_l7_step (m n : Nat) (t27 : Int) (t28 : Int) (l_1 : List Item) (c1 : Uart) : L_uart_Encode_l7 m (n + 1) t27 t28 l_1 c1 = b_uart_Encode_l7 m (fun x0 x1 => some (w_uart_Encode (x0, x1))) (fun t27 t28 l_1 c1 => L_uart_Encode_l7 m n t27 t28 l_1 c1) (fun t45 t46 c0 r2 c3 t44 => L_uart_Encode_l18 m m t45 t46 c0 r2 c3 t44) t27 t28 l_1 c1 := by kernel_rfl
theorem b_uart_Encode_l7_map (m : Nat) {k_l7 : Int → Int → List Item → Uart → Option (List (RV C))} {q_l7 : Int → Int → List Item → Uart → Option (List Run × Int)} (h_l7 : ∀ t27 t28 l_1 c1, k_l7 t27 t28 l_1 c1 = (q_l7 t27 t28 l_1 c1).map w_uart_Encode) {k_l18 : Int → Int → Uart → List Run → Int → List Item → Option (List (RV C))} {q_l18 : Int → Int → Uart → List Run → Int → List Item → Option (List Run × Int)} (h_l18 : ∀ t45 t46 c0 r2 c3 t44, k_l18 t45 t46 c0 r2 c3 t44 = (q_l18 t45 t46 c0 r2 c3 t44).map w_uart_Encode) (t27 : Int) (t28 : Int) (l_1 : List Item) (c1 : Uart) : b_uart_Encode_l7 m (fun x0 x1 => some (w_uart_Encode (x0, x1))) k_l7 k_l18 t27 t28 l_1 c1 = (b_uart_Encode_l7 m (fun x0 x1 => some (x0, x1)) q_l7 q_l18 t27 t28 l_1 c1).map w_uart_Encode := by
  simp only [b_uart_Encode_l7, cond_map, bind_map, map_none, map_some, h_l7, h_l18]
noncomputable def uart_Encode_l7 (m : Nat) : Nat → Int → Int → List Item → Uart → Option (List Run × Int)
  | 0, _, _, _, _ => none
  | n + 1, t27, t28, l_1, c1 => b_uart_Encode_l7 m (fun x0 x1 => some (x0, x1)) (fun t27 t28 l_1 c1 => uart_Encode_l7 m n t27 t28 l_1 c1) (fun t45 t46 c0 r2 c3 t44 => uart_Encode_l18 m m t45 t46 c0 r2 c3 t44) t27 t28 l_1 c1
theorem L_uart_Encode_l7_eq (m : Nat) : ∀ (n : Nat) (t27 : Int) (t28 : Int) (l_1 : List Item) (c1 : Uart), L_uart_Encode_l7 m n t27 t28 l_1 c1 = (uart_Encode_l7 m n t27 t28 l_1 c1).map w_uart_Encode
  | 0, t27, t28, l_1, c1 => by kernel_rfl
  | n + 1, t27, t28, l_1, c1 => by
    rw [L_uart_Encode_l7_step]
    exact b_uart_Encode_l7_map m (fun t27 t28 l_1 c1 => L_uart_Encode_l7_eq m n t27 t28 l_1 c1) (fun t45 t46 c0 r2 c3 t44 => L_uart_Encode_l18_eq m m t45 t46 c0 r2 c3 t44) t27 t28 l_1 c1
noncomputable def b_uart_Encode {R : Type} (m : Nat) (ret : List Run → Int → Option R) (k_l7 : Int → Int → List Item → Uart → Option R) (c_0 : Uart) (l_1 : List Item) : Option R :=
 (uart_Check m c_0).bind fun r0 =>
 bif r0 != 0 then
 ret [] r0
 else
 bif decide ((l_1.length : Int) > 1024) then
 ret [] 6
 else
 k_l7 (l_1.length : Int) 0 l_1 c_0
theorem uart_Encode_pre (m : Nat) (c_0 : Uart) (l_1 : List Item) : funK Try.prog (Ψ_uart_Encode m) keep m 1 22 [(dS of_Uart cells_Uart of_Uart_ok).e c_0, (dRow 54).e l_1] = b_uart_Encode m (fun x0 x1 => some (w_uart_Encode (x0, x1))) (fun t27 t28 l_1 c1 => L_uart_Encode_l7 m m t27 t28 l_1 c1) c_0 l_1 := by kernel_rfl
theorem b_uart_Encode_map (m : Nat) {k_l7 : Int → Int → List Item → Uart → Option (List (RV C))} {q_l7 : Int → Int → List Item → Uart → Option (List Run × Int)} (h_l7 : ∀ t27 t28 l_1 c1, k_l7 t27 t28 l_1 c1 = (q_l7 t27 t28 l_1 c1).map w_uart_Encode) (c_0 : Uart) (l_1 : List Item) : b_uart_Encode m (fun x0 x1 => some (w_uart_Encode (x0, x1))) k_l7 c_0 l_1 = (b_uart_Encode m (fun x0 x1 => some (x0, x1)) q_l7 c_0 l_1).map w_uart_Encode := by
  simp only [b_uart_Encode, cond_map, bind_map, map_none, map_some, h_l7]
noncomputable def uart_Encode (m : Nat) (c_0 : Uart) (l_1 : List Item) : Option (List Run × Int) := b_uart_Encode m (fun x0 x1 => some (x0, x1)) (fun t27 t28 l_1 c1 => uart_Encode_l7 m m t27 t28 l_1 c1) c_0 l_1
theorem uart_Encode_fun (m : Nat) (c_0 : Uart) (l_1 : List Item) : funK Try.prog (Ψ_uart_Encode m) keep m 1 22 [(dS of_Uart cells_Uart of_Uart_ok).e c_0, (dRow 54).e l_1] = (uart_Encode m c_0 l_1).map w_uart_Encode := by
  rw [uart_Encode_pre]
  exact b_uart_Encode_map m (fun t27 t28 l_1 c1 => L_uart_Encode_l7_eq m m t27 t28 l_1 c1) c_0 l_1
noncomputable def K_uart_Encode (m : Nat) : KnownF C := mkK (dCons (dS of_Uart cells_Uart of_Uart_ok) (dCons (dRow 54) dNil)) (fun a => uart_Encode m a.1 a.2.1) w_uart_Encode
theorem K_uart_Encode_ok (m : Nat) : KnownAt C Try.prog 22 fun l => (K_uart_Encode m).run _ l some :=
  mkK_known good fit (Ψ_uart_Encode_ok m) (keep := keep) (m := m) (d := 1) fun a => uart_Encode_fun m a.1 a.2.1
/-! ### signalbench/uart.Start -/
def w_uart_Start (b : State) : List (RV C) := [(dS of_State cells_State of_State_ok).e b]
noncomputable def b_uart_Start {R : Type} (m : Nat) (ret : State → Option R) (c_0 : Uart) : Option R :=
 ret (State.mk 0 0 0 0 0 0 0 (bs []))
theorem uart_Start_pre (m : Nat) (c_0 : Uart) : funK Try.prog Ψ0 keep m 1 11 [(dS of_Uart cells_Uart of_Uart_ok).e c_0] = b_uart_Start m (fun x0 => some (w_uart_Start x0)) c_0 := by kernel_rfl
theorem b_uart_Start_map (m : Nat) (c_0 : Uart) : b_uart_Start m (fun x0 => some (w_uart_Start x0)) c_0 = (b_uart_Start m (fun x0 => some x0) c_0).map w_uart_Start := by
  simp only [b_uart_Start, cond_map, bind_map, map_none, map_some]
noncomputable def uart_Start (m : Nat) (c_0 : Uart) : Option (State) := b_uart_Start m (fun x0 => some x0) c_0
theorem uart_Start_fun (m : Nat) (c_0 : Uart) : funK Try.prog Ψ0 keep m 1 11 [(dS of_Uart cells_Uart of_Uart_ok).e c_0] = (uart_Start m c_0).map w_uart_Start := by
  rw [uart_Start_pre]
  exact b_uart_Start_map m c_0
noncomputable def K_uart_Start (m : Nat) : KnownF C := mkK (dCons (dS of_Uart cells_Uart of_Uart_ok) dNil) (fun a => uart_Start m a.1) w_uart_Start
theorem K_uart_Start_ok (m : Nat) : KnownAt C Try.prog 11 fun l => (K_uart_Start m).run _ l some :=
  mkK_known good fit Ψ0_ok (keep := keep) (m := m) (d := 1) fun a => uart_Start_fun m a.1
/-! ### signalbench/event.Valid -/
def w_event_Valid (b : Bool) : List (RV C) := [dBool.e b]
noncomputable def b_event_Valid {R : Type} (m : Nat) (ret : Bool → Option R) (e_0 : Event) : Option R :=
 bif decide (e_0.Kind < 1) then
 ret false
 else
 bif decide (e_0.Kind > 8) then
 ret false
 else
 bif decide (e_0.From < 0) then
 ret false
 else
 bif decide (e_0.From > e_0.To) then
 ret false
 else
 bif decide (e_0.To > 1099511627776) then
 ret false
 else
 bif decide (e_0.Value < -9007199254740992) then
 ret false
 else
 bif decide (e_0.Value > 9007199254740992) then
 ret false
 else
 bif decide (e_0.Aux < -9007199254740992) then
 ret false
 else
 bif decide (e_0.Aux > 9007199254740992) then
 ret false
 else
 bif decide ((e_0.Data.size : Int) ≤ 4096) then
 bif decide (e_0.Fault ≥ 0) then
 ret (decide (e_0.Fault ≤ 12))
 else
 ret false
 else
 ret false
theorem event_Valid_pre (m : Nat) (e_0 : Event) : funK Try.prog Ψ0 keep m 1 52 [(dS of_Event cells_Event of_Event_ok).e e_0] = b_event_Valid m (fun x0 => some (w_event_Valid x0)) e_0 := by kernel_rfl
theorem b_event_Valid_map (m : Nat) (e_0 : Event) : b_event_Valid m (fun x0 => some (w_event_Valid x0)) e_0 = (b_event_Valid m (fun x0 => some x0) e_0).map w_event_Valid := by
  simp only [b_event_Valid, cond_map, bind_map, map_none, map_some]
noncomputable def event_Valid (m : Nat) (e_0 : Event) : Option (Bool) := b_event_Valid m (fun x0 => some x0) e_0
theorem event_Valid_fun (m : Nat) (e_0 : Event) : funK Try.prog Ψ0 keep m 1 52 [(dS of_Event cells_Event of_Event_ok).e e_0] = (event_Valid m e_0).map w_event_Valid := by
  rw [event_Valid_pre]
  exact b_event_Valid_map m e_0
noncomputable def K_event_Valid (m : Nat) : KnownF C := mkK (dCons (dS of_Event cells_Event of_Event_ok) dNil) (fun a => event_Valid m a.1) w_event_Valid
theorem K_event_Valid_ok (m : Nat) : KnownAt C Try.prog 52 fun l => (K_event_Valid m).run _ l some :=
  mkK_known good fit Ψ0_ok (keep := keep) (m := m) (d := 1) fun a => event_Valid_fun m a.1
/-! ### signalbench/uart.accepts -/
noncomputable def Ψ_uart_accepts (m : Nat) : Known C := fun f => match f with
  | 52 => some (K_event_Valid m)
  | _ => none
theorem Ψ_uart_accepts_ok (m : Nat) : KnownOk C Try.prog (Ψ_uart_accepts m) := by
  intro f φ h
  unfold Ψ_uart_accepts at h
  split at h
  · injection h with h; subst h; exact K_event_Valid_ok m
  · cases h
def w_uart_accepts (b : Bool) : List (RV C) := [dBool.e b]
noncomputable def b_uart_accepts {R : Type} (m : Nat) (ret : Bool → Option R) (s_0 : State) (e_1 : Event) : Option R :=
 (event_Valid m e_1).bind fun r0 =>
 bif r0 then
 bif e_1.Kind == 1 then
 bif e_1.Fault == 0 then
 bif decide (e_1.From < e_1.To) then
 bif e_1.Value == 0 then
 bif s_0.Phase == 0 then
 ret true
 else
 ret (e_1.From == s_0.At)
 else
 bif e_1.Value == 1 then
 bif s_0.Phase == 0 then
 ret true
 else
 ret (e_1.From == s_0.At)
 else
 ret false
 else
 ret false
 else
 ret false
 else
 ret false
 else
 ret false
theorem uart_accepts_pre (m : Nat) (s_0 : State) (e_1 : Event) : funK Try.prog (Ψ_uart_accepts m) keep m 1 30 [(dS of_State cells_State of_State_ok).e s_0, (dS of_Event cells_Event of_Event_ok).e e_1] = b_uart_accepts m (fun x0 => some (w_uart_accepts x0)) s_0 e_1 := by kernel_rfl
theorem b_uart_accepts_map (m : Nat) (s_0 : State) (e_1 : Event) : b_uart_accepts m (fun x0 => some (w_uart_accepts x0)) s_0 e_1 = (b_uart_accepts m (fun x0 => some x0) s_0 e_1).map w_uart_accepts := by
  simp only [b_uart_accepts, cond_map, bind_map, map_none, map_some]
noncomputable def uart_accepts (m : Nat) (s_0 : State) (e_1 : Event) : Option (Bool) := b_uart_accepts m (fun x0 => some x0) s_0 e_1
theorem uart_accepts_fun (m : Nat) (s_0 : State) (e_1 : Event) : funK Try.prog (Ψ_uart_accepts m) keep m 1 30 [(dS of_State cells_State of_State_ok).e s_0, (dS of_Event cells_Event of_Event_ok).e e_1] = (uart_accepts m s_0 e_1).map w_uart_accepts := by
  rw [uart_accepts_pre]
  exact b_uart_accepts_map m s_0 e_1
noncomputable def K_uart_accepts (m : Nat) : KnownF C := mkK (dCons (dS of_State cells_State of_State_ok) (dCons (dS of_Event cells_Event of_Event_ok) dNil)) (fun a => uart_accepts m a.1 a.2.1) w_uart_accepts
theorem K_uart_accepts_ok (m : Nat) : KnownAt C Try.prog 30 fun l => (K_uart_accepts m).run _ l some :=
  mkK_known good fit (Ψ_uart_accepts_ok m) (keep := keep) (m := m) (d := 1) fun a => uart_accepts_fun m a.1 a.2.1
/-! ### signalbench/uart.finished -/
noncomputable def Ψ_uart_finished (m : Nat) : Known C := fun f => match f with
  | 32 => some (K_uart_size m)
  | 31 => some (K_uart_halves m)
  | 53 => some (K_uart_parity m)
  | _ => none
theorem Ψ_uart_finished_ok (m : Nat) : KnownOk C Try.prog (Ψ_uart_finished m) := by
  intro f φ h
  unfold Ψ_uart_finished at h
  split at h
  · injection h with h; subst h; exact K_uart_size_ok m
  · injection h with h; subst h; exact K_uart_halves_ok m
  · injection h with h; subst h; exact K_uart_parity_ok m
  · cases h
def w_uart_finished (b : Event) : List (RV C) := [(dS of_Event cells_Event of_Event_ok).e b]
noncomputable def b_uart_finished {R : Type} (m : Nat) (ret : Event → Option R) (c_0 : Uart) (from_1 : Int) (samples_2 : Int) : Option R :=
 (uart_size m c_0).bind fun r0 =>
 (uart_halves m c_0 (IntKind.i64.wrap (2 * r0))).bind fun r1 =>
 bif samples_2 == 0 then
 ret (Event.mk 4 from_1 (if 1099511627776 < IntKind.i64.wrap (from_1 + r1) then 1099511627776 else IntKind.i64.wrap (from_1 + r1)) 1 0 (bs []) 0)
 else
 bif decide (c_0.Bits < 0) then
 none
 else
 bif decide (IntKind.i64.wrap (r0 - c_0.Stop) < 0) then
 none
 else
 bif decide (c_0.Stop < 0) then
 none
 else
 bif samples_2.fdiv (2 ^ min (IntKind.i64.wrap (r0 - c_0.Stop)).toNat 64) != IntKind.i64.wrap (IntKind.i64.wrap (1 * 2 ^ min c_0.Stop.toNat 64) - 1) then
 ret (Event.mk 3 from_1 (if 1099511627776 < IntKind.i64.wrap (from_1 + r1) then 1099511627776 else IntKind.i64.wrap (from_1 + r1)) (IntKind.i64.wrap (((BitVec.ofInt 64 (samples_2.fdiv 2) &&& BitVec.ofInt 64 (IntKind.i64.wrap (IntKind.i64.wrap (1 * 2 ^ min c_0.Bits.toNat 64) - 1))).toNat : Int))) 0 (bs []) 1)
 else
 bif c_0.Parity != 0 then
 (bif decide (IntKind.i64.wrap (1 + c_0.Bits) < 0) then
 none
 else
 (uart_parity m c_0 (IntKind.i64.wrap (((BitVec.ofInt 64 (samples_2.fdiv 2) &&& BitVec.ofInt 64 (IntKind.i64.wrap (IntKind.i64.wrap (1 * 2 ^ min c_0.Bits.toNat 64) - 1))).toNat : Int)))).bind fun r2 =>
 bif IntKind.i64.wrap (((BitVec.ofInt 64 (samples_2.fdiv (2 ^ min (IntKind.i64.wrap (1 + c_0.Bits)).toNat 64)) &&& BitVec.ofInt 64 1).toNat : Int)) != r2 then
 ret (Event.mk 3 from_1 (if 1099511627776 < IntKind.i64.wrap (from_1 + r1) then 1099511627776 else IntKind.i64.wrap (from_1 + r1)) (IntKind.i64.wrap (((BitVec.ofInt 64 (samples_2.fdiv 2) &&& BitVec.ofInt 64 (IntKind.i64.wrap (IntKind.i64.wrap (1 * 2 ^ min c_0.Bits.toNat 64) - 1))).toNat : Int))) 0 (bs []) 2)
 else
 ret (Event.mk 3 from_1 (if 1099511627776 < IntKind.i64.wrap (from_1 + r1) then 1099511627776 else IntKind.i64.wrap (from_1 + r1)) (IntKind.i64.wrap (((BitVec.ofInt 64 (samples_2.fdiv 2) &&& BitVec.ofInt 64 (IntKind.i64.wrap (IntKind.i64.wrap (1 * 2 ^ min c_0.Bits.toNat 64) - 1))).toNat : Int))) 0 (bs []) 0))
 else
 ret (Event.mk 3 from_1 (if 1099511627776 < IntKind.i64.wrap (from_1 + r1) then 1099511627776 else IntKind.i64.wrap (from_1 + r1)) (IntKind.i64.wrap (((BitVec.ofInt 64 (samples_2.fdiv 2) &&& BitVec.ofInt 64 (IntKind.i64.wrap (IntKind.i64.wrap (1 * 2 ^ min c_0.Bits.toNat 64) - 1))).toNat : Int))) 0 (bs []) 0)
theorem uart_finished_pre (m : Nat) (c_0 : Uart) (from_1 : Int) (samples_2 : Int) : funK Try.prog (Ψ_uart_finished m) keep m 1 33 [(dS of_Uart cells_Uart of_Uart_ok).e c_0, (dInt .i64).e from_1, (dInt .i64).e samples_2] = b_uart_finished m (fun x0 => some (w_uart_finished x0)) c_0 from_1 samples_2 := by kernel_rfl
theorem b_uart_finished_map (m : Nat) (c_0 : Uart) (from_1 : Int) (samples_2 : Int) : b_uart_finished m (fun x0 => some (w_uart_finished x0)) c_0 from_1 samples_2 = (b_uart_finished m (fun x0 => some x0) c_0 from_1 samples_2).map w_uart_finished := by
  simp only [b_uart_finished, cond_map, bind_map, map_none, map_some]
noncomputable def uart_finished (m : Nat) (c_0 : Uart) (from_1 : Int) (samples_2 : Int) : Option (Event) := b_uart_finished m (fun x0 => some x0) c_0 from_1 samples_2
theorem uart_finished_fun (m : Nat) (c_0 : Uart) (from_1 : Int) (samples_2 : Int) : funK Try.prog (Ψ_uart_finished m) keep m 1 33 [(dS of_Uart cells_Uart of_Uart_ok).e c_0, (dInt .i64).e from_1, (dInt .i64).e samples_2] = (uart_finished m c_0 from_1 samples_2).map w_uart_finished := by
  rw [uart_finished_pre]
  exact b_uart_finished_map m c_0 from_1 samples_2
noncomputable def K_uart_finished (m : Nat) : KnownF C := mkK (dCons (dS of_Uart cells_Uart of_Uart_ok) (dCons (dInt .i64) (dCons (dInt .i64) dNil))) (fun a => uart_finished m a.1 a.2.1 a.2.2.1) w_uart_finished
theorem K_uart_finished_ok (m : Nat) : KnownAt C Try.prog 33 fun l => (K_uart_finished m).run _ l some :=
  mkK_known good fit (Ψ_uart_finished_ok m) (keep := keep) (m := m) (d := 1) fun a => uart_finished_fun m a.1 a.2.1 a.2.2.1
/-! ### signalbench/uart.Step -/
noncomputable def Ψ_uart_Step (m : Nat) : Known C := fun f => match f with
  | 16 => some (K_uart_Check m)
  | 30 => some (K_uart_accepts m)
  | 31 => some (K_uart_halves m)
  | 32 => some (K_uart_size m)
  | 33 => some (K_uart_finished m)
  | _ => none
theorem Ψ_uart_Step_ok (m : Nat) : KnownOk C Try.prog (Ψ_uart_Step m) := by
  intro f φ h
  unfold Ψ_uart_Step at h
  split at h
  · injection h with h; subst h; exact K_uart_Check_ok m
  · injection h with h; subst h; exact K_uart_accepts_ok m
  · injection h with h; subst h; exact K_uart_halves_ok m
  · injection h with h; subst h; exact K_uart_size_ok m
  · injection h with h; subst h; exact K_uart_finished_ok m
  · cases h
def w_uart_Step (b : State × List Event) : List (RV C) := [(dS of_State cells_State of_State_ok).e b.1, (dRow 35).e b.2]
noncomputable def Q_uart_Step_8 (m : Nat) : St C → (Exit → St C → Option (List (RV C))) → Option (List (RV C)) := fun σ k => codeK Try.prog (Ψ_uart_Step m) (callK Try.prog (Ψ_uart_Step m) keep m 0) (keep 13) m (subC body13 [.r, .r, .r, .r, .r, .r, .b, .o]) σ k
noncomputable def KL_uart_Step_8 (m : Nat) : Exit → St C → Option (List (RV C)) := contK Try.prog (Ψ_uart_Step m) (callK Try.prog (Ψ_uart_Step m) keep m 0) (keep 13) m body13 [.r, .r, .r, .r, .r, .r, .b, .o] (leaveK Try.prog Try.f13.results.toList (finK Try.prog Try.f13.resultTypes.toList))
noncomputable def L_uart_Step_l8 (m n : Nat) (at_9 : Int) (c0 : Uart) (c1 : State) (c2 : Event) (c3 : State) (out_8 : List Event) : Option (List (RV C)) := iterK (Q_uart_Step_8 m) (St.norm (keep 13 8)) n ({ T := [.dead, .dead, .dead, .fl (.one (.ptr 0 0)), .fl (.one (.ptr 1 0)), .fl (.one (.ptr 2 0)), .fl (.one (.ptr 3 0)), .dead, .fl (.one (.sl 4)), .fl (.one (.int .i64 at_9))] ++ List.replicate 112 .dead, F := [[]], H := [.box 25 (cells_Uart c0), .box 30 (cells_State c1), .box 35 (cells_Event c2), .box 30 (cells_State c3), .row 35 true out_8] } : St C) (KL_uart_Step_8 m)
noncomputable def b_uart_Step_l8 {R : Type} (m : Nat) (ret : State → List Event → Option R) (k_l8 : Int → Uart → State → Event → State → List Event → Option R) (at_9 : Int) (c0 : Uart) (c1 : State) (c2 : Event) (c3 : State) (out_8 : List Event) : Option R :=
 bif c1.Phase == 3 then
 bif c2.Value == 0 then
 ret c1 out_8
 else
 k_l8 at_9 c0 { c1 with Phase := 1 } c2 c3 out_8
 else
 bif c1.Phase == 2 then
 ((uart_halves m c0 (IntKind.i64.wrap (IntKind.i64.wrap (2 * c1.Count) + 1))).bind fun r0 =>
 bif decide (IntKind.i64.wrap (c1.From + r0) ≥ c2.To) then
 ret c1 out_8
 else
 bif decide (c1.Count < 0) then
 ret c1 out_8
 else
 (uart_size m c0).bind fun r1 =>
 bif decide (c1.Count ≥ r1) then
 ret c1 out_8
 else
 bif decide (c1.Count < 0) then
 none
 else
 bif IntKind.i64.wrap (c1.Count + 1) == 1 then
 (bif c2.Value == 1 then
 k_l8 (IntKind.i64.wrap (c1.From + r0)) c0 { c1 with Phase := 1, Count := IntKind.i64.wrap (c1.Count + 1), Acc := IntKind.i64.wrap (((BitVec.ofInt 64 c1.Acc ||| BitVec.ofInt 64 (IntKind.i64.wrap (c2.Value * 2 ^ min c1.Count.toNat 64))).toNat : Int)) } c2 c3 out_8
 else
 (uart_size m c0).bind fun r2 =>
 bif decide (IntKind.i64.wrap (c1.Count + 1) < r2) then
 k_l8 (IntKind.i64.wrap (c1.From + r0)) c0 { c1 with Count := IntKind.i64.wrap (c1.Count + 1), Acc := IntKind.i64.wrap (((BitVec.ofInt 64 c1.Acc ||| BitVec.ofInt 64 (IntKind.i64.wrap (c2.Value * 2 ^ min c1.Count.toNat 64))).toNat : Int)) } c2 c3 out_8
 else
 (uart_finished m c0 c1.From (IntKind.i64.wrap (((BitVec.ofInt 64 c1.Acc ||| BitVec.ofInt 64 (IntKind.i64.wrap (c2.Value * 2 ^ min c1.Count.toNat 64))).toNat : Int)))).bind fun r3 =>
 bif decide ((out_8.length + 1) * 64 ≤ 140737488355328) then
 bif c2.Value == 1 then
 k_l8 (IntKind.i64.wrap (c1.From + r0)) c0 { c1 with Phase := 1, Count := IntKind.i64.wrap (c1.Count + 1), Acc := IntKind.i64.wrap (((BitVec.ofInt 64 c1.Acc ||| BitVec.ofInt 64 (IntKind.i64.wrap (c2.Value * 2 ^ min c1.Count.toNat 64))).toNat : Int)) } c2 c3 (out_8 ++ [r3])
 else
 k_l8 (IntKind.i64.wrap (c1.From + r0)) c0 { c1 with Phase := 3, Count := IntKind.i64.wrap (c1.Count + 1), Acc := IntKind.i64.wrap (((BitVec.ofInt 64 c1.Acc ||| BitVec.ofInt 64 (IntKind.i64.wrap (c2.Value * 2 ^ min c1.Count.toNat 64))).toNat : Int)) } c2 c3 (out_8 ++ [r3])
 else
 none)
 else
 (uart_size m c0).bind fun r4 =>
 bif decide (IntKind.i64.wrap (c1.Count + 1) < r4) then
 k_l8 (IntKind.i64.wrap (c1.From + r0)) c0 { c1 with Count := IntKind.i64.wrap (c1.Count + 1), Acc := IntKind.i64.wrap (((BitVec.ofInt 64 c1.Acc ||| BitVec.ofInt 64 (IntKind.i64.wrap (c2.Value * 2 ^ min c1.Count.toNat 64))).toNat : Int)) } c2 c3 out_8
 else
 (uart_finished m c0 c1.From (IntKind.i64.wrap (((BitVec.ofInt 64 c1.Acc ||| BitVec.ofInt 64 (IntKind.i64.wrap (c2.Value * 2 ^ min c1.Count.toNat 64))).toNat : Int)))).bind fun r5 =>
 bif decide ((out_8.length + 1) * 64 ≤ 140737488355328) then
 bif c2.Value == 1 then
 k_l8 (IntKind.i64.wrap (c1.From + r0)) c0 { c1 with Phase := 1, Count := IntKind.i64.wrap (c1.Count + 1), Acc := IntKind.i64.wrap (((BitVec.ofInt 64 c1.Acc ||| BitVec.ofInt 64 (IntKind.i64.wrap (c2.Value * 2 ^ min c1.Count.toNat 64))).toNat : Int)) } c2 c3 (out_8 ++ [r5])
 else
 k_l8 (IntKind.i64.wrap (c1.From + r0)) c0 { c1 with Phase := 3, Count := IntKind.i64.wrap (c1.Count + 1), Acc := IntKind.i64.wrap (((BitVec.ofInt 64 c1.Acc ||| BitVec.ofInt 64 (IntKind.i64.wrap (c2.Value * 2 ^ min c1.Count.toNat 64))).toNat : Int)) } c2 c3 (out_8 ++ [r5])
 else
 none)
 else
 bif c2.Value == 1 then
 ret { c1 with Phase := 1 } out_8
 else
 k_l8 at_9 c0 { c1 with Phase := 2, From := at_9, Count := 0, Acc := 0 } c2 c3 out_8
theorem L_uart_Step_l8_step (m n : Nat) (at_9 : Int) (c0 : Uart) (c1 : State) (c2 : Event) (c3 : State) (out_8 : List Event) : L_uart_Step_l8 m (n + 1) at_9 c0 c1 c2 c3 out_8 = b_uart_Step_l8 m (fun x0 x1 => some (w_uart_Step (x0, x1))) (fun at_9 c0 c1 c2 c3 out_8 => L_uart_Step_l8 m n at_9 c0 c1 c2 c3 out_8) at_9 c0 c1 c2 c3 out_8 := by kernel_rfl
theorem b_uart_Step_l8_map (m : Nat) {k_l8 : Int → Uart → State → Event → State → List Event → Option (List (RV C))} {q_l8 : Int → Uart → State → Event → State → List Event → Option (State × List Event)} (h_l8 : ∀ at_9 c0 c1 c2 c3 out_8, k_l8 at_9 c0 c1 c2 c3 out_8 = (q_l8 at_9 c0 c1 c2 c3 out_8).map w_uart_Step) (at_9 : Int) (c0 : Uart) (c1 : State) (c2 : Event) (c3 : State) (out_8 : List Event) : b_uart_Step_l8 m (fun x0 x1 => some (w_uart_Step (x0, x1))) k_l8 at_9 c0 c1 c2 c3 out_8 = (b_uart_Step_l8 m (fun x0 x1 => some (x0, x1)) q_l8 at_9 c0 c1 c2 c3 out_8).map w_uart_Step := by
  simp only [b_uart_Step_l8, cond_map, bind_map, map_none, map_some, h_l8]
noncomputable def uart_Step_l8 (m : Nat) : Nat → Int → Uart → State → Event → State → List Event → Option (State × List Event)
  | 0, _, _, _, _, _, _ => none
  | n + 1, at_9, c0, c1, c2, c3, out_8 => b_uart_Step_l8 m (fun x0 x1 => some (x0, x1)) (fun at_9 c0 c1 c2 c3 out_8 => uart_Step_l8 m n at_9 c0 c1 c2 c3 out_8) at_9 c0 c1 c2 c3 out_8
theorem L_uart_Step_l8_eq (m : Nat) : ∀ (n : Nat) (at_9 : Int) (c0 : Uart) (c1 : State) (c2 : Event) (c3 : State) (out_8 : List Event), L_uart_Step_l8 m n at_9 c0 c1 c2 c3 out_8 = (uart_Step_l8 m n at_9 c0 c1 c2 c3 out_8).map w_uart_Step
  | 0, at_9, c0, c1, c2, c3, out_8 => by kernel_rfl
  | n + 1, at_9, c0, c1, c2, c3, out_8 => by
    rw [L_uart_Step_l8_step]
    exact b_uart_Step_l8_map m (fun at_9 c0 c1 c2 c3 out_8 => L_uart_Step_l8_eq m n at_9 c0 c1 c2 c3 out_8) at_9 c0 c1 c2 c3 out_8
noncomputable def b_uart_Step {R : Type} (m : Nat) (ret : State → List Event → Option R) (k_l8 : Int → Uart → State → Event → State → List Event → Option R) (c_0 : Uart) (s_1 : State) (e_2 : Event) : Option R :=
 (uart_Check m c_0).bind fun r0 =>
 bif r0 != 0 then
 ret s_1 []
 else
 (uart_accepts m s_1 e_2).bind fun r1 =>
 bif !r1 then
 ret s_1 []
 else
 bif s_1.Phase == 0 then
 k_l8 e_2.From c_0 { s_1 with Phase := 1, At := e_2.To } e_2 (State.mk 0 0 0 0 0 0 0 (bs [])) []
 else
 k_l8 e_2.From c_0 { s_1 with At := e_2.To } e_2 (State.mk 0 0 0 0 0 0 0 (bs [])) []
theorem uart_Step_pre (m : Nat) (c_0 : Uart) (s_1 : State) (e_2 : Event) : funK Try.prog (Ψ_uart_Step m) keep m 1 13 [(dS of_Uart cells_Uart of_Uart_ok).e c_0, (dS of_State cells_State of_State_ok).e s_1, (dS of_Event cells_Event of_Event_ok).e e_2] = b_uart_Step m (fun x0 x1 => some (w_uart_Step (x0, x1))) (fun at_9 c0 c1 c2 c3 out_8 => L_uart_Step_l8 m m at_9 c0 c1 c2 c3 out_8) c_0 s_1 e_2 := by kernel_rfl
theorem b_uart_Step_map (m : Nat) {k_l8 : Int → Uart → State → Event → State → List Event → Option (List (RV C))} {q_l8 : Int → Uart → State → Event → State → List Event → Option (State × List Event)} (h_l8 : ∀ at_9 c0 c1 c2 c3 out_8, k_l8 at_9 c0 c1 c2 c3 out_8 = (q_l8 at_9 c0 c1 c2 c3 out_8).map w_uart_Step) (c_0 : Uart) (s_1 : State) (e_2 : Event) : b_uart_Step m (fun x0 x1 => some (w_uart_Step (x0, x1))) k_l8 c_0 s_1 e_2 = (b_uart_Step m (fun x0 x1 => some (x0, x1)) q_l8 c_0 s_1 e_2).map w_uart_Step := by
  simp only [b_uart_Step, cond_map, bind_map, map_none, map_some, h_l8]
noncomputable def uart_Step (m : Nat) (c_0 : Uart) (s_1 : State) (e_2 : Event) : Option (State × List Event) := b_uart_Step m (fun x0 x1 => some (x0, x1)) (fun at_9 c0 c1 c2 c3 out_8 => uart_Step_l8 m m at_9 c0 c1 c2 c3 out_8) c_0 s_1 e_2
theorem uart_Step_fun (m : Nat) (c_0 : Uart) (s_1 : State) (e_2 : Event) : funK Try.prog (Ψ_uart_Step m) keep m 1 13 [(dS of_Uart cells_Uart of_Uart_ok).e c_0, (dS of_State cells_State of_State_ok).e s_1, (dS of_Event cells_Event of_Event_ok).e e_2] = (uart_Step m c_0 s_1 e_2).map w_uart_Step := by
  rw [uart_Step_pre]
  exact b_uart_Step_map m (fun at_9 c0 c1 c2 c3 out_8 => L_uart_Step_l8_eq m m at_9 c0 c1 c2 c3 out_8) c_0 s_1 e_2
noncomputable def K_uart_Step (m : Nat) : KnownF C := mkK (dCons (dS of_Uart cells_Uart of_Uart_ok) (dCons (dS of_State cells_State of_State_ok) (dCons (dS of_Event cells_Event of_Event_ok) dNil))) (fun a => uart_Step m a.1 a.2.1 a.2.2.1) w_uart_Step
theorem K_uart_Step_ok (m : Nat) : KnownAt C Try.prog 13 fun l => (K_uart_Step m).run _ l some :=
  mkK_known good fit (Ψ_uart_Step_ok m) (keep := keep) (m := m) (d := 1) fun a => uart_Step_fun m a.1 a.2.1 a.2.2.1
/-! ### signalbench/uart.End -/
def w_uart_End (b : List Event) : List (RV C) := [(dRow 35).e b]
noncomputable def b_uart_End {R : Type} (m : Nat) (ret : List Event → Option R) (c_0 : Uart) (s_1 : State) : Option R :=
 ret []
theorem uart_End_pre (m : Nat) (c_0 : Uart) (s_1 : State) : funK Try.prog Ψ0 keep m 1 18 [(dS of_Uart cells_Uart of_Uart_ok).e c_0, (dS of_State cells_State of_State_ok).e s_1] = b_uart_End m (fun x0 => some (w_uart_End x0)) c_0 s_1 := by kernel_rfl
theorem b_uart_End_map (m : Nat) (c_0 : Uart) (s_1 : State) : b_uart_End m (fun x0 => some (w_uart_End x0)) c_0 s_1 = (b_uart_End m (fun x0 => some x0) c_0 s_1).map w_uart_End := by
  simp only [b_uart_End, cond_map, bind_map, map_none, map_some]
noncomputable def uart_End (m : Nat) (c_0 : Uart) (s_1 : State) : Option (List Event) := b_uart_End m (fun x0 => some x0) c_0 s_1
theorem uart_End_fun (m : Nat) (c_0 : Uart) (s_1 : State) : funK Try.prog Ψ0 keep m 1 18 [(dS of_Uart cells_Uart of_Uart_ok).e c_0, (dS of_State cells_State of_State_ok).e s_1] = (uart_End m c_0 s_1).map w_uart_End := by
  rw [uart_End_pre]
  exact b_uart_End_map m c_0 s_1
noncomputable def K_uart_End (m : Nat) : KnownF C := mkK (dCons (dS of_Uart cells_Uart of_Uart_ok) (dCons (dS of_State cells_State of_State_ok) dNil)) (fun a => uart_End m a.1 a.2.1) w_uart_End
theorem K_uart_End_ok (m : Nat) : KnownAt C Try.prog 18 fun l => (K_uart_End m).run _ l some :=
  mkK_known good fit Ψ0_ok (keep := keep) (m := m) (d := 1) fun a => uart_End_fun m a.1 a.2.1
/-! ### signalbench/uart.Decode -/
noncomputable def Ψ_uart_Decode (m : Nat) : Known C := fun f => match f with
  | 11 => some (K_uart_Start m)
  | 13 => some (K_uart_Step m)
  | 18 => some (K_uart_End m)
  | _ => none
theorem Ψ_uart_Decode_ok (m : Nat) : KnownOk C Try.prog (Ψ_uart_Decode m) := by
  intro f φ h
  unfold Ψ_uart_Decode at h
  split at h
  · injection h with h; subst h; exact K_uart_Start_ok m
  · injection h with h; subst h; exact K_uart_Step_ok m
  · injection h with h; subst h; exact K_uart_End_ok m
  · cases h
def w_uart_Decode (b : List Event) : List (RV C) := [(dRow 35).e b]
noncomputable def Q_uart_Decode_4 (m : Nat) : St C → (Exit → St C → Option (List (RV C))) → Option (List (RV C)) := fun σ k => codeK Try.prog (Ψ_uart_Decode m) (callK Try.prog (Ψ_uart_Decode m) keep m 0) (keep 19) m (subC body19 [.r, .r, .r, .l, .r, .b, .o]) σ k
noncomputable def KL_uart_Decode_4 (m : Nat) : Exit → St C → Option (List (RV C)) := contK Try.prog (Ψ_uart_Decode m) (callK Try.prog (Ψ_uart_Decode m) keep m 0) (keep 19) m body19 [.r, .r, .r, .l, .r, .b, .o] (leaveK Try.prog Try.f19.results.toList (finK Try.prog Try.f19.resultTypes.toList))
noncomputable def L_uart_Decode_l4 (m n : Nat) (t14 : Int) (t15 : Int) (c0 : Uart) (out_5 : List Event) (c2 : State) (t13 : List Event) : Option (List (RV C)) := iterK (Q_uart_Decode_4 m) (St.norm (keep 19 4)) n ({ T := [.dead, .dead, .fl (.one (.ptr 0 0)), .dead, .dead, .fl (.one (.sl 1)), .fl (.one (.ptr 2 0)), .dead, .dead, .dead, .dead, .dead, .dead, .fl (.one (.sl 3)), .fl (.one (.int .i64 t14)), .fl (.one (.int .i64 t15))] ++ List.replicate 20 .dead, F := [[]], H := [.box 25 (cells_Uart c0), .row 35 true out_5, .box 30 (cells_State c2), .row 35 false t13] } : St C) (KL_uart_Decode_4 m)
noncomputable def b_uart_Decode_l4 {R : Type} (m : Nat) (ret : List Event → Option R) (k_l4 : Int → Int → Uart → List Event → State → List Event → Option R) (t14 : Int) (t15 : Int) (c0 : Uart) (out_5 : List Event) (c2 : State) (t13 : List Event) : Option R :=
 bif decide (t15 < t14) then
 (bif decide (0 ≤ t15) then
 (bif decide (t15 < (t13.length : Int)) then
 ((uart_Step m c0 c2 (t13.getD t15.toNat dflt_Event)).bind fun r0 =>
 bif decide ((out_5.length + r0.snd.length) * 64 ≤ 140737488355328) then
 k_l4 t14 (IntKind.i64.wrap (t15 + 1)) c0 (out_5 ++ r0.snd) r0.fst t13
 else
 none)
 else
 none)
 else
 none)
 else
 bif decide ((out_5.length + 0) * 64 ≤ 140737488355328) then
 ret (out_5 ++ [])
 else
 none
theorem L_uart_Decode_l4_step (m n : Nat) (t14 : Int) (t15 : Int) (c0 : Uart) (out_5 : List Event) (c2 : State) (t13 : List Event) : L_uart_Decode_l4 m (n + 1) t14 t15 c0 out_5 c2 t13 = b_uart_Decode_l4 m (fun x0 => some (w_uart_Decode x0)) (fun t14 t15 c0 out_5 c2 t13 => L_uart_Decode_l4 m n t14 t15 c0 out_5 c2 t13) t14 t15 c0 out_5 c2 t13 := by kernel_rfl
theorem b_uart_Decode_l4_map (m : Nat) {k_l4 : Int → Int → Uart → List Event → State → List Event → Option (List (RV C))} {q_l4 : Int → Int → Uart → List Event → State → List Event → Option (List Event)} (h_l4 : ∀ t14 t15 c0 out_5 c2 t13, k_l4 t14 t15 c0 out_5 c2 t13 = (q_l4 t14 t15 c0 out_5 c2 t13).map w_uart_Decode) (t14 : Int) (t15 : Int) (c0 : Uart) (out_5 : List Event) (c2 : State) (t13 : List Event) : b_uart_Decode_l4 m (fun x0 => some (w_uart_Decode x0)) k_l4 t14 t15 c0 out_5 c2 t13 = (b_uart_Decode_l4 m (fun x0 => some x0) q_l4 t14 t15 c0 out_5 c2 t13).map w_uart_Decode := by
  simp only [b_uart_Decode_l4, cond_map, bind_map, map_none, map_some, h_l4]
noncomputable def uart_Decode_l4 (m : Nat) : Nat → Int → Int → Uart → List Event → State → List Event → Option (List Event)
  | 0, _, _, _, _, _, _ => none
  | n + 1, t14, t15, c0, out_5, c2, t13 => b_uart_Decode_l4 m (fun x0 => some x0) (fun t14 t15 c0 out_5 c2 t13 => uart_Decode_l4 m n t14 t15 c0 out_5 c2 t13) t14 t15 c0 out_5 c2 t13
theorem L_uart_Decode_l4_eq (m : Nat) : ∀ (n : Nat) (t14 : Int) (t15 : Int) (c0 : Uart) (out_5 : List Event) (c2 : State) (t13 : List Event), L_uart_Decode_l4 m n t14 t15 c0 out_5 c2 t13 = (uart_Decode_l4 m n t14 t15 c0 out_5 c2 t13).map w_uart_Decode
  | 0, t14, t15, c0, out_5, c2, t13 => by kernel_rfl
  | n + 1, t14, t15, c0, out_5, c2, t13 => by
    rw [L_uart_Decode_l4_step]
    exact b_uart_Decode_l4_map m (fun t14 t15 c0 out_5 c2 t13 => L_uart_Decode_l4_eq m n t14 t15 c0 out_5 c2 t13) t14 t15 c0 out_5 c2 t13
noncomputable def b_uart_Decode {R : Type} (m : Nat) (ret : List Event → Option R) (k_l4 : Int → Int → Uart → List Event → State → List Event → Option R) (c_0 : Uart) (l_1 : List Event) : Option R :=
 k_l4 (l_1.length : Int) 0 c_0 [] (State.mk 0 0 0 0 0 0 0 (bs [])) l_1
theorem uart_Decode_pre (m : Nat) (c_0 : Uart) (l_1 : List Event) : funK Try.prog (Ψ_uart_Decode m) keep m 1 19 [(dS of_Uart cells_Uart of_Uart_ok).e c_0, (dRow 35).e l_1] = b_uart_Decode m (fun x0 => some (w_uart_Decode x0)) (fun t14 t15 c0 out_5 c2 t13 => L_uart_Decode_l4 m m t14 t15 c0 out_5 c2 t13) c_0 l_1 := by kernel_rfl
theorem b_uart_Decode_map (m : Nat) {k_l4 : Int → Int → Uart → List Event → State → List Event → Option (List (RV C))} {q_l4 : Int → Int → Uart → List Event → State → List Event → Option (List Event)} (h_l4 : ∀ t14 t15 c0 out_5 c2 t13, k_l4 t14 t15 c0 out_5 c2 t13 = (q_l4 t14 t15 c0 out_5 c2 t13).map w_uart_Decode) (c_0 : Uart) (l_1 : List Event) : b_uart_Decode m (fun x0 => some (w_uart_Decode x0)) k_l4 c_0 l_1 = (b_uart_Decode m (fun x0 => some x0) q_l4 c_0 l_1).map w_uart_Decode := by
  simp only [b_uart_Decode, cond_map, bind_map, map_none, map_some, h_l4]
noncomputable def uart_Decode (m : Nat) (c_0 : Uart) (l_1 : List Event) : Option (List Event) := b_uart_Decode m (fun x0 => some x0) (fun t14 t15 c0 out_5 c2 t13 => uart_Decode_l4 m m t14 t15 c0 out_5 c2 t13) c_0 l_1
theorem uart_Decode_fun (m : Nat) (c_0 : Uart) (l_1 : List Event) : funK Try.prog (Ψ_uart_Decode m) keep m 1 19 [(dS of_Uart cells_Uart of_Uart_ok).e c_0, (dRow 35).e l_1] = (uart_Decode m c_0 l_1).map w_uart_Decode := by
  rw [uart_Decode_pre]
  exact b_uart_Decode_map m (fun t14 t15 c0 out_5 c2 t13 => L_uart_Decode_l4_eq m m t14 t15 c0 out_5 c2 t13) c_0 l_1
noncomputable def K_uart_Decode (m : Nat) : KnownF C := mkK (dCons (dS of_Uart cells_Uart of_Uart_ok) (dCons (dRow 35) dNil)) (fun a => uart_Decode m a.1 a.2.1) w_uart_Decode
theorem K_uart_Decode_ok (m : Nat) : KnownAt C Try.prog 19 fun l => (K_uart_Decode m).run _ l some :=
  mkK_known good fit (Ψ_uart_Decode_ok m) (keep := keep) (m := m) (d := 1) fun a => uart_Decode_fun m a.1 a.2.1
/-! ### signalbench/uart.Expect -/
noncomputable def Ψ_uart_Expect (m : Nat) : Known C := fun f => match f with
  | 22 => some (K_uart_Encode m)
  | 19 => some (K_uart_Decode m)
  | _ => none
theorem Ψ_uart_Expect_ok (m : Nat) : KnownOk C Try.prog (Ψ_uart_Expect m) := by
  intro f φ h
  unfold Ψ_uart_Expect at h
  split at h
  · injection h with h; subst h; exact K_uart_Encode_ok m
  · injection h with h; subst h; exact K_uart_Decode_ok m
  · cases h
def w_uart_Expect (b : List Event × Int) : List (RV C) := [(dRow 35).e b.1, (dInt .i64).e b.2]
noncomputable def Q_uart_Expect_7 (m : Nat) : St C → (Exit → St C → Option (List (RV C))) → Option (List (RV C)) := fun σ k => codeK Try.prog (Ψ_uart_Expect m) (callK Try.prog (Ψ_uart_Expect m) keep m 0) (keep 25) m (subC body25 [.r, .r, .r, .r, .r, .l, .r, .b, .o]) σ k
noncomputable def KL_uart_Expect_7 (m : Nat) : Exit → St C → Option (List (RV C)) := contK Try.prog (Ψ_uart_Expect m) (callK Try.prog (Ψ_uart_Expect m) keep m 0) (keep 25) m body25 [.r, .r, .r, .r, .r, .l, .r, .b, .o] (leaveK Try.prog Try.f25.results.toList (finK Try.prog Try.f25.resultTypes.toList))
noncomputable def L_uart_Expect_l7 (m n : Nat) (at_9 : Int) (t22 : Int) (t23 : Int) (c0 : Uart) (in_8 : List Event) (t21 : List Run) : Option (List (RV C)) := iterK (Q_uart_Expect_7 m) (St.norm (keep 25 7)) n ({ T := [.dead, .dead, .fl (.one (.ptr 0 0)), .dead, .dead, .dead, .dead, .dead, .fl (.one (.sl 1)), .fl (.one (.int .i64 at_9)), .dead, .dead, .dead, .dead, .dead, .dead, .dead, .dead, .dead, .dead, .dead, .fl (.one (.sl 2)), .fl (.one (.int .i64 t22)), .fl (.one (.int .i64 t23))] ++ List.replicate 22 .dead, F := [[]], H := [.box 25 (cells_Uart c0), .row 35 true in_8, .row 59 true t21] } : St C) (KL_uart_Expect_7 m)
noncomputable def b_uart_Expect_l7 {R : Type} (m : Nat) (ret : List Event → Int → Option R) (k_l7 : Int → Int → Int → Uart → List Event → List Run → Option R) (at_9 : Int) (t22 : Int) (t23 : Int) (c0 : Uart) (in_8 : List Event) (t21 : List Run) : Option R :=
 bif decide (t23 < t22) then
 bif decide (0 ≤ t23) then
 bif decide (t23 < (t21.length : Int)) then
 bif decide ((in_8.length + 1) * 64 ≤ 140737488355328) then
 k_l7 (IntKind.i64.wrap (at_9 + (t21.getD t23.toNat dflt_Run).Ticks)) t22 (IntKind.i64.wrap (t23 + 1)) c0 (in_8 ++ [Event.mk 1 at_9 (IntKind.i64.wrap (at_9 + (t21.getD t23.toNat dflt_Run).Ticks)) (t21.getD t23.toNat dflt_Run).Level 0 (bs []) 0]) t21
 else
 none
 else
 none
 else
 none
 else
 (uart_Decode m c0 in_8).bind fun r0 =>
 ret r0 0
theorem L_uart_Expect_l7_step (m n : Nat) (at_9 : Int) (t22 : Int) (t23 : Int) (c0 : Uart) (in_8 : List Event) (t21 : List Run) : L_uart_Expect_l7 m (n + 1) at_9 t22 t23 c0 in_8 t21 = b_uart_Expect_l7 m (fun x0 x1 => some (w_uart_Expect (x0, x1))) (fun at_9 t22 t23 c0 in_8 t21 => L_uart_Expect_l7 m n at_9 t22 t23 c0 in_8 t21) at_9 t22 t23 c0 in_8 t21 := by kernel_rfl
theorem b_uart_Expect_l7_map (m : Nat) {k_l7 : Int → Int → Int → Uart → List Event → List Run → Option (List (RV C))} {q_l7 : Int → Int → Int → Uart → List Event → List Run → Option (List Event × Int)} (h_l7 : ∀ at_9 t22 t23 c0 in_8 t21, k_l7 at_9 t22 t23 c0 in_8 t21 = (q_l7 at_9 t22 t23 c0 in_8 t21).map w_uart_Expect) (at_9 : Int) (t22 : Int) (t23 : Int) (c0 : Uart) (in_8 : List Event) (t21 : List Run) : b_uart_Expect_l7 m (fun x0 x1 => some (w_uart_Expect (x0, x1))) k_l7 at_9 t22 t23 c0 in_8 t21 = (b_uart_Expect_l7 m (fun x0 x1 => some (x0, x1)) q_l7 at_9 t22 t23 c0 in_8 t21).map w_uart_Expect := by
  simp only [b_uart_Expect_l7, cond_map, bind_map, map_none, map_some, h_l7]
noncomputable def uart_Expect_l7 (m : Nat) : Nat → Int → Int → Int → Uart → List Event → List Run → Option (List Event × Int)
  | 0, _, _, _, _, _, _ => none
  | n + 1, at_9, t22, t23, c0, in_8, t21 => b_uart_Expect_l7 m (fun x0 x1 => some (x0, x1)) (fun at_9 t22 t23 c0 in_8 t21 => uart_Expect_l7 m n at_9 t22 t23 c0 in_8 t21) at_9 t22 t23 c0 in_8 t21
theorem L_uart_Expect_l7_eq (m : Nat) : ∀ (n : Nat) (at_9 : Int) (t22 : Int) (t23 : Int) (c0 : Uart) (in_8 : List Event) (t21 : List Run), L_uart_Expect_l7 m n at_9 t22 t23 c0 in_8 t21 = (uart_Expect_l7 m n at_9 t22 t23 c0 in_8 t21).map w_uart_Expect
  | 0, at_9, t22, t23, c0, in_8, t21 => by kernel_rfl
  | n + 1, at_9, t22, t23, c0, in_8, t21 => by
    rw [L_uart_Expect_l7_step]
    exact b_uart_Expect_l7_map m (fun at_9 t22 t23 c0 in_8 t21 => L_uart_Expect_l7_eq m n at_9 t22 t23 c0 in_8 t21) at_9 t22 t23 c0 in_8 t21
noncomputable def b_uart_Expect {R : Type} (m : Nat) (ret : List Event → Int → Option R) (k_l7 : Int → Int → Int → Uart → List Event → List Run → Option R) (c_0 : Uart) (l_1 : List Item) : Option R :=
 (uart_Encode m c_0 l_1).bind fun r0 =>
 bif r0.snd != 0 then
 ret [] r0.snd
 else
 k_l7 0 (r0.fst.length : Int) 0 c_0 [] r0.fst
theorem uart_Expect_pre (m : Nat) (c_0 : Uart) (l_1 : List Item) : funK Try.prog (Ψ_uart_Expect m) keep m 1 25 [(dS of_Uart cells_Uart of_Uart_ok).e c_0, (dRow 54).e l_1] = b_uart_Expect m (fun x0 x1 => some (w_uart_Expect (x0, x1))) (fun at_9 t22 t23 c0 in_8 t21 => L_uart_Expect_l7 m m at_9 t22 t23 c0 in_8 t21) c_0 l_1 := by kernel_rfl
theorem b_uart_Expect_map (m : Nat) {k_l7 : Int → Int → Int → Uart → List Event → List Run → Option (List (RV C))} {q_l7 : Int → Int → Int → Uart → List Event → List Run → Option (List Event × Int)} (h_l7 : ∀ at_9 t22 t23 c0 in_8 t21, k_l7 at_9 t22 t23 c0 in_8 t21 = (q_l7 at_9 t22 t23 c0 in_8 t21).map w_uart_Expect) (c_0 : Uart) (l_1 : List Item) : b_uart_Expect m (fun x0 x1 => some (w_uart_Expect (x0, x1))) k_l7 c_0 l_1 = (b_uart_Expect m (fun x0 x1 => some (x0, x1)) q_l7 c_0 l_1).map w_uart_Expect := by
  simp only [b_uart_Expect, cond_map, bind_map, map_none, map_some, h_l7]
noncomputable def uart_Expect (m : Nat) (c_0 : Uart) (l_1 : List Item) : Option (List Event × Int) := b_uart_Expect m (fun x0 x1 => some (x0, x1)) (fun at_9 t22 t23 c0 in_8 t21 => uart_Expect_l7 m m at_9 t22 t23 c0 in_8 t21) c_0 l_1
theorem uart_Expect_fun (m : Nat) (c_0 : Uart) (l_1 : List Item) : funK Try.prog (Ψ_uart_Expect m) keep m 1 25 [(dS of_Uart cells_Uart of_Uart_ok).e c_0, (dRow 54).e l_1] = (uart_Expect m c_0 l_1).map w_uart_Expect := by
  rw [uart_Expect_pre]
  exact b_uart_Expect_map m (fun at_9 t22 t23 c0 in_8 t21 => L_uart_Expect_l7_eq m m at_9 t22 t23 c0 in_8 t21) c_0 l_1
noncomputable def K_uart_Expect (m : Nat) : KnownF C := mkK (dCons (dS of_Uart cells_Uart of_Uart_ok) (dCons (dRow 54) dNil)) (fun a => uart_Expect m a.1 a.2.1) w_uart_Expect
theorem K_uart_Expect_ok (m : Nat) : KnownAt C Try.prog 25 fun l => (K_uart_Expect m).run _ l some :=
  mkK_known good fit (Ψ_uart_Expect_ok m) (keep := keep) (m := m) (d := 1) fun a => uart_Expect_fun m a.1 a.2.1
/-! ### signalbench/signalbenchlaw22.events -/
def w_law22_events (b : List Event) : List (RV C) := [(dRow 35).e b]
noncomputable def Q_law22_events_3 (m : Nat) : St C → (Exit → St C → Option (List (RV C))) → Option (List (RV C)) := fun σ k => codeK Try.prog Ψ0 (callK Try.prog Ψ0 keep m 0) (keep 26) m (subC body26 [.r, .r, .l, .r, .b, .o]) σ k
noncomputable def KL_law22_events_3 (m : Nat) : Exit → St C → Option (List (RV C)) := contK Try.prog Ψ0 (callK Try.prog Ψ0 keep m 0) (keep 26) m body26 [.r, .r, .l, .r, .b, .o] (leaveK Try.prog Try.f26.results.toList (finK Try.prog Try.f26.resultTypes.toList))
noncomputable def L_law22_events_l3 (m n : Nat) (at_4 : Int) (i_5 : Int) (l_0 : List Run) (out_3 : List Event) : Option (List (RV C)) := iterK (Q_law22_events_3 m) (St.norm (keep 26 3)) n ({ T := [.fl (.one (.sl 0)), .dead, .dead, .fl (.one (.sl 1)), .fl (.one (.int .i64 at_4)), .fl (.one (.int .i64 i_5))] ++ List.replicate 32 .dead, F := [[]], H := [.row 59 false l_0, .row 35 true out_3] } : St C) (KL_law22_events_3 m)
noncomputable def b_law22_events_l3 {R : Type} (m : Nat) (ret : List Event → Option R) (k_l3 : Int → Int → List Run → List Event → Option R) (at_4 : Int) (i_5 : Int) (l_0 : List Run) (out_3 : List Event) : Option R :=
 bif decide (i_5 < (l_0.length : Int)) then
 bif decide (0 ≤ i_5) then
 bif decide (i_5 < (l_0.length : Int)) then
 bif decide (0 ≤ i_5) then
 bif decide (i_5 < (l_0.length : Int)) then
 bif decide ((out_3.length + 1) * 64 ≤ 140737488355328) then
 bif decide (0 ≤ i_5) then
 bif decide (i_5 < (l_0.length : Int)) then
 k_l3 (IntKind.i64.wrap (at_4 + (l_0.getD i_5.toNat dflt_Run).Ticks)) (IntKind.i64.wrap (i_5 + 1)) l_0 (out_3 ++ [Event.mk 1 at_4 (IntKind.i64.wrap (at_4 + (l_0.getD i_5.toNat dflt_Run).Ticks)) (l_0.getD i_5.toNat dflt_Run).Level 0 (bs []) 0])
 else
 none
 else
 none
 else
 none
 else
 none
 else
 none
 else
 none
 else
 none
 else
 ret out_3
theorem L_law22_events_l3_step (m n : Nat) (at_4 : Int) (i_5 : Int) (l_0 : List Run) (out_3 : List Event) : L_law22_events_l3 m (n + 1) at_4 i_5 l_0 out_3 = b_law22_events_l3 m (fun x0 => some (w_law22_events x0)) (fun at_4 i_5 l_0 out_3 => L_law22_events_l3 m n at_4 i_5 l_0 out_3) at_4 i_5 l_0 out_3 := by kernel_rfl
theorem b_law22_events_l3_map (m : Nat) {k_l3 : Int → Int → List Run → List Event → Option (List (RV C))} {q_l3 : Int → Int → List Run → List Event → Option (List Event)} (h_l3 : ∀ at_4 i_5 l_0 out_3, k_l3 at_4 i_5 l_0 out_3 = (q_l3 at_4 i_5 l_0 out_3).map w_law22_events) (at_4 : Int) (i_5 : Int) (l_0 : List Run) (out_3 : List Event) : b_law22_events_l3 m (fun x0 => some (w_law22_events x0)) k_l3 at_4 i_5 l_0 out_3 = (b_law22_events_l3 m (fun x0 => some x0) q_l3 at_4 i_5 l_0 out_3).map w_law22_events := by
  simp only [b_law22_events_l3, cond_map, bind_map, map_none, map_some, h_l3]
noncomputable def law22_events_l3 (m : Nat) : Nat → Int → Int → List Run → List Event → Option (List Event)
  | 0, _, _, _, _ => none
  | n + 1, at_4, i_5, l_0, out_3 => b_law22_events_l3 m (fun x0 => some x0) (fun at_4 i_5 l_0 out_3 => law22_events_l3 m n at_4 i_5 l_0 out_3) at_4 i_5 l_0 out_3
theorem L_law22_events_l3_eq (m : Nat) : ∀ (n : Nat) (at_4 : Int) (i_5 : Int) (l_0 : List Run) (out_3 : List Event), L_law22_events_l3 m n at_4 i_5 l_0 out_3 = (law22_events_l3 m n at_4 i_5 l_0 out_3).map w_law22_events
  | 0, at_4, i_5, l_0, out_3 => by kernel_rfl
  | n + 1, at_4, i_5, l_0, out_3 => by
    rw [L_law22_events_l3_step]
    exact b_law22_events_l3_map m (fun at_4 i_5 l_0 out_3 => L_law22_events_l3_eq m n at_4 i_5 l_0 out_3) at_4 i_5 l_0 out_3
noncomputable def b_law22_events {R : Type} (m : Nat) (ret : List Event → Option R) (k_l3 : Int → Int → List Run → List Event → Option R) (l_0 : List Run) : Option R :=
 k_l3 0 0 l_0 []
theorem law22_events_pre (m : Nat) (l_0 : List Run) : funK Try.prog Ψ0 keep m 1 26 [(dRow 59).e l_0] = b_law22_events m (fun x0 => some (w_law22_events x0)) (fun at_4 i_5 l_0 out_3 => L_law22_events_l3 m m at_4 i_5 l_0 out_3) l_0 := by kernel_rfl
theorem b_law22_events_map (m : Nat) {k_l3 : Int → Int → List Run → List Event → Option (List (RV C))} {q_l3 : Int → Int → List Run → List Event → Option (List Event)} (h_l3 : ∀ at_4 i_5 l_0 out_3, k_l3 at_4 i_5 l_0 out_3 = (q_l3 at_4 i_5 l_0 out_3).map w_law22_events) (l_0 : List Run) : b_law22_events m (fun x0 => some (w_law22_events x0)) k_l3 l_0 = (b_law22_events m (fun x0 => some x0) q_l3 l_0).map w_law22_events := by
  simp only [b_law22_events, cond_map, bind_map, map_none, map_some, h_l3]
noncomputable def law22_events (m : Nat) (l_0 : List Run) : Option (List Event) := b_law22_events m (fun x0 => some x0) (fun at_4 i_5 l_0 out_3 => law22_events_l3 m m at_4 i_5 l_0 out_3) l_0
theorem law22_events_fun (m : Nat) (l_0 : List Run) : funK Try.prog Ψ0 keep m 1 26 [(dRow 59).e l_0] = (law22_events m l_0).map w_law22_events := by
  rw [law22_events_pre]
  exact b_law22_events_map m (fun at_4 i_5 l_0 out_3 => L_law22_events_l3_eq m m at_4 i_5 l_0 out_3) l_0
noncomputable def K_law22_events (m : Nat) : KnownF C := mkK (dCons (dRow 59) dNil) (fun a => law22_events m a.1) w_law22_events
theorem K_law22_events_ok (m : Nat) : KnownAt C Try.prog 26 fun l => (K_law22_events m).run _ l some :=
  mkK_known good fit Ψ0_ok (keep := keep) (m := m) (d := 1) fun a => law22_events_fun m a.1
/-! ### signalbench/signalbenchlaw22.awake -/
noncomputable def Ψ_law22_awake (m : Nat) : Known C := fun f => match f with
  | 22 => some (K_uart_Encode m)
  | 25 => some (K_uart_Expect m)
  | 16 => some (K_uart_Check m)
  | 26 => some (K_law22_events m)
  | 19 => some (K_uart_Decode m)
  | _ => none
theorem Ψ_law22_awake_ok (m : Nat) : KnownOk C Try.prog (Ψ_law22_awake m) := by
  intro f φ h
  unfold Ψ_law22_awake at h
  split at h
  · injection h with h; subst h; exact K_uart_Encode_ok m
  · injection h with h; subst h; exact K_uart_Expect_ok m
  · injection h with h; subst h; exact K_uart_Check_ok m
  · injection h with h; subst h; exact K_law22_events_ok m
  · injection h with h; subst h; exact K_uart_Decode_ok m
  · cases h
def w_law22_awake (b : Bool) : List (RV C) := [dBool.e b]
noncomputable def b_law22_awake {R : Type} (m : Nat) (ret : Bool → Option R) : Option R :=
 (uart_Encode m (Uart.mk 4 1 8 0 1) [Item.mk 0 85 0 (bs []) 0]).bind fun r0 =>
 (uart_Expect m (Uart.mk 4 1 8 0 1) [Item.mk 0 85 0 (bs []) 0]).bind fun r1 =>
 bif r0.snd != 0 then
 ret false
 else
 bif r1.snd != 0 then
 ret false
 else
 bif (r0.fst.length : Int) != 11 then
 ret false
 else
 bif (r1.fst.length : Int) != 1 then
 ret false
 else
 (uart_Check m (Uart.mk 4 1 8 0 1)).bind fun r2 =>
 bif r2 != 0 then
 ret false
 else
 (law22_events m r0.fst).bind fun r3 =>
 (uart_Decode m (Uart.mk 4 1 8 0 1) r3).bind fun r4 =>
 bif decide (0 < (r0.fst.length : Int)) then
 bif (r0.fst.getD 0 dflt_Run).Level == 1 && ((r0.fst.getD 0 dflt_Run).Ticks == 8 && true) then
 bif decide (1 < (r0.fst.length : Int)) then
 bif (r0.fst.getD 1 dflt_Run).Level == 0 && ((r0.fst.getD 1 dflt_Run).Ticks == 4 && true) then
 bif decide (10 < (r0.fst.length : Int)) then
 bif (r0.fst.getD 10 dflt_Run).Level == 1 && ((r0.fst.getD 10 dflt_Run).Ticks == 12 && true) then
 bif decide (0 < (r1.fst.length : Int)) then
 bif (r1.fst.getD 0 dflt_Event).Kind == 3 && ((r1.fst.getD 0 dflt_Event).From == 8 && ((r1.fst.getD 0 dflt_Event).To == 48 && ((r1.fst.getD 0 dflt_Event).Value == 85 && ((r1.fst.getD 0 dflt_Event).Aux == 0 && ((r1.fst.getD 0 dflt_Event).Data == bs [] && ((r1.fst.getD 0 dflt_Event).Fault == 0 && true)))))) then
 bif (r4.length : Int) == 1 then
 bif decide (0 < (r4.length : Int)) then
 bif decide (0 < (r1.fst.length : Int)) then
 ret ((r4.getD 0 dflt_Event).Kind == (r1.fst.getD 0 dflt_Event).Kind && ((r4.getD 0 dflt_Event).From == (r1.fst.getD 0 dflt_Event).From && ((r4.getD 0 dflt_Event).To == (r1.fst.getD 0 dflt_Event).To && ((r4.getD 0 dflt_Event).Value == (r1.fst.getD 0 dflt_Event).Value && ((r4.getD 0 dflt_Event).Aux == (r1.fst.getD 0 dflt_Event).Aux && ((r4.getD 0 dflt_Event).Data == (r1.fst.getD 0 dflt_Event).Data && ((r4.getD 0 dflt_Event).Fault == (r1.fst.getD 0 dflt_Event).Fault && true)))))))
 else
 none
 else
 none
 else
 ret false
 else
 ret false
 else
 none
 else
 ret false
 else
 none
 else
 ret false
 else
 none
 else
 ret false
 else
 none
theorem law22_awake_pre (m : Nat) : funK Try.prog (Ψ_law22_awake m) keep m 1 10 [] = b_law22_awake m (fun x0 => some (w_law22_awake x0)) := by kernel_rfl
theorem b_law22_awake_map (m : Nat) : b_law22_awake m (fun x0 => some (w_law22_awake x0)) = (b_law22_awake m (fun x0 => some x0)).map w_law22_awake := by
  simp only [b_law22_awake, cond_map, bind_map, map_none, map_some]
noncomputable def law22_awake (m : Nat) : Option (Bool) := b_law22_awake m (fun x0 => some x0)
theorem law22_awake_fun (m : Nat) : funK Try.prog (Ψ_law22_awake m) keep m 1 10 [] = (law22_awake m).map w_law22_awake := by
  rw [law22_awake_pre]
  exact b_law22_awake_map m
noncomputable def K_law22_awake (m : Nat) : KnownF C := mkK dNil (fun a => law22_awake m) w_law22_awake
theorem K_law22_awake_ok (m : Nat) : KnownAt C Try.prog 10 fun l => (K_law22_awake m).run _ l some :=
  mkK_known good fit (Ψ_law22_awake_ok m) (keep := keep) (m := m) (d := 1) fun a => law22_awake_fun m
/-! ### signalbench/signalbenchref22.Start -/
def w_ref22_Start (b : State) : List (RV C) := [(dS of_State cells_State of_State_ok).e b]
noncomputable def b_ref22_Start {R : Type} (m : Nat) (ret : State → Option R) (c_0 : Uart) : Option R :=
 ret (State.mk 0 0 0 0 0 0 0 (bs []))
theorem ref22_Start_pre (m : Nat) (c_0 : Uart) : funK Try.prog Ψ0 keep m 1 12 [(dS of_Uart cells_Uart of_Uart_ok).e c_0] = b_ref22_Start m (fun x0 => some (w_ref22_Start x0)) c_0 := by kernel_rfl
theorem b_ref22_Start_map (m : Nat) (c_0 : Uart) : b_ref22_Start m (fun x0 => some (w_ref22_Start x0)) c_0 = (b_ref22_Start m (fun x0 => some x0) c_0).map w_ref22_Start := by
  simp only [b_ref22_Start, cond_map, bind_map, map_none, map_some]
noncomputable def ref22_Start (m : Nat) (c_0 : Uart) : Option (State) := b_ref22_Start m (fun x0 => some x0) c_0
theorem ref22_Start_fun (m : Nat) (c_0 : Uart) : funK Try.prog Ψ0 keep m 1 12 [(dS of_Uart cells_Uart of_Uart_ok).e c_0] = (ref22_Start m c_0).map w_ref22_Start := by
  rw [ref22_Start_pre]
  exact b_ref22_Start_map m c_0
noncomputable def K_ref22_Start (m : Nat) : KnownF C := mkK (dCons (dS of_Uart cells_Uart of_Uart_ok) dNil) (fun a => ref22_Start m a.1) w_ref22_Start
theorem K_ref22_Start_ok (m : Nat) : KnownAt C Try.prog 12 fun l => (K_ref22_Start m).run _ l some :=
  mkK_known good fit Ψ0_ok (keep := keep) (m := m) (d := 1) fun a => ref22_Start_fun m a.1
/-! ### signalbench/signalbenchref01.size -/
def w_ref01_size (b : Int) : List (RV C) := [(dInt .u64).e b]
noncomputable def b_ref01_size {R : Type} (m : Nat) (ret : Int → Option R) (n_0 : Int) : Option R :=
 bif decide (n_0 < 0) then
 ret (IntKind.u64.wrap (IntKind.u64.wrap (IntKind.i64.wrap (0 - IntKind.i64.wrap (n_0 + 1))) + 1))
 else
 ret (IntKind.u64.wrap n_0)
theorem ref01_size_pre (m : Nat) (n_0 : Int) : funK Try.prog Ψ0 keep m 1 59 [(dInt .i64).e n_0] = b_ref01_size m (fun x0 => some (w_ref01_size x0)) n_0 := by kernel_rfl
theorem b_ref01_size_map (m : Nat) (n_0 : Int) : b_ref01_size m (fun x0 => some (w_ref01_size x0)) n_0 = (b_ref01_size m (fun x0 => some x0) n_0).map w_ref01_size := by
  simp only [b_ref01_size, cond_map, bind_map, map_none, map_some]
noncomputable def ref01_size (m : Nat) (n_0 : Int) : Option (Int) := b_ref01_size m (fun x0 => some x0) n_0
theorem ref01_size_fun (m : Nat) (n_0 : Int) : funK Try.prog Ψ0 keep m 1 59 [(dInt .i64).e n_0] = (ref01_size m n_0).map w_ref01_size := by
  rw [ref01_size_pre]
  exact b_ref01_size_map m n_0
noncomputable def K_ref01_size (m : Nat) : KnownF C := mkK (dCons (dInt .i64) dNil) (fun a => ref01_size m a.1) w_ref01_size
theorem K_ref01_size_ok (m : Nat) : KnownAt C Try.prog 59 fun l => (K_ref01_size m).run _ l some :=
  mkK_known good fit Ψ0_ok (keep := keep) (m := m) (d := 1) fun a => ref01_size_fun m a.1
/-! ### signalbench/signalbenchref01.gcd -/
def w_ref01_gcd (b : Int) : List (RV C) := [(dInt .u64).e b]
noncomputable def Ψ_ref01_gcd (m : Nat) (F : Int → Int → Option (Int)) : Known C := fun f => match f with
  | 58 => some (mkK (dCons (dInt .u64) (dCons (dInt .u64) dNil)) (fun a => F a.1 a.2.1) w_ref01_gcd)
  | _ => none
theorem Ψ_ref01_gcd_ok (m : Nat) (F : Int → Int → Option (Int)) (hF : KnownAt C Try.prog 58 fun l => (mkK (dCons (dInt .u64) (dCons (dInt .u64) dNil)) (fun a => F a.1 a.2.1) w_ref01_gcd).run _ l some) : KnownOk C Try.prog (Ψ_ref01_gcd m F) := by
  intro f φ h
  unfold Ψ_ref01_gcd at h
  split at h
  · injection h with h; subst h; exact hF
  · cases h
noncomputable def b_ref01_gcd {R : Type} (m : Nat) (F : Int → Int → Option (Int)) (ret : Int → Option R) (a_0 : Int) (b_1 : Int) : Option R :=
 bif b_1 == 0 then
 ret a_0
 else
 bif decide (b_1 = 0) then
 none
 else
 (F b_1 (a_0.tmod b_1)).bind fun r0 =>
 ret r0
theorem ref01_gcd_pre (m : Nat) (F : Int → Int → Option (Int)) (a_0 : Int) (b_1 : Int) : funK Try.prog (Ψ_ref01_gcd m F) keep m 1 58 [(dInt .u64).e a_0, (dInt .u64).e b_1] = b_ref01_gcd m F (fun x0 => some (w_ref01_gcd x0)) a_0 b_1 := by kernel_rfl
theorem b_ref01_gcd_map (m : Nat) (F : Int → Int → Option (Int)) (a_0 : Int) (b_1 : Int) : b_ref01_gcd m F (fun x0 => some (w_ref01_gcd x0)) a_0 b_1 = (b_ref01_gcd m F (fun x0 => some x0) a_0 b_1).map w_ref01_gcd := by
  simp only [b_ref01_gcd, cond_map, bind_map, map_none, map_some]
noncomputable def ref01_gcd_at (m : Nat) : Nat → Int → Int → Option (Int)
  | 0, _, _ => none
  | n + 1, a_0, b_1 => b_ref01_gcd m (fun a_0 b_1 => ref01_gcd_at m n a_0 b_1) (fun x0 => some x0) a_0 b_1
theorem ref01_gcd_known (m : Nat) : ∀ n, KnownAt C Try.prog 58 fun l => (mkK (dCons (dInt .u64) (dCons (dInt .u64) dNil)) (fun a => ref01_gcd_at m n a.1 a.2.1) w_ref01_gcd).run _ l some
  | 0 => mkK_none
  | n + 1 => mkK_known good fit (Ψ_ref01_gcd_ok m (fun a_0 b_1 => ref01_gcd_at m n a_0 b_1) (ref01_gcd_known m n)) (keep := keep) (m := m) (d := 1) fun a => by
    refine Eq.trans (ref01_gcd_pre m (fun a_0 b_1 => ref01_gcd_at m n a_0 b_1) a.1 a.2.1) ?_
    exact b_ref01_gcd_map m (fun a_0 b_1 => ref01_gcd_at m n a_0 b_1) a.1 a.2.1
noncomputable def ref01_gcd (m : Nat) (a_0 : Int) (b_1 : Int) : Option (Int) := ref01_gcd_at m m a_0 b_1
noncomputable def K_ref01_gcd (m : Nat) : KnownF C := mkK (dCons (dInt .u64) (dCons (dInt .u64) dNil)) (fun a => ref01_gcd m a.1 a.2.1) w_ref01_gcd
theorem K_ref01_gcd_ok (m : Nat) : KnownAt C Try.prog 58 fun l => (K_ref01_gcd m).run _ l some := ref01_gcd_known m m
/-! ### signalbench/signalbenchref01.Valid -/
noncomputable def Ψ_ref01_Valid (m : Nat) : Known C := fun f => match f with
  | 59 => some (K_ref01_size m)
  | 58 => some (K_ref01_gcd m)
  | _ => none
theorem Ψ_ref01_Valid_ok (m : Nat) : KnownOk C Try.prog (Ψ_ref01_Valid m) := by
  intro f φ h
  unfold Ψ_ref01_Valid at h
  split at h
  · injection h with h; subst h; exact K_ref01_size_ok m
  · injection h with h; subst h; exact K_ref01_gcd_ok m
  · cases h
def w_ref01_Valid (b : Bool) : List (RV C) := [dBool.e b]
noncomputable def b_ref01_Valid {R : Type} (m : Nat) (ret : Bool → Option R) (r_0 : Ratio) : Option R :=
 bif decide (r_0.Den < 1) then
 ret false
 else
 bif decide (r_0.Den > 1073741824) then
 ret false
 else
 bif decide (r_0.Num < -1073741824) then
 ret false
 else
 bif decide (r_0.Num > 1073741824) then
 ret false
 else
 (ref01_size m r_0.Num).bind fun r0 =>
 (ref01_size m r_0.Den).bind fun r1 =>
 (ref01_gcd m r0 r1).bind fun r2 =>
 ret (r2 == 1)
theorem ref01_Valid_pre (m : Nat) (r_0 : Ratio) : funK Try.prog (Ψ_ref01_Valid m) keep m 1 40 [(dS of_Ratio cells_Ratio of_Ratio_ok).e r_0] = b_ref01_Valid m (fun x0 => some (w_ref01_Valid x0)) r_0 := by kernel_rfl
theorem b_ref01_Valid_map (m : Nat) (r_0 : Ratio) : b_ref01_Valid m (fun x0 => some (w_ref01_Valid x0)) r_0 = (b_ref01_Valid m (fun x0 => some x0) r_0).map w_ref01_Valid := by
  simp only [b_ref01_Valid, cond_map, bind_map, map_none, map_some]
noncomputable def ref01_Valid (m : Nat) (r_0 : Ratio) : Option (Bool) := b_ref01_Valid m (fun x0 => some x0) r_0
theorem ref01_Valid_fun (m : Nat) (r_0 : Ratio) : funK Try.prog (Ψ_ref01_Valid m) keep m 1 40 [(dS of_Ratio cells_Ratio of_Ratio_ok).e r_0] = (ref01_Valid m r_0).map w_ref01_Valid := by
  rw [ref01_Valid_pre]
  exact b_ref01_Valid_map m r_0
noncomputable def K_ref01_Valid (m : Nat) : KnownF C := mkK (dCons (dS of_Ratio cells_Ratio of_Ratio_ok) dNil) (fun a => ref01_Valid m a.1) w_ref01_Valid
theorem K_ref01_Valid_ok (m : Nat) : KnownAt C Try.prog 40 fun l => (K_ref01_Valid m).run _ l some :=
  mkK_known good fit (Ψ_ref01_Valid_ok m) (keep := keep) (m := m) (d := 1) fun a => ref01_Valid_fun m a.1
/-! ### signalbench/signalbenchref22.Check -/
noncomputable def Ψ_ref22_Check (m : Nat) : Known C := fun f => match f with
  | 40 => some (K_ref01_Valid m)
  | _ => none
theorem Ψ_ref22_Check_ok (m : Nat) : KnownOk C Try.prog (Ψ_ref22_Check m) := by
  intro f φ h
  unfold Ψ_ref22_Check at h
  split at h
  · injection h with h; subst h; exact K_ref01_Valid_ok m
  · cases h
def w_ref22_Check (b : Int) : List (RV C) := [(dInt .i64).e b]
noncomputable def b_ref22_Check {R : Type} (m : Nat) (ret : Int → Option R) (c_0 : Uart) : Option R :=
 (ref01_Valid m (Ratio.mk c_0.T_Num c_0.T_Den)).bind fun r0 =>
 bif !r0 then
 ret 1
 else
 bif decide (c_0.T_Num < IntKind.i64.wrap (4 * c_0.T_Den)) then
 ret 2
 else
 bif decide (c_0.T_Num > IntKind.i64.wrap (1048576 * c_0.T_Den)) then
 ret 2
 else
 bif decide (c_0.Bits < 5) then
 ret 2
 else
 bif decide (c_0.Bits > 9) then
 ret 2
 else
 bif decide (c_0.Parity < 0) then
 ret 2
 else
 bif decide (c_0.Parity > 2) then
 ret 2
 else
 bif decide (c_0.Stop < 1) then
 ret 2
 else
 bif decide (c_0.Stop > 2) then
 ret 2
 else
 ret 0
theorem ref22_Check_pre (m : Nat) (c_0 : Uart) : funK Try.prog (Ψ_ref22_Check m) keep m 1 17 [(dS of_Uart cells_Uart of_Uart_ok).e c_0] = b_ref22_Check m (fun x0 => some (w_ref22_Check x0)) c_0 := by kernel_rfl
theorem b_ref22_Check_map (m : Nat) (c_0 : Uart) : b_ref22_Check m (fun x0 => some (w_ref22_Check x0)) c_0 = (b_ref22_Check m (fun x0 => some x0) c_0).map w_ref22_Check := by
  simp only [b_ref22_Check, cond_map, bind_map, map_none, map_some]
noncomputable def ref22_Check (m : Nat) (c_0 : Uart) : Option (Int) := b_ref22_Check m (fun x0 => some x0) c_0
theorem ref22_Check_fun (m : Nat) (c_0 : Uart) : funK Try.prog (Ψ_ref22_Check m) keep m 1 17 [(dS of_Uart cells_Uart of_Uart_ok).e c_0] = (ref22_Check m c_0).map w_ref22_Check := by
  rw [ref22_Check_pre]
  exact b_ref22_Check_map m c_0
noncomputable def K_ref22_Check (m : Nat) : KnownF C := mkK (dCons (dS of_Uart cells_Uart of_Uart_ok) dNil) (fun a => ref22_Check m a.1) w_ref22_Check
theorem K_ref22_Check_ok (m : Nat) : KnownAt C Try.prog 17 fun l => (K_ref22_Check m).run _ l some :=
  mkK_known good fit (Ψ_ref22_Check_ok m) (keep := keep) (m := m) (d := 1) fun a => ref22_Check_fun m a.1
/-! ### signalbench/signalbenchref07.Valid -/
def w_ref07_Valid (b : Bool) : List (RV C) := [dBool.e b]
noncomputable def b_ref07_Valid {R : Type} (m : Nat) (ret : Bool → Option R) (e_0 : Event) : Option R :=
 bif decide (e_0.Kind < 1) then
 ret false
 else
 bif decide (e_0.Kind > 8) then
 ret false
 else
 bif decide (e_0.From < 0) then
 ret false
 else
 bif decide (e_0.From > e_0.To) then
 ret false
 else
 bif decide (e_0.To > 1099511627776) then
 ret false
 else
 bif decide ((e_0.Data.size : Int) > 4096) then
 ret false
 else
 bif decide (e_0.Fault < 0) then
 ret false
 else
 bif decide (e_0.Fault > 12) then
 ret false
 else
 bif decide (e_0.Value ≥ -9007199254740992) then
 bif decide (e_0.Value ≤ 9007199254740992) then
 bif decide (e_0.Aux ≥ -9007199254740992) then
 ret (decide (e_0.Aux ≤ 9007199254740992))
 else
 ret false
 else
 ret false
 else
 ret false
theorem ref07_Valid_pre (m : Nat) (e_0 : Event) : funK Try.prog Ψ0 keep m 1 51 [(dS of_Event cells_Event of_Event_ok).e e_0] = b_ref07_Valid m (fun x0 => some (w_ref07_Valid x0)) e_0 := by kernel_rfl
theorem b_ref07_Valid_map (m : Nat) (e_0 : Event) : b_ref07_Valid m (fun x0 => some (w_ref07_Valid x0)) e_0 = (b_ref07_Valid m (fun x0 => some x0) e_0).map w_ref07_Valid := by
  simp only [b_ref07_Valid, cond_map, bind_map, map_none, map_some]
noncomputable def ref07_Valid (m : Nat) (e_0 : Event) : Option (Bool) := b_ref07_Valid m (fun x0 => some x0) e_0
theorem ref07_Valid_fun (m : Nat) (e_0 : Event) : funK Try.prog Ψ0 keep m 1 51 [(dS of_Event cells_Event of_Event_ok).e e_0] = (ref07_Valid m e_0).map w_ref07_Valid := by
  rw [ref07_Valid_pre]
  exact b_ref07_Valid_map m e_0
noncomputable def K_ref07_Valid (m : Nat) : KnownF C := mkK (dCons (dS of_Event cells_Event of_Event_ok) dNil) (fun a => ref07_Valid m a.1) w_ref07_Valid
theorem K_ref07_Valid_ok (m : Nat) : KnownAt C Try.prog 51 fun l => (K_ref07_Valid m).run _ l some :=
  mkK_known good fit Ψ0_ok (keep := keep) (m := m) (d := 1) fun a => ref07_Valid_fun m a.1
/-! ### signalbench/signalbenchref22.accepts -/
noncomputable def Ψ_ref22_accepts (m : Nat) : Known C := fun f => match f with
  | 51 => some (K_ref07_Valid m)
  | _ => none
theorem Ψ_ref22_accepts_ok (m : Nat) : KnownOk C Try.prog (Ψ_ref22_accepts m) := by
  intro f φ h
  unfold Ψ_ref22_accepts at h
  split at h
  · injection h with h; subst h; exact K_ref07_Valid_ok m
  · cases h
def w_ref22_accepts (b : Bool) : List (RV C) := [dBool.e b]
noncomputable def b_ref22_accepts {R : Type} (m : Nat) (ret : Bool → Option R) (s_0 : State) (e_1 : Event) : Option R :=
 (ref07_Valid m e_1).bind fun r0 =>
 bif !r0 then
 ret false
 else
 bif e_1.Kind != 1 then
 ret false
 else
 bif e_1.Fault != 0 then
 ret false
 else
 bif decide (e_1.From ≥ e_1.To) then
 ret false
 else
 bif decide (e_1.Value < 0) then
 ret false
 else
 bif decide (e_1.Value > 1) then
 ret false
 else
 bif s_0.Phase == 0 then
 ret true
 else
 ret (e_1.From == s_0.At)
theorem ref22_accepts_pre (m : Nat) (s_0 : State) (e_1 : Event) : funK Try.prog (Ψ_ref22_accepts m) keep m 1 34 [(dS of_State cells_State of_State_ok).e s_0, (dS of_Event cells_Event of_Event_ok).e e_1] = b_ref22_accepts m (fun x0 => some (w_ref22_accepts x0)) s_0 e_1 := by kernel_rfl
theorem b_ref22_accepts_map (m : Nat) (s_0 : State) (e_1 : Event) : b_ref22_accepts m (fun x0 => some (w_ref22_accepts x0)) s_0 e_1 = (b_ref22_accepts m (fun x0 => some x0) s_0 e_1).map w_ref22_accepts := by
  simp only [b_ref22_accepts, cond_map, bind_map, map_none, map_some]
noncomputable def ref22_accepts (m : Nat) (s_0 : State) (e_1 : Event) : Option (Bool) := b_ref22_accepts m (fun x0 => some x0) s_0 e_1
theorem ref22_accepts_fun (m : Nat) (s_0 : State) (e_1 : Event) : funK Try.prog (Ψ_ref22_accepts m) keep m 1 34 [(dS of_State cells_State of_State_ok).e s_0, (dS of_Event cells_Event of_Event_ok).e e_1] = (ref22_accepts m s_0 e_1).map w_ref22_accepts := by
  rw [ref22_accepts_pre]
  exact b_ref22_accepts_map m s_0 e_1
noncomputable def K_ref22_accepts (m : Nat) : KnownF C := mkK (dCons (dS of_State cells_State of_State_ok) (dCons (dS of_Event cells_Event of_Event_ok) dNil)) (fun a => ref22_accepts m a.1 a.2.1) w_ref22_accepts
theorem K_ref22_accepts_ok (m : Nat) : KnownAt C Try.prog 34 fun l => (K_ref22_accepts m).run _ l some :=
  mkK_known good fit (Ψ_ref22_accepts_ok m) (keep := keep) (m := m) (d := 1) fun a => ref22_accepts_fun m a.1 a.2.1
/-! ### signalbench/signalbenchref22.total -/
def w_ref22_total (b : Int) : List (RV C) := [(dInt .i64).e b]
noncomputable def b_ref22_total {R : Type} (m : Nat) (ret : Int → Option R) (c_0 : Uart) : Option R :=
 bif c_0.Parity == 0 then
 ret (IntKind.i64.wrap (IntKind.i64.wrap (1 + c_0.Bits) + c_0.Stop))
 else
 ret (IntKind.i64.wrap (IntKind.i64.wrap (2 + c_0.Bits) + c_0.Stop))
theorem ref22_total_pre (m : Nat) (c_0 : Uart) : funK Try.prog Ψ0 keep m 1 35 [(dS of_Uart cells_Uart of_Uart_ok).e c_0] = b_ref22_total m (fun x0 => some (w_ref22_total x0)) c_0 := by kernel_rfl
theorem b_ref22_total_map (m : Nat) (c_0 : Uart) : b_ref22_total m (fun x0 => some (w_ref22_total x0)) c_0 = (b_ref22_total m (fun x0 => some x0) c_0).map w_ref22_total := by
  simp only [b_ref22_total, cond_map, bind_map, map_none, map_some]
noncomputable def ref22_total (m : Nat) (c_0 : Uart) : Option (Int) := b_ref22_total m (fun x0 => some x0) c_0
theorem ref22_total_fun (m : Nat) (c_0 : Uart) : funK Try.prog Ψ0 keep m 1 35 [(dS of_Uart cells_Uart of_Uart_ok).e c_0] = (ref22_total m c_0).map w_ref22_total := by
  rw [ref22_total_pre]
  exact b_ref22_total_map m c_0
noncomputable def K_ref22_total (m : Nat) : KnownF C := mkK (dCons (dS of_Uart cells_Uart of_Uart_ok) dNil) (fun a => ref22_total m a.1) w_ref22_total
theorem K_ref22_total_ok (m : Nat) : KnownAt C Try.prog 35 fun l => (K_ref22_total m).run _ l some :=
  mkK_known good fit Ψ0_ok (keep := keep) (m := m) (d := 1) fun a => ref22_total_fun m a.1
/-! ### signalbench/signalbenchref22.sample -/
def w_ref22_sample (b : Int) : List (RV C) := [(dInt .i64).e b]
noncomputable def b_ref22_sample {R : Type} (m : Nat) (ret : Int → Option R) (c_0 : Uart) (k_1 : Int) : Option R :=
 bif decide (IntKind.i64.wrap (2 * c_0.T_Den) = 0) then
 none
 else
 ret (IntKind.i64.wrap ((IntKind.i64.wrap (IntKind.i64.wrap (IntKind.i64.wrap (2 * k_1) + 1) * c_0.T_Num)).tdiv (IntKind.i64.wrap (2 * c_0.T_Den))))
theorem ref22_sample_pre (m : Nat) (c_0 : Uart) (k_1 : Int) : funK Try.prog Ψ0 keep m 1 36 [(dS of_Uart cells_Uart of_Uart_ok).e c_0, (dInt .i64).e k_1] = b_ref22_sample m (fun x0 => some (w_ref22_sample x0)) c_0 k_1 := by kernel_rfl
theorem b_ref22_sample_map (m : Nat) (c_0 : Uart) (k_1 : Int) : b_ref22_sample m (fun x0 => some (w_ref22_sample x0)) c_0 k_1 = (b_ref22_sample m (fun x0 => some x0) c_0 k_1).map w_ref22_sample := by
  simp only [b_ref22_sample, cond_map, bind_map, map_none, map_some]
noncomputable def ref22_sample (m : Nat) (c_0 : Uart) (k_1 : Int) : Option (Int) := b_ref22_sample m (fun x0 => some x0) c_0 k_1
theorem ref22_sample_fun (m : Nat) (c_0 : Uart) (k_1 : Int) : funK Try.prog Ψ0 keep m 1 36 [(dS of_Uart cells_Uart of_Uart_ok).e c_0, (dInt .i64).e k_1] = (ref22_sample m c_0 k_1).map w_ref22_sample := by
  rw [ref22_sample_pre]
  exact b_ref22_sample_map m c_0 k_1
noncomputable def K_ref22_sample (m : Nat) : KnownF C := mkK (dCons (dS of_Uart cells_Uart of_Uart_ok) (dCons (dInt .i64) dNil)) (fun a => ref22_sample m a.1 a.2.1) w_ref22_sample
theorem K_ref22_sample_ok (m : Nat) : KnownAt C Try.prog 36 fun l => (K_ref22_sample m).run _ l some :=
  mkK_known good fit Ψ0_ok (keep := keep) (m := m) (d := 1) fun a => ref22_sample_fun m a.1 a.2.1
/-! ### signalbench/signalbenchref22.boundary -/
def w_ref22_boundary (b : Int) : List (RV C) := [(dInt .i64).e b]
noncomputable def b_ref22_boundary {R : Type} (m : Nat) (ret : Int → Option R) (c_0 : Uart) (k_1 : Int) : Option R :=
 bif decide (c_0.T_Den = 0) then
 none
 else
 ret (IntKind.i64.wrap ((IntKind.i64.wrap (k_1 * c_0.T_Num)).tdiv c_0.T_Den))
theorem ref22_boundary_pre (m : Nat) (c_0 : Uart) (k_1 : Int) : funK Try.prog Ψ0 keep m 1 47 [(dS of_Uart cells_Uart of_Uart_ok).e c_0, (dInt .i64).e k_1] = b_ref22_boundary m (fun x0 => some (w_ref22_boundary x0)) c_0 k_1 := by kernel_rfl
theorem b_ref22_boundary_map (m : Nat) (c_0 : Uart) (k_1 : Int) : b_ref22_boundary m (fun x0 => some (w_ref22_boundary x0)) c_0 k_1 = (b_ref22_boundary m (fun x0 => some x0) c_0 k_1).map w_ref22_boundary := by
  simp only [b_ref22_boundary, cond_map, bind_map, map_none, map_some]
noncomputable def ref22_boundary (m : Nat) (c_0 : Uart) (k_1 : Int) : Option (Int) := b_ref22_boundary m (fun x0 => some x0) c_0 k_1
theorem ref22_boundary_fun (m : Nat) (c_0 : Uart) (k_1 : Int) : funK Try.prog Ψ0 keep m 1 47 [(dS of_Uart cells_Uart of_Uart_ok).e c_0, (dInt .i64).e k_1] = (ref22_boundary m c_0 k_1).map w_ref22_boundary := by
  rw [ref22_boundary_pre]
  exact b_ref22_boundary_map m c_0 k_1
noncomputable def K_ref22_boundary (m : Nat) : KnownF C := mkK (dCons (dS of_Uart cells_Uart of_Uart_ok) (dCons (dInt .i64) dNil)) (fun a => ref22_boundary m a.1 a.2.1) w_ref22_boundary
theorem K_ref22_boundary_ok (m : Nat) : KnownAt C Try.prog 47 fun l => (K_ref22_boundary m).run _ l some :=
  mkK_known good fit Ψ0_ok (keep := keep) (m := m) (d := 1) fun a => ref22_boundary_fun m a.1 a.2.1
/-! ### signalbench/signalbenchref22.ones -/
def w_ref22_ones (b : Int) : List (RV C) := [(dInt .i64).e b]
noncomputable def Ψ_ref22_ones (m : Nat) (F : Int → Option (Int)) : Known C := fun f => match f with
  | 54 => some (mkK (dCons (dInt .i64) dNil) (fun a => F a.1) w_ref22_ones)
  | _ => none
theorem Ψ_ref22_ones_ok (m : Nat) (F : Int → Option (Int)) (hF : KnownAt C Try.prog 54 fun l => (mkK (dCons (dInt .i64) dNil) (fun a => F a.1) w_ref22_ones).run _ l some) : KnownOk C Try.prog (Ψ_ref22_ones m F) := by
  intro f φ h
  unfold Ψ_ref22_ones at h
  split at h
  · injection h with h; subst h; exact hF
  · cases h
noncomputable def b_ref22_ones {R : Type} (m : Nat) (F : Int → Option (Int)) (ret : Int → Option R) (n_0 : Int) : Option R :=
 bif n_0 == 0 then
 ret 0
 else
 (F (IntKind.i64.wrap (n_0.tdiv 2))).bind fun r0 =>
 ret (IntKind.i64.wrap (n_0.tmod 2 + r0))
theorem ref22_ones_pre (m : Nat) (F : Int → Option (Int)) (n_0 : Int) : funK Try.prog (Ψ_ref22_ones m F) keep m 1 54 [(dInt .i64).e n_0] = b_ref22_ones m F (fun x0 => some (w_ref22_ones x0)) n_0 := by kernel_rfl
theorem b_ref22_ones_map (m : Nat) (F : Int → Option (Int)) (n_0 : Int) : b_ref22_ones m F (fun x0 => some (w_ref22_ones x0)) n_0 = (b_ref22_ones m F (fun x0 => some x0) n_0).map w_ref22_ones := by
  simp only [b_ref22_ones, cond_map, bind_map, map_none, map_some]
noncomputable def ref22_ones_at (m : Nat) : Nat → Int → Option (Int)
  | 0, _ => none
  | n + 1, n_0 => b_ref22_ones m (fun n_0 => ref22_ones_at m n n_0) (fun x0 => some x0) n_0
theorem ref22_ones_known (m : Nat) : ∀ n, KnownAt C Try.prog 54 fun l => (mkK (dCons (dInt .i64) dNil) (fun a => ref22_ones_at m n a.1) w_ref22_ones).run _ l some
  | 0 => mkK_none
  | n + 1 => mkK_known good fit (Ψ_ref22_ones_ok m (fun n_0 => ref22_ones_at m n n_0) (ref22_ones_known m n)) (keep := keep) (m := m) (d := 1) fun a => by
    refine Eq.trans (ref22_ones_pre m (fun n_0 => ref22_ones_at m n n_0) a.1) ?_
    exact b_ref22_ones_map m (fun n_0 => ref22_ones_at m n n_0) a.1
noncomputable def ref22_ones (m : Nat) (n_0 : Int) : Option (Int) := ref22_ones_at m m n_0
noncomputable def K_ref22_ones (m : Nat) : KnownF C := mkK (dCons (dInt .i64) dNil) (fun a => ref22_ones m a.1) w_ref22_ones
theorem K_ref22_ones_ok (m : Nat) : KnownAt C Try.prog 54 fun l => (K_ref22_ones m).run _ l some := ref22_ones_known m m
end Go.Abs.K
