/- Plain functions for the functions of the seat, printed by a program of this claim's own, with their proofs. -/
import Derived.Test.YtjfndepkgahkiaaDoorH1
set_option linter.unusedVariables false
set_option linter.unusedSimpArgs false
set_option maxRecDepth 100000
namespace Go.Abs.K
open Go Go.Abs Go.Proofs
/-! ### signalbench/ratio.size -/
def w_ratio_size (b : Int) : List (RV C) := [(dInt .u64).e b]
noncomputable def b_ratio_size {R : Type} (m : Nat) (ret : Int → Option R) (n_0 : Int) : Option R :=
 bif decide (n_0 < 0) then
 ret (IntKind.u64.wrap (IntKind.u64.wrap (IntKind.i64.wrap (0 - IntKind.i64.wrap (n_0 + 1))) + 1))
 else
 ret (IntKind.u64.wrap n_0)
theorem ratio_size_pre (m : Nat) (n_0 : Int) : funK Tryd.prog Ψ0 keep m 1 40 [(dInt .i64).e n_0] = b_ratio_size m (fun x0 => some (w_ratio_size x0)) n_0 := by kernel_rfl
theorem b_ratio_size_map (m : Nat) (n_0 : Int) : b_ratio_size m (fun x0 => some (w_ratio_size x0)) n_0 = (b_ratio_size m (fun x0 => some x0) n_0).map w_ratio_size := by
  simp only [b_ratio_size, cond_map, bind_map, map_none, map_some]
noncomputable def ratio_size (m : Nat) (n_0 : Int) : Option (Int) := b_ratio_size m (fun x0 => some x0) n_0
theorem ratio_size_fun (m : Nat) (n_0 : Int) : funK Tryd.prog Ψ0 keep m 1 40 [(dInt .i64).e n_0] = (ratio_size m n_0).map w_ratio_size := by
  rw [ratio_size_pre]
  exact b_ratio_size_map m n_0
noncomputable def K_ratio_size (m : Nat) : KnownF C := mkK (dCons (dInt .i64) dNil) (fun a => ratio_size m a.1) w_ratio_size
theorem K_ratio_size_ok (m : Nat) : KnownAt C Tryd.prog 40 fun l => (K_ratio_size m).run _ l some :=
  mkK_known good fit Ψ0_ok (keep := keep) (m := m) (d := 1) fun a => ratio_size_fun m a.1
/-! ### signalbench/ratio.common -/
def w_ratio_common (b : Int) : List (RV C) := [(dInt .u64).e b]
noncomputable def Q_ratio_common_1 (m : Nat) : St C → (Exit → St C → Option (List (RV C))) → Option (List (RV C)) := fun σ k => codeK Tryd.prog Ψ0 (callK Tryd.prog Ψ0 keep m 0) (keep 39) m (subC body39 [.r, .l, .b, .o]) σ k
noncomputable def KL_ratio_common_1 (m : Nat) : Exit → St C → Option (List (RV C)) := contK Tryd.prog Ψ0 (callK Tryd.prog Ψ0 keep m 0) (keep 39) m body39 [.r, .l, .b, .o] (leaveK Tryd.prog Tryd.f39.results.toList (finK Tryd.prog Tryd.f39.resultTypes.toList))
noncomputable def L_ratio_common_l1 (m n : Nat) (a_0 : Int) (b_1 : Int) : Option (List (RV C)) := iterK (Q_ratio_common_1 m) (St.norm (keep 39 1)) n ({ T := [.fl (.one (.int .u64 a_0)), .fl (.one (.int .u64 b_1))] ++ List.replicate 10 .dead, F := [[]], H := [] } : St C) (KL_ratio_common_1 m)
noncomputable def b_ratio_common_l1 {R : Type} (m : Nat) (ret : Int → Option R) (k_l1 : Int → Int → Option R) (a_0 : Int) (b_1 : Int) : Option R :=
 bif b_1 != 0 then
 bif decide (b_1 = 0) then
 none
 else
 k_l1 b_1 (a_0.tmod b_1)
 else
 ret a_0
theorem L_ratio_common_l1_step (m n : Nat) (a_0 : Int) (b_1 : Int) : L_ratio_common_l1 m (n + 1) a_0 b_1 = b_ratio_common_l1 m (fun x0 => some (w_ratio_common x0)) (fun a_0 b_1 => L_ratio_common_l1 m n a_0 b_1) a_0 b_1 := by kernel_rfl
theorem b_ratio_common_l1_map (m : Nat) {k_l1 : Int → Int → Option (List (RV C))} {q_l1 : Int → Int → Option (Int)} (h_l1 : ∀ a_0 b_1, k_l1 a_0 b_1 = (q_l1 a_0 b_1).map w_ratio_common) (a_0 : Int) (b_1 : Int) : b_ratio_common_l1 m (fun x0 => some (w_ratio_common x0)) k_l1 a_0 b_1 = (b_ratio_common_l1 m (fun x0 => some x0) q_l1 a_0 b_1).map w_ratio_common := by
  simp only [b_ratio_common_l1, cond_map, bind_map, map_none, map_some, h_l1]
noncomputable def ratio_common_l1 (m : Nat) : Nat → Int → Int → Option (Int)
  | 0, _, _ => none
  | n + 1, a_0, b_1 => b_ratio_common_l1 m (fun x0 => some x0) (fun a_0 b_1 => ratio_common_l1 m n a_0 b_1) a_0 b_1
theorem L_ratio_common_l1_eq (m : Nat) : ∀ (n : Nat) (a_0 : Int) (b_1 : Int), L_ratio_common_l1 m n a_0 b_1 = (ratio_common_l1 m n a_0 b_1).map w_ratio_common
  | 0, a_0, b_1 => by kernel_rfl
  | n + 1, a_0, b_1 => by
    rw [L_ratio_common_l1_step]
    exact b_ratio_common_l1_map m (fun a_0 b_1 => L_ratio_common_l1_eq m n a_0 b_1) a_0 b_1
noncomputable def b_ratio_common {R : Type} (m : Nat) (ret : Int → Option R) (k_l1 : Int → Int → Option R) (a_0 : Int) (b_1 : Int) : Option R :=
 k_l1 a_0 b_1
theorem ratio_common_pre (m : Nat) (a_0 : Int) (b_1 : Int) : funK Tryd.prog Ψ0 keep m 1 39 [(dInt .u64).e a_0, (dInt .u64).e b_1] = b_ratio_common m (fun x0 => some (w_ratio_common x0)) (fun a_0 b_1 => L_ratio_common_l1 m m a_0 b_1) a_0 b_1 := by kernel_rfl
theorem b_ratio_common_map (m : Nat) {k_l1 : Int → Int → Option (List (RV C))} {q_l1 : Int → Int → Option (Int)} (h_l1 : ∀ a_0 b_1, k_l1 a_0 b_1 = (q_l1 a_0 b_1).map w_ratio_common) (a_0 : Int) (b_1 : Int) : b_ratio_common m (fun x0 => some (w_ratio_common x0)) k_l1 a_0 b_1 = (b_ratio_common m (fun x0 => some x0) q_l1 a_0 b_1).map w_ratio_common := by
  simp only [b_ratio_common, cond_map, bind_map, map_none, map_some, h_l1]
noncomputable def ratio_common (m : Nat) (a_0 : Int) (b_1 : Int) : Option (Int) := b_ratio_common m (fun x0 => some x0) (fun a_0 b_1 => ratio_common_l1 m m a_0 b_1) a_0 b_1
theorem ratio_common_fun (m : Nat) (a_0 : Int) (b_1 : Int) : funK Tryd.prog Ψ0 keep m 1 39 [(dInt .u64).e a_0, (dInt .u64).e b_1] = (ratio_common m a_0 b_1).map w_ratio_common := by
  rw [ratio_common_pre]
  exact b_ratio_common_map m (fun a_0 b_1 => L_ratio_common_l1_eq m m a_0 b_1) a_0 b_1
noncomputable def K_ratio_common (m : Nat) : KnownF C := mkK (dCons (dInt .u64) (dCons (dInt .u64) dNil)) (fun a => ratio_common m a.1 a.2.1) w_ratio_common
theorem K_ratio_common_ok (m : Nat) : KnownAt C Tryd.prog 39 fun l => (K_ratio_common m).run _ l some :=
  mkK_known good fit Ψ0_ok (keep := keep) (m := m) (d := 1) fun a => ratio_common_fun m a.1 a.2.1
/-! ### signalbench/ratio.Valid -/
noncomputable def Ψ_ratio_Valid (m : Nat) : Known C := fun f => match f with
  | 40 => some (K_ratio_size m)
  | 39 => some (K_ratio_common m)
  | _ => none
theorem Ψ_ratio_Valid_ok (m : Nat) : KnownOk C Tryd.prog (Ψ_ratio_Valid m) := by
  intro f φ h
  unfold Ψ_ratio_Valid at h
  split at h
  · injection h with h; subst h; exact K_ratio_size_ok m
  · injection h with h; subst h; exact K_ratio_common_ok m
  · cases h
def w_ratio_Valid (b : Bool) : List (RV C) := [dBool.e b]
noncomputable def b_ratio_Valid {R : Type} (m : Nat) (ret : Bool → Option R) (r_0 : Ratio) : Option R :=
 bif decide (r_0.Den < 1) then
 ret false
 else
 bif decide (r_0.Den > 1073741824) then
 ret false
 else
 bif decide (r_0.Num < -1073741824) then
 ret false
 else
 bif decide (r_0.Num > 1073741824) then
 ret false
 else
 (ratio_size m r_0.Num).bind fun r0 =>
 (ratio_size m r_0.Den).bind fun r1 =>
 (ratio_common m r0 r1).bind fun r2 =>
 ret (r2 == 1)
theorem ratio_Valid_pre (m : Nat) (r_0 : Ratio) : funK Tryd.prog (Ψ_ratio_Valid m) keep m 1 12 [(dS of_Ratio cells_Ratio of_Ratio_ok).e r_0] = b_ratio_Valid m (fun x0 => some (w_ratio_Valid x0)) r_0 := by kernel_rfl
theorem b_ratio_Valid_map (m : Nat) (r_0 : Ratio) : b_ratio_Valid m (fun x0 => some (w_ratio_Valid x0)) r_0 = (b_ratio_Valid m (fun x0 => some x0) r_0).map w_ratio_Valid := by
  simp only [b_ratio_Valid, cond_map, bind_map, map_none, map_some]
noncomputable def ratio_Valid (m : Nat) (r_0 : Ratio) : Option (Bool) := b_ratio_Valid m (fun x0 => some x0) r_0
theorem ratio_Valid_fun (m : Nat) (r_0 : Ratio) : funK Tryd.prog (Ψ_ratio_Valid m) keep m 1 12 [(dS of_Ratio cells_Ratio of_Ratio_ok).e r_0] = (ratio_Valid m r_0).map w_ratio_Valid := by
  rw [ratio_Valid_pre]
  exact b_ratio_Valid_map m r_0
noncomputable def K_ratio_Valid (m : Nat) : KnownF C := mkK (dCons (dS of_Ratio cells_Ratio of_Ratio_ok) dNil) (fun a => ratio_Valid m a.1) w_ratio_Valid
theorem K_ratio_Valid_ok (m : Nat) : KnownAt C Tryd.prog 12 fun l => (K_ratio_Valid m).run _ l some :=
  mkK_known good fit (Ψ_ratio_Valid_ok m) (keep := keep) (m := m) (d := 1) fun a => ratio_Valid_fun m a.1
/-! ### signalbench/signalbenchref01.size -/
def w_ref01_size (b : Int) : List (RV C) := [(dInt .u64).e b]
noncomputable def b_ref01_size {R : Type} (m : Nat) (ret : Int → Option R) (n_0 : Int) : Option R :=
 bif decide (n_0 < 0) then
 ret (IntKind.u64.wrap (IntKind.u64.wrap (IntKind.i64.wrap (0 - IntKind.i64.wrap (n_0 + 1))) + 1))
 else
 ret (IntKind.u64.wrap n_0)
theorem ref01_size_pre (m : Nat) (n_0 : Int) : funK Tryd.prog Ψ0 keep m 1 42 [(dInt .i64).e n_0] = b_ref01_size m (fun x0 => some (w_ref01_size x0)) n_0 := by kernel_rfl
theorem b_ref01_size_map (m : Nat) (n_0 : Int) : b_ref01_size m (fun x0 => some (w_ref01_size x0)) n_0 = (b_ref01_size m (fun x0 => some x0) n_0).map w_ref01_size := by
  simp only [b_ref01_size, cond_map, bind_map, map_none, map_some]
noncomputable def ref01_size (m : Nat) (n_0 : Int) : Option (Int) := b_ref01_size m (fun x0 => some x0) n_0
theorem ref01_size_fun (m : Nat) (n_0 : Int) : funK Tryd.prog Ψ0 keep m 1 42 [(dInt .i64).e n_0] = (ref01_size m n_0).map w_ref01_size := by
  rw [ref01_size_pre]
  exact b_ref01_size_map m n_0
noncomputable def K_ref01_size (m : Nat) : KnownF C := mkK (dCons (dInt .i64) dNil) (fun a => ref01_size m a.1) w_ref01_size
theorem K_ref01_size_ok (m : Nat) : KnownAt C Tryd.prog 42 fun l => (K_ref01_size m).run _ l some :=
  mkK_known good fit Ψ0_ok (keep := keep) (m := m) (d := 1) fun a => ref01_size_fun m a.1
/-! ### signalbench/signalbenchref01.gcd -/
def w_ref01_gcd (b : Int) : List (RV C) := [(dInt .u64).e b]
noncomputable def Ψ_ref01_gcd (m : Nat) (F : Int → Int → Option (Int)) : Known C := fun f => match f with
  | 41 => some (mkK (dCons (dInt .u64) (dCons (dInt .u64) dNil)) (fun a => F a.1 a.2.1) w_ref01_gcd)
  | _ => none
theorem Ψ_ref01_gcd_ok (m : Nat) (F : Int → Int → Option (Int)) (hF : KnownAt C Tryd.prog 41 fun l => (mkK (dCons (dInt .u64) (dCons (dInt .u64) dNil)) (fun a => F a.1 a.2.1) w_ref01_gcd).run _ l some) : KnownOk C Tryd.prog (Ψ_ref01_gcd m F) := by
  intro f φ h
  unfold Ψ_ref01_gcd at h
  split at h
  · injection h with h; subst h; exact hF
  · cases h
noncomputable def b_ref01_gcd {R : Type} (m : Nat) (F : Int → Int → Option (Int)) (ret : Int → Option R) (a_0 : Int) (b_1 : Int) : Option R :=
 bif b_1 == 0 then
 ret a_0
 else
 bif decide (b_1 = 0) then
 none
 else
 (F b_1 (a_0.tmod b_1)).bind fun r0 =>
 ret r0
theorem ref01_gcd_pre (m : Nat) (F : Int → Int → Option (Int)) (a_0 : Int) (b_1 : Int) : funK Tryd.prog (Ψ_ref01_gcd m F) keep m 1 41 [(dInt .u64).e a_0, (dInt .u64).e b_1] = b_ref01_gcd m F (fun x0 => some (w_ref01_gcd x0)) a_0 b_1 := by kernel_rfl
theorem b_ref01_gcd_map (m : Nat) (F : Int → Int → Option (Int)) (a_0 : Int) (b_1 : Int) : b_ref01_gcd m F (fun x0 => some (w_ref01_gcd x0)) a_0 b_1 = (b_ref01_gcd m F (fun x0 => some x0) a_0 b_1).map w_ref01_gcd := by
  simp only [b_ref01_gcd, cond_map, bind_map, map_none, map_some]
noncomputable def ref01_gcd_at (m : Nat) : Nat → Int → Int → Option (Int)
  | 0, _, _ => none
  | n + 1, a_0, b_1 => b_ref01_gcd m (fun a_0 b_1 => ref01_gcd_at m n a_0 b_1) (fun x0 => some x0) a_0 b_1
theorem ref01_gcd_known (m : Nat) : ∀ n, KnownAt C Tryd.prog 41 fun l => (mkK (dCons (dInt .u64) (dCons (dInt .u64) dNil)) (fun a => ref01_gcd_at m n a.1 a.2.1) w_ref01_gcd).run _ l some
  | 0 => mkK_none
  | n + 1 => mkK_known good fit (Ψ_ref01_gcd_ok m (fun a_0 b_1 => ref01_gcd_at m n a_0 b_1) (ref01_gcd_known m n)) (keep := keep) (m := m) (d := 1) fun a => by
    refine Eq.trans (ref01_gcd_pre m (fun a_0 b_1 => ref01_gcd_at m n a_0 b_1) a.1 a.2.1) ?_
    exact b_ref01_gcd_map m (fun a_0 b_1 => ref01_gcd_at m n a_0 b_1) a.1 a.2.1
noncomputable def ref01_gcd (m : Nat) (a_0 : Int) (b_1 : Int) : Option (Int) := ref01_gcd_at m m a_0 b_1
noncomputable def K_ref01_gcd (m : Nat) : KnownF C := mkK (dCons (dInt .u64) (dCons (dInt .u64) dNil)) (fun a => ref01_gcd m a.1 a.2.1) w_ref01_gcd
theorem K_ref01_gcd_ok (m : Nat) : KnownAt C Tryd.prog 41 fun l => (K_ref01_gcd m).run _ l some := ref01_gcd_known m m
/-! ### signalbench/signalbenchref01.Valid -/
noncomputable def Ψ_ref01_Valid (m : Nat) : Known C := fun f => match f with
  | 42 => some (K_ref01_size m)
  | 41 => some (K_ref01_gcd m)
  | _ => none
theorem Ψ_ref01_Valid_ok (m : Nat) : KnownOk C Tryd.prog (Ψ_ref01_Valid m) := by
  intro f φ h
  unfold Ψ_ref01_Valid at h
  split at h
  · injection h with h; subst h; exact K_ref01_size_ok m
  · injection h with h; subst h; exact K_ref01_gcd_ok m
  · cases h
def w_ref01_Valid (b : Bool) : List (RV C) := [dBool.e b]
noncomputable def b_ref01_Valid {R : Type} (m : Nat) (ret : Bool → Option R) (r_0 : Ratio) : Option R :=
 bif decide (r_0.Den < 1) then
 ret false
 else
 bif decide (r_0.Den > 1073741824) then
 ret false
 else
 bif decide (r_0.Num < -1073741824) then
 ret false
 else
 bif decide (r_0.Num > 1073741824) then
 ret false
 else
 (ref01_size m r_0.Num).bind fun r0 =>
 (ref01_size m r_0.Den).bind fun r1 =>
 (ref01_gcd m r0 r1).bind fun r2 =>
 ret (r2 == 1)
theorem ref01_Valid_pre (m : Nat) (r_0 : Ratio) : funK Tryd.prog (Ψ_ref01_Valid m) keep m 1 13 [(dS of_Ratio cells_Ratio of_Ratio_ok).e r_0] = b_ref01_Valid m (fun x0 => some (w_ref01_Valid x0)) r_0 := by kernel_rfl
theorem b_ref01_Valid_map (m : Nat) (r_0 : Ratio) : b_ref01_Valid m (fun x0 => some (w_ref01_Valid x0)) r_0 = (b_ref01_Valid m (fun x0 => some x0) r_0).map w_ref01_Valid := by
  simp only [b_ref01_Valid, cond_map, bind_map, map_none, map_some]
noncomputable def ref01_Valid (m : Nat) (r_0 : Ratio) : Option (Bool) := b_ref01_Valid m (fun x0 => some x0) r_0
theorem ref01_Valid_fun (m : Nat) (r_0 : Ratio) : funK Tryd.prog (Ψ_ref01_Valid m) keep m 1 13 [(dS of_Ratio cells_Ratio of_Ratio_ok).e r_0] = (ref01_Valid m r_0).map w_ref01_Valid := by
  rw [ref01_Valid_pre]
  exact b_ref01_Valid_map m r_0
noncomputable def K_ref01_Valid (m : Nat) : KnownF C := mkK (dCons (dS of_Ratio cells_Ratio of_Ratio_ok) dNil) (fun a => ref01_Valid m a.1) w_ref01_Valid
theorem K_ref01_Valid_ok (m : Nat) : KnownAt C Tryd.prog 13 fun l => (K_ref01_Valid m).run _ l some :=
  mkK_known good fit (Ψ_ref01_Valid_ok m) (keep := keep) (m := m) (d := 1) fun a => ref01_Valid_fun m a.1
/-! ### signalbench/ratio.Text -/
noncomputable def Ψ_ratio_Text (m : Nat) : Known C := fun f => match f with
  | 12 => some (K_ratio_Valid m)
  | 43 => some (K_strconv_Itoa m)
  | _ => none
theorem Ψ_ratio_Text_ok (m : Nat) : KnownOk C Tryd.prog (Ψ_ratio_Text m) := by
  intro f φ h
  unfold Ψ_ratio_Text at h
  split at h
  · injection h with h; subst h; exact K_ratio_Valid_ok m
  · injection h with h; subst h; exact K_strconv_Itoa_ok m
  · cases h
def w_ratio_Text (b : ByteArray) : List (RV C) := [dStr.e b]
noncomputable def b_ratio_Text {R : Type} (m : Nat) (ret : ByteArray → Option R) (r_0 : Ratio) : Option R :=
 (ratio_Valid m r_0).bind fun r0 =>
 bif !r0 then
 ret (bs [])
 else
 (strconv_Itoa m r_0.Num).bind fun r1 =>
 bif r_0.Den != 1 then
 ((strconv_Itoa m r_0.Den).bind fun r2 =>
 bif decide (((1 + r2.size) : Int) > 9223372036854775807) then
 none
 else
 bif decide (((r1.size + (bs [47] ++ r2).size) : Int) > 9223372036854775807) then
 none
 else
 ret (r1 ++ (bs [47] ++ r2)))
 else
 ret r1
theorem ratio_Text_pre (m : Nat) (r_0 : Ratio) : funK Tryd.prog (Ψ_ratio_Text m) keep m 1 14 [(dS of_Ratio cells_Ratio of_Ratio_ok).e r_0] = b_ratio_Text m (fun x0 => some (w_ratio_Text x0)) r_0 := by kernel_rfl
theorem b_ratio_Text_map (m : Nat) (r_0 : Ratio) : b_ratio_Text m (fun x0 => some (w_ratio_Text x0)) r_0 = (b_ratio_Text m (fun x0 => some x0) r_0).map w_ratio_Text := by
  simp only [b_ratio_Text, cond_map, bind_map, map_none, map_some]
noncomputable def ratio_Text (m : Nat) (r_0 : Ratio) : Option (ByteArray) := b_ratio_Text m (fun x0 => some x0) r_0
theorem ratio_Text_fun (m : Nat) (r_0 : Ratio) : funK Tryd.prog (Ψ_ratio_Text m) keep m 1 14 [(dS of_Ratio cells_Ratio of_Ratio_ok).e r_0] = (ratio_Text m r_0).map w_ratio_Text := by
  rw [ratio_Text_pre]
  exact b_ratio_Text_map m r_0
noncomputable def K_ratio_Text (m : Nat) : KnownF C := mkK (dCons (dS of_Ratio cells_Ratio of_Ratio_ok) dNil) (fun a => ratio_Text m a.1) w_ratio_Text
theorem K_ratio_Text_ok (m : Nat) : KnownAt C Tryd.prog 14 fun l => (K_ratio_Text m).run _ l some :=
  mkK_known good fit (Ψ_ratio_Text_ok m) (keep := keep) (m := m) (d := 1) fun a => ratio_Text_fun m a.1
/-! ### signalbench/signalbenchref01.digits -/
def w_ref01_digits (b : ByteArray) : List (RV C) := [dStr.e b]
noncomputable def Ψ_ref01_digits (m : Nat) (F : Int → Option (ByteArray)) : Known C := fun f => match f with
  | 44 => some (mkK (dCons (dInt .i64) dNil) (fun a => F a.1) w_ref01_digits)
  | _ => none
theorem Ψ_ref01_digits_ok (m : Nat) (F : Int → Option (ByteArray)) (hF : KnownAt C Tryd.prog 44 fun l => (mkK (dCons (dInt .i64) dNil) (fun a => F a.1) w_ref01_digits).run _ l some) : KnownOk C Tryd.prog (Ψ_ref01_digits m F) := by
  intro f φ h
  unfold Ψ_ref01_digits at h
  split at h
  · injection h with h; subst h; exact hF
  · cases h
noncomputable def b_ref01_digits {R : Type} (m : Nat) (F : Int → Option (ByteArray)) (ret : ByteArray → Option R) (n_0 : Int) : Option R :=
 bif decide (n_0 < 10) then
 bif decide (0 ≤ IntKind.i64.wrap (n_0 + 1)) then
 bif decide (IntKind.i64.wrap (n_0 + 1) ≤ 10) then
 bif decide (0 ≤ n_0) then
 bif decide (n_0 ≤ IntKind.i64.wrap (n_0 + 1)) then
 ret ((bs [48, 49, 50, 51, 52, 53, 54, 55, 56, 57]).extract n_0.toNat (IntKind.i64.wrap (n_0 + 1)).toNat)
 else
 none
 else
 none
 else
 none
 else
 none
 else
 (F (IntKind.i64.wrap (n_0.tdiv 10))).bind fun r0 =>
 bif decide (0 ≤ IntKind.i64.wrap (n_0.tmod 10 + 1)) then
 bif decide (IntKind.i64.wrap (n_0.tmod 10 + 1) ≤ 10) then
 bif decide (0 ≤ n_0.tmod 10) then
 bif decide (n_0.tmod 10 ≤ IntKind.i64.wrap (n_0.tmod 10 + 1)) then
 bif decide (((r0.size + ((bs [48, 49, 50, 51, 52, 53, 54, 55, 56, 57]).extract (n_0.tmod 10).toNat (IntKind.i64.wrap (n_0.tmod 10 + 1)).toNat).size) : Int) > 9223372036854775807) then
 none
 else
 ret (r0 ++ (bs [48, 49, 50, 51, 52, 53, 54, 55, 56, 57]).extract (n_0.tmod 10).toNat (IntKind.i64.wrap (n_0.tmod 10 + 1)).toNat)
 else
 none
 else
 none
 else
 none
 else
 none
theorem ref01_digits_pre (m : Nat) (F : Int → Option (ByteArray)) (n_0 : Int) : funK Tryd.prog (Ψ_ref01_digits m F) keep m 1 44 [(dInt .i64).e n_0] = b_ref01_digits m F (fun x0 => some (w_ref01_digits x0)) n_0 := by kernel_rfl
theorem b_ref01_digits_map (m : Nat) (F : Int → Option (ByteArray)) (n_0 : Int) : b_ref01_digits m F (fun x0 => some (w_ref01_digits x0)) n_0 = (b_ref01_digits m F (fun x0 => some x0) n_0).map w_ref01_digits := by
  simp only [b_ref01_digits, cond_map, bind_map, map_none, map_some]
noncomputable def ref01_digits_at (m : Nat) : Nat → Int → Option (ByteArray)
  | 0, _ => none
  | n + 1, n_0 => b_ref01_digits m (fun n_0 => ref01_digits_at m n n_0) (fun x0 => some x0) n_0
theorem ref01_digits_known (m : Nat) : ∀ n, KnownAt C Tryd.prog 44 fun l => (mkK (dCons (dInt .i64) dNil) (fun a => ref01_digits_at m n a.1) w_ref01_digits).run _ l some
  | 0 => mkK_none
  | n + 1 => mkK_known good fit (Ψ_ref01_digits_ok m (fun n_0 => ref01_digits_at m n n_0) (ref01_digits_known m n)) (keep := keep) (m := m) (d := 1) fun a => by
    refine Eq.trans (ref01_digits_pre m (fun n_0 => ref01_digits_at m n n_0) a.1) ?_
    exact b_ref01_digits_map m (fun n_0 => ref01_digits_at m n n_0) a.1
noncomputable def ref01_digits (m : Nat) (n_0 : Int) : Option (ByteArray) := ref01_digits_at m m n_0
noncomputable def K_ref01_digits (m : Nat) : KnownF C := mkK (dCons (dInt .i64) dNil) (fun a => ref01_digits m a.1) w_ref01_digits
theorem K_ref01_digits_ok (m : Nat) : KnownAt C Tryd.prog 44 fun l => (K_ref01_digits m).run _ l some := ref01_digits_known m m
/-! ### signalbench/signalbenchref01.Text -/
noncomputable def Ψ_ref01_Text (m : Nat) : Known C := fun f => match f with
  | 13 => some (K_ref01_Valid m)
  | 42 => some (K_ref01_size m)
  | 44 => some (K_ref01_digits m)
  | _ => none
theorem Ψ_ref01_Text_ok (m : Nat) : KnownOk C Tryd.prog (Ψ_ref01_Text m) := by
  intro f φ h
  unfold Ψ_ref01_Text at h
  split at h
  · injection h with h; subst h; exact K_ref01_Valid_ok m
  · injection h with h; subst h; exact K_ref01_size_ok m
  · injection h with h; subst h; exact K_ref01_digits_ok m
  · cases h
def w_ref01_Text (b : ByteArray) : List (RV C) := [dStr.e b]
noncomputable def b_ref01_Text {R : Type} (m : Nat) (ret : ByteArray → Option R) (r_0 : Ratio) : Option R :=
 (ref01_Valid m r_0).bind fun r0 =>
 bif !r0 then
 ret (bs [])
 else
 (ref01_size m r_0.Num).bind fun r1 =>
 (ref01_digits m (IntKind.i64.wrap r1)).bind fun r2 =>
 bif decide (r_0.Num < 0) then
 (bif decide (((1 + r2.size) : Int) > 9223372036854775807) then
 none
 else
 bif r_0.Den != 1 then
 (bif decide ((((bs [45] ++ r2).size + 1) : Int) > 9223372036854775807) then
 none
 else
 (ref01_digits m r_0.Den).bind fun r3 =>
 bif decide ((((bs [45] ++ r2 ++ bs [47]).size + r3.size) : Int) > 9223372036854775807) then
 none
 else
 ret (bs [45] ++ r2 ++ bs [47] ++ r3))
 else
 ret (bs [45] ++ r2))
 else
 bif r_0.Den != 1 then
 (bif decide (((r2.size + 1) : Int) > 9223372036854775807) then
 none
 else
 (ref01_digits m r_0.Den).bind fun r4 =>
 bif decide ((((r2 ++ bs [47]).size + r4.size) : Int) > 9223372036854775807) then
 none
 else
 ret (r2 ++ bs [47] ++ r4))
 else
 ret r2
theorem ref01_Text_pre (m : Nat) (r_0 : Ratio) : funK Tryd.prog (Ψ_ref01_Text m) keep m 1 15 [(dS of_Ratio cells_Ratio of_Ratio_ok).e r_0] = b_ref01_Text m (fun x0 => some (w_ref01_Text x0)) r_0 := by kernel_rfl
theorem b_ref01_Text_map (m : Nat) (r_0 : Ratio) : b_ref01_Text m (fun x0 => some (w_ref01_Text x0)) r_0 = (b_ref01_Text m (fun x0 => some x0) r_0).map w_ref01_Text := by
  simp only [b_ref01_Text, cond_map, bind_map, map_none, map_some]
noncomputable def ref01_Text (m : Nat) (r_0 : Ratio) : Option (ByteArray) := b_ref01_Text m (fun x0 => some x0) r_0
theorem ref01_Text_fun (m : Nat) (r_0 : Ratio) : funK Tryd.prog (Ψ_ref01_Text m) keep m 1 15 [(dS of_Ratio cells_Ratio of_Ratio_ok).e r_0] = (ref01_Text m r_0).map w_ref01_Text := by
  rw [ref01_Text_pre]
  exact b_ref01_Text_map m r_0
noncomputable def K_ref01_Text (m : Nat) : KnownF C := mkK (dCons (dS of_Ratio cells_Ratio of_Ratio_ok) dNil) (fun a => ref01_Text m a.1) w_ref01_Text
theorem K_ref01_Text_ok (m : Nat) : KnownAt C Tryd.prog 15 fun l => (K_ref01_Text m).run _ l some :=
  mkK_known good fit (Ψ_ref01_Text_ok m) (keep := keep) (m := m) (d := 1) fun a => ref01_Text_fun m a.1
/-! ### signalbench/ratio.zero -/
def w_ratio_zero (b : Ratio) : List (RV C) := [(dS of_Ratio cells_Ratio of_Ratio_ok).e b]
noncomputable def b_ratio_zero {R : Type} (m : Nat) (ret : Ratio → Option R) : Option R :=
 ret (Ratio.mk 0 1)
theorem ratio_zero_pre (m : Nat) : funK Tryd.prog Ψ0 keep m 1 45 [] = b_ratio_zero m (fun x0 => some (w_ratio_zero x0)) := by kernel_rfl
theorem b_ratio_zero_map (m : Nat) : b_ratio_zero m (fun x0 => some (w_ratio_zero x0)) = (b_ratio_zero m (fun x0 => some x0)).map w_ratio_zero := by
  simp only [b_ratio_zero, cond_map, bind_map, map_none, map_some]
noncomputable def ratio_zero (m : Nat) : Option (Ratio) := b_ratio_zero m (fun x0 => some x0)
theorem ratio_zero_fun (m : Nat) : funK Tryd.prog Ψ0 keep m 1 45 [] = (ratio_zero m).map w_ratio_zero := by
  rw [ratio_zero_pre]
  exact b_ratio_zero_map m
noncomputable def K_ratio_zero (m : Nat) : KnownF C := mkK dNil (fun a => ratio_zero m) w_ratio_zero
theorem K_ratio_zero_ok (m : Nat) : KnownAt C Tryd.prog 45 fun l => (K_ratio_zero m).run _ l some :=
  mkK_known good fit Ψ0_ok (keep := keep) (m := m) (d := 1) fun a => ratio_zero_fun m
/-! ### signalbench/ratio.Make -/
noncomputable def Ψ_ratio_Make (m : Nat) : Known C := fun f => match f with
  | 45 => some (K_ratio_zero m)
  | 40 => some (K_ratio_size m)
  | 39 => some (K_ratio_common m)
  | _ => none
theorem Ψ_ratio_Make_ok (m : Nat) : KnownOk C Tryd.prog (Ψ_ratio_Make m) := by
  intro f φ h
  unfold Ψ_ratio_Make at h
  split at h
  · injection h with h; subst h; exact K_ratio_zero_ok m
  · injection h with h; subst h; exact K_ratio_size_ok m
  · injection h with h; subst h; exact K_ratio_common_ok m
  · cases h
def w_ratio_Make (b : Ratio × Int) : List (RV C) := [(dS of_Ratio cells_Ratio of_Ratio_ok).e b.1, (dInt .i64).e b.2]
noncomputable def b_ratio_Make {R : Type} (m : Nat) (ret : Ratio → Int → Option R) (num_0 : Int) (den_1 : Int) : Option R :=
 bif den_1 == 0 then
 ret (Ratio.mk 0 0) 1
 else
 bif num_0 == 0 then
 ret (Ratio.mk 0 1) 0
 else
 (ratio_size m num_0).bind fun r0 =>
 (ratio_size m den_1).bind fun r1 =>
 (ratio_common m r0 r1).bind fun r2 =>
 bif decide (r2 = 0) then
 none
 else
 bif decide (r2 = 0) then
 none
 else
 bif decide (IntKind.u64.wrap (r0.tdiv r2) > 1073741824) then
 ret (Ratio.mk 0 0) 3
 else
 bif decide (IntKind.u64.wrap (r1.tdiv r2) > 1073741824) then
 ret (Ratio.mk 0 0) 3
 else
 bif !decide (num_0 < 0) == decide (den_1 < 0) then
 ret (Ratio.mk (IntKind.i64.wrap (0 - IntKind.i64.wrap (IntKind.u64.wrap (r0.tdiv r2)))) (IntKind.i64.wrap (IntKind.u64.wrap (r1.tdiv r2)))) 0
 else
 ret (Ratio.mk (IntKind.i64.wrap (IntKind.u64.wrap (r0.tdiv r2))) (IntKind.i64.wrap (IntKind.u64.wrap (r1.tdiv r2)))) 0
theorem ratio_Make_pre (m : Nat) (num_0 : Int) (den_1 : Int) : funK Tryd.prog (Ψ_ratio_Make m) keep m 1 17 [(dInt .i64).e num_0, (dInt .i64).e den_1] = b_ratio_Make m (fun x0 x1 => some (w_ratio_Make (x0, x1))) num_0 den_1 := by kernel_rfl
theorem b_ratio_Make_map (m : Nat) (num_0 : Int) (den_1 : Int) : b_ratio_Make m (fun x0 x1 => some (w_ratio_Make (x0, x1))) num_0 den_1 = (b_ratio_Make m (fun x0 x1 => some (x0, x1)) num_0 den_1).map w_ratio_Make := by
  simp only [b_ratio_Make, cond_map, bind_map, map_none, map_some]
noncomputable def ratio_Make (m : Nat) (num_0 : Int) (den_1 : Int) : Option (Ratio × Int) := b_ratio_Make m (fun x0 x1 => some (x0, x1)) num_0 den_1
theorem ratio_Make_fun (m : Nat) (num_0 : Int) (den_1 : Int) : funK Tryd.prog (Ψ_ratio_Make m) keep m 1 17 [(dInt .i64).e num_0, (dInt .i64).e den_1] = (ratio_Make m num_0 den_1).map w_ratio_Make := by
  rw [ratio_Make_pre]
  exact b_ratio_Make_map m num_0 den_1
noncomputable def K_ratio_Make (m : Nat) : KnownF C := mkK (dCons (dInt .i64) (dCons (dInt .i64) dNil)) (fun a => ratio_Make m a.1 a.2.1) w_ratio_Make
theorem K_ratio_Make_ok (m : Nat) : KnownAt C Tryd.prog 17 fun l => (K_ratio_Make m).run _ l some :=
  mkK_known good fit (Ψ_ratio_Make_ok m) (keep := keep) (m := m) (d := 1) fun a => ratio_Make_fun m a.1 a.2.1
/-! ### signalbench/ratio.floor -/
def w_ratio_floor (b : Int) : List (RV C) := [(dInt .i64).e b]
noncomputable def b_ratio_floor {R : Type} (m : Nat) (ret : Int → Option R) (a_0 : Int) (b_1 : Int) : Option R :=
 bif decide (b_1 = 0) then
 none
 else
 bif decide (b_1 = 0) then
 none
 else
 bif decide (a_0.tmod b_1 < 0) then
 ret (IntKind.i64.wrap (IntKind.i64.wrap (a_0.tdiv b_1) - 1))
 else
 ret (IntKind.i64.wrap (a_0.tdiv b_1))
theorem ratio_floor_pre (m : Nat) (a_0 : Int) (b_1 : Int) : funK Tryd.prog Ψ0 keep m 1 46 [(dInt .i64).e a_0, (dInt .i64).e b_1] = b_ratio_floor m (fun x0 => some (w_ratio_floor x0)) a_0 b_1 := by kernel_rfl
theorem b_ratio_floor_map (m : Nat) (a_0 : Int) (b_1 : Int) : b_ratio_floor m (fun x0 => some (w_ratio_floor x0)) a_0 b_1 = (b_ratio_floor m (fun x0 => some x0) a_0 b_1).map w_ratio_floor := by
  simp only [b_ratio_floor, cond_map, bind_map, map_none, map_some]
noncomputable def ratio_floor (m : Nat) (a_0 : Int) (b_1 : Int) : Option (Int) := b_ratio_floor m (fun x0 => some x0) a_0 b_1
theorem ratio_floor_fun (m : Nat) (a_0 : Int) (b_1 : Int) : funK Tryd.prog Ψ0 keep m 1 46 [(dInt .i64).e a_0, (dInt .i64).e b_1] = (ratio_floor m a_0 b_1).map w_ratio_floor := by
  rw [ratio_floor_pre]
  exact b_ratio_floor_map m a_0 b_1
noncomputable def K_ratio_floor (m : Nat) : KnownF C := mkK (dCons (dInt .i64) (dCons (dInt .i64) dNil)) (fun a => ratio_floor m a.1 a.2.1) w_ratio_floor
theorem K_ratio_floor_ok (m : Nat) : KnownAt C Tryd.prog 46 fun l => (K_ratio_floor m).run _ l some :=
  mkK_known good fit Ψ0_ok (keep := keep) (m := m) (d := 1) fun a => ratio_floor_fun m a.1 a.2.1
/-! ### signalbench/ratio.Scale -/
noncomputable def Ψ_ratio_Scale (m : Nat) : Known C := fun f => match f with
  | 12 => some (K_ratio_Valid m)
  | 46 => some (K_ratio_floor m)
  | _ => none
theorem Ψ_ratio_Scale_ok (m : Nat) : KnownOk C Tryd.prog (Ψ_ratio_Scale m) := by
  intro f φ h
  unfold Ψ_ratio_Scale at h
  split at h
  · injection h with h; subst h; exact K_ratio_Valid_ok m
  · injection h with h; subst h; exact K_ratio_floor_ok m
  · cases h
def w_ratio_Scale (b : Int × Int) : List (RV C) := [(dInt .i64).e b.1, (dInt .i64).e b.2]
noncomputable def b_ratio_Scale {R : Type} (m : Nat) (ret : Int → Int → Option R) (r_0 : Ratio) (n_1 : Int) : Option R :=
 (ratio_Valid m r_0).bind fun r0 =>
 bif !r0 then
 ret 0 1
 else
 bif decide (n_1 < -4294967296) then
 ret 0 3
 else
 bif decide (n_1 > 4294967296) then
 ret 0 3
 else
 (ratio_floor m (IntKind.i64.wrap (r_0.Num * n_1)) r_0.Den).bind fun r1 =>
 ret r1 0
theorem ratio_Scale_pre (m : Nat) (r_0 : Ratio) (n_1 : Int) : funK Tryd.prog (Ψ_ratio_Scale m) keep m 1 19 [(dS of_Ratio cells_Ratio of_Ratio_ok).e r_0, (dInt .i64).e n_1] = b_ratio_Scale m (fun x0 x1 => some (w_ratio_Scale (x0, x1))) r_0 n_1 := by kernel_rfl
theorem b_ratio_Scale_map (m : Nat) (r_0 : Ratio) (n_1 : Int) : b_ratio_Scale m (fun x0 x1 => some (w_ratio_Scale (x0, x1))) r_0 n_1 = (b_ratio_Scale m (fun x0 x1 => some (x0, x1)) r_0 n_1).map w_ratio_Scale := by
  simp only [b_ratio_Scale, cond_map, bind_map, map_none, map_some]
noncomputable def ratio_Scale (m : Nat) (r_0 : Ratio) (n_1 : Int) : Option (Int × Int) := b_ratio_Scale m (fun x0 x1 => some (x0, x1)) r_0 n_1
theorem ratio_Scale_fun (m : Nat) (r_0 : Ratio) (n_1 : Int) : funK Tryd.prog (Ψ_ratio_Scale m) keep m 1 19 [(dS of_Ratio cells_Ratio of_Ratio_ok).e r_0, (dInt .i64).e n_1] = (ratio_Scale m r_0 n_1).map w_ratio_Scale := by
  rw [ratio_Scale_pre]
  exact b_ratio_Scale_map m r_0 n_1
noncomputable def K_ratio_Scale (m : Nat) : KnownF C := mkK (dCons (dS of_Ratio cells_Ratio of_Ratio_ok) (dCons (dInt .i64) dNil)) (fun a => ratio_Scale m a.1 a.2.1) w_ratio_Scale
theorem K_ratio_Scale_ok (m : Nat) : KnownAt C Tryd.prog 19 fun l => (K_ratio_Scale m).run _ l some :=
  mkK_known good fit (Ψ_ratio_Scale_ok m) (keep := keep) (m := m) (d := 1) fun a => ratio_Scale_fun m a.1 a.2.1
/-! ### signalbench/ratio.digits -/
def w_ratio_digits (b : Int × ByteArray × Bool) : List (RV C) := [(dInt .i64).e b.1, dStr.e b.2.1, dBool.e b.2.2]
noncomputable def Q_ratio_digits_2 (m : Nat) : St C → (Exit → St C → Option (List (RV C))) → Option (List (RV C)) := fun σ k => codeK Tryd.prog Ψ0 (callK Tryd.prog Ψ0 keep m 0) (keep 49) m (subC body49 [.r, .r, .l, .b, .o]) σ k
noncomputable def KL_ratio_digits_2 (m : Nat) : Exit → St C → Option (List (RV C)) := contK Tryd.prog Ψ0 (callK Tryd.prog Ψ0 keep m 0) (keep 49) m body49 [.r, .r, .l, .b, .o] (leaveK Tryd.prog Tryd.f49.results.toList (finK Tryd.prog Tryd.f49.resultTypes.toList))
noncomputable def L_ratio_digits_l2 (m n : Nat) (s_0 : ByteArray) (n_5 : Int) (i_6 : Int) : Option (List (RV C)) := iterK (Q_ratio_digits_2 m) (St.norm (keep 49 2)) n ({ T := [.fl (.one (.str s_0)), .dead, .dead, .dead, .dead, .fl (.one (.int .i64 n_5)), .fl (.one (.int .i64 i_6))] ++ List.replicate 42 .dead, F := [[]], H := [] } : St C) (KL_ratio_digits_2 m)
noncomputable def b_ratio_digits_l2 {R : Type} (m : Nat) (ret : Int → ByteArray → Bool → Option R) (k_l2 : ByteArray → Int → Int → Option R) (s_0 : ByteArray) (n_5 : Int) (i_6 : Int) : Option R :=
 bif decide (i_6 < (s_0.size : Int)) then
 bif decide (0 ≤ i_6) then
 bif decide (i_6 < (s_0.size : Int)) then
 bif decide (48 ≤ byteAt s_0 i_6) then
 bif decide (0 ≤ i_6) then
 bif decide (i_6 < (s_0.size : Int)) then
 bif decide (byteAt s_0 i_6 ≤ 57) then
 bif decide (0 ≤ i_6) then
 bif decide (i_6 < (s_0.size : Int)) then
 k_l2 s_0 (if 1073741825 < IntKind.i64.wrap (IntKind.i64.wrap (10 * n_5) + IntKind.i64.wrap (IntKind.u8.wrap (byteAt s_0 i_6 - 48))) then 1073741825 else IntKind.i64.wrap (IntKind.i64.wrap (10 * n_5) + IntKind.i64.wrap (IntKind.u8.wrap (byteAt s_0 i_6 - 48)))) (IntKind.i64.wrap (i_6 + 1))
 else
 none
 else
 none
 else
 bif decide ((s_0.size : Int) ≤ (s_0.size : Int)) then
 bif decide (0 ≤ i_6) then
 bif decide (i_6 ≤ (s_0.size : Int)) then
 bif i_6 == 1 then
 ret n_5 (s_0.extract i_6.toNat ((s_0.size : Int)).toNat) true
 else
 bif decide (i_6 > 1) then
 bif decide (0 < (s_0.size : Int)) then
 ret n_5 (s_0.extract i_6.toNat ((s_0.size : Int)).toNat) (byteAt s_0 0 != 48)
 else
 none
 else
 ret n_5 (s_0.extract i_6.toNat ((s_0.size : Int)).toNat) false
 else
 none
 else
 none
 else
 none
 else
 none
 else
 none
 else
 bif decide ((s_0.size : Int) ≤ (s_0.size : Int)) then
 bif decide (0 ≤ i_6) then
 bif decide (i_6 ≤ (s_0.size : Int)) then
 bif i_6 == 1 then
 ret n_5 (s_0.extract i_6.toNat ((s_0.size : Int)).toNat) true
 else
 bif decide (i_6 > 1) then
 bif decide (0 < (s_0.size : Int)) then
 ret n_5 (s_0.extract i_6.toNat ((s_0.size : Int)).toNat) (byteAt s_0 0 != 48)
 else
 none
 else
 ret n_5 (s_0.extract i_6.toNat ((s_0.size : Int)).toNat) false
 else
 none
 else
 none
 else
 none
 else
 none
 else
 none
 else
 bif decide ((s_0.size : Int) ≤ (s_0.size : Int)) then
 bif decide (0 ≤ i_6) then
 bif decide (i_6 ≤ (s_0.size : Int)) then
 bif i_6 == 1 then
 ret n_5 (s_0.extract i_6.toNat ((s_0.size : Int)).toNat) true
 else
 bif decide (i_6 > 1) then
 bif decide (0 < (s_0.size : Int)) then
 ret n_5 (s_0.extract i_6.toNat ((s_0.size : Int)).toNat) (byteAt s_0 0 != 48)
 else
 none
 else
 ret n_5 (s_0.extract i_6.toNat ((s_0.size : Int)).toNat) false
 else
 none
 else
 none
 else
 none
theorem L_ratio_digits_l2_step (m n : Nat) (s_0 : ByteArray) (n_5 : Int) (i_6 : Int) : L_ratio_digits_l2 m (n + 1) s_0 n_5 i_6 = b_ratio_digits_l2 m (fun x0 x1 x2 => some (w_ratio_digits (x0, x1, x2))) (fun s_0 n_5 i_6 => L_ratio_digits_l2 m n s_0 n_5 i_6) s_0 n_5 i_6 := by kernel_rfl
theorem b_ratio_digits_l2_map (m : Nat) {k_l2 : ByteArray → Int → Int → Option (List (RV C))} {q_l2 : ByteArray → Int → Int → Option (Int × ByteArray × Bool)} (h_l2 : ∀ s_0 n_5 i_6, k_l2 s_0 n_5 i_6 = (q_l2 s_0 n_5 i_6).map w_ratio_digits) (s_0 : ByteArray) (n_5 : Int) (i_6 : Int) : b_ratio_digits_l2 m (fun x0 x1 x2 => some (w_ratio_digits (x0, x1, x2))) k_l2 s_0 n_5 i_6 = (b_ratio_digits_l2 m (fun x0 x1 x2 => some (x0, x1, x2)) q_l2 s_0 n_5 i_6).map w_ratio_digits := by
  simp only [b_ratio_digits_l2, cond_map, bind_map, map_none, map_some, h_l2]
noncomputable def ratio_digits_l2 (m : Nat) : Nat → ByteArray → Int → Int → Option (Int × ByteArray × Bool)
  | 0, _, _, _ => none
  | n + 1, s_0, n_5, i_6 => b_ratio_digits_l2 m (fun x0 x1 x2 => some (x0, x1, x2)) (fun s_0 n_5 i_6 => ratio_digits_l2 m n s_0 n_5 i_6) s_0 n_5 i_6
theorem L_ratio_digits_l2_eq (m : Nat) : ∀ (n : Nat) (s_0 : ByteArray) (n_5 : Int) (i_6 : Int), L_ratio_digits_l2 m n s_0 n_5 i_6 = (ratio_digits_l2 m n s_0 n_5 i_6).map w_ratio_digits
  | 0, s_0, n_5, i_6 => by kernel_rfl
  | n + 1, s_0, n_5, i_6 => by
    rw [L_ratio_digits_l2_step]
    exact b_ratio_digits_l2_map m (fun s_0 n_5 i_6 => L_ratio_digits_l2_eq m n s_0 n_5 i_6) s_0 n_5 i_6
noncomputable def b_ratio_digits {R : Type} (m : Nat) (ret : Int → ByteArray → Bool → Option R) (k_l2 : ByteArray → Int → Int → Option R) (s_0 : ByteArray) : Option R :=
 k_l2 s_0 0 0
theorem ratio_digits_pre (m : Nat) (s_0 : ByteArray) : funK Tryd.prog Ψ0 keep m 1 49 [dStr.e s_0] = b_ratio_digits m (fun x0 x1 x2 => some (w_ratio_digits (x0, x1, x2))) (fun s_0 n_5 i_6 => L_ratio_digits_l2 m m s_0 n_5 i_6) s_0 := by kernel_rfl
theorem b_ratio_digits_map (m : Nat) {k_l2 : ByteArray → Int → Int → Option (List (RV C))} {q_l2 : ByteArray → Int → Int → Option (Int × ByteArray × Bool)} (h_l2 : ∀ s_0 n_5 i_6, k_l2 s_0 n_5 i_6 = (q_l2 s_0 n_5 i_6).map w_ratio_digits) (s_0 : ByteArray) : b_ratio_digits m (fun x0 x1 x2 => some (w_ratio_digits (x0, x1, x2))) k_l2 s_0 = (b_ratio_digits m (fun x0 x1 x2 => some (x0, x1, x2)) q_l2 s_0).map w_ratio_digits := by
  simp only [b_ratio_digits, cond_map, bind_map, map_none, map_some, h_l2]
noncomputable def ratio_digits (m : Nat) (s_0 : ByteArray) : Option (Int × ByteArray × Bool) := b_ratio_digits m (fun x0 x1 x2 => some (x0, x1, x2)) (fun s_0 n_5 i_6 => ratio_digits_l2 m m s_0 n_5 i_6) s_0
theorem ratio_digits_fun (m : Nat) (s_0 : ByteArray) : funK Tryd.prog Ψ0 keep m 1 49 [dStr.e s_0] = (ratio_digits m s_0).map w_ratio_digits := by
  rw [ratio_digits_pre]
  exact b_ratio_digits_map m (fun s_0 n_5 i_6 => L_ratio_digits_l2_eq m m s_0 n_5 i_6) s_0
noncomputable def K_ratio_digits (m : Nat) : KnownF C := mkK (dCons dStr dNil) (fun a => ratio_digits m a.1) w_ratio_digits
theorem K_ratio_digits_ok (m : Nat) : KnownAt C Tryd.prog 49 fun l => (K_ratio_digits m).run _ l some :=
  mkK_known good fit Ψ0_ok (keep := keep) (m := m) (d := 1) fun a => ratio_digits_fun m a.1
/-! ### signalbench/ratio.Parse -/
noncomputable def Ψ_ratio_Parse (m : Nat) : Known C := fun f => match f with
  | 49 => some (K_ratio_digits m)
  | 40 => some (K_ratio_size m)
  | 39 => some (K_ratio_common m)
  | _ => none
theorem Ψ_ratio_Parse_ok (m : Nat) : KnownOk C Tryd.prog (Ψ_ratio_Parse m) := by
  intro f φ h
  unfold Ψ_ratio_Parse at h
  split at h
  · injection h with h; subst h; exact K_ratio_digits_ok m
  · injection h with h; subst h; exact K_ratio_size_ok m
  · injection h with h; subst h; exact K_ratio_common_ok m
  · cases h
def w_ratio_Parse (b : Ratio × Int) : List (RV C) := [(dS of_Ratio cells_Ratio of_Ratio_ok).e b.1, (dInt .i64).e b.2]
noncomputable def b_ratio_Parse {R : Type} (m : Nat) (ret : Ratio → Int → Option R) (s_0 : ByteArray) : Option R :=
 bif !s_0.toList == (bs []).toList then
 (bif decide (0 < (s_0.size : Int)) then
 (bif byteAt s_0 0 == 45 then
 (bif decide ((s_0.size : Int) ≤ (s_0.size : Int)) then
 (bif decide (1 ≤ (s_0.size : Int)) then
 ((ratio_digits m (s_0.extract 1 ((s_0.size : Int)).toNat)).bind fun r0 =>
 bif !r0.snd.snd then
 ret (Ratio.mk 0 0) 4
 else
 bif byteAt s_0 0 == 45 then
 (bif r0.fst == 0 then
 ret (Ratio.mk 0 0) 4
 else
 bif !r0.snd.fst.toList == (bs []).toList then
 (bif decide (0 < (r0.snd.fst.size : Int)) then
 (bif byteAt r0.snd.fst 0 != 47 then
 ret (Ratio.mk 0 0) 4
 else
 bif decide ((r0.snd.fst.size : Int) ≤ (r0.snd.fst.size : Int)) then
 (bif decide (1 ≤ (r0.snd.fst.size : Int)) then
 ((ratio_digits m (r0.snd.fst.extract 1 ((r0.snd.fst.size : Int)).toNat)).bind fun r1 =>
 bif !r1.snd.snd then
 ret (Ratio.mk 0 0) 4
 else
 bif !r1.snd.fst.toList == (bs []).toList then
 ret (Ratio.mk 0 0) 4
 else
 bif decide (r0.fst > 1073741824) then
 ret (Ratio.mk 0 0) 3
 else
 bif decide (r1.fst > 1073741824) then
 ret (Ratio.mk 0 0) 3
 else
 bif !r0.snd.fst.toList == (bs []).toList then
 (bif decide (r1.fst < 2) then
 ret (Ratio.mk 0 0) 4
 else
 (ratio_size m r0.fst).bind fun r2 =>
 (ratio_size m r1.fst).bind fun r3 =>
 (ratio_common m r2 r3).bind fun r4 =>
 bif decide (r4 > 1) then
 ret (Ratio.mk 0 0) 4
 else
 bif byteAt s_0 0 == 45 then
 ret (Ratio.mk (IntKind.i64.wrap (0 - r0.fst)) r1.fst) 0
 else
 ret (Ratio.mk r0.fst r1.fst) 0)
 else
 bif byteAt s_0 0 == 45 then
 ret (Ratio.mk (IntKind.i64.wrap (0 - r0.fst)) r1.fst) 0
 else
 ret (Ratio.mk r0.fst r1.fst) 0)
 else
 none)
 else
 none)
 else
 none)
 else
 bif decide (r0.fst > 1073741824) then
 ret (Ratio.mk 0 0) 3
 else
 bif !r0.snd.fst.toList == (bs []).toList then
 ret (Ratio.mk 0 0) 4
 else
 bif byteAt s_0 0 == 45 then
 ret (Ratio.mk (IntKind.i64.wrap (0 - r0.fst)) 1) 0
 else
 ret (Ratio.mk r0.fst 1) 0)
 else
 bif !r0.snd.fst.toList == (bs []).toList then
 (bif decide (0 < (r0.snd.fst.size : Int)) then
 (bif byteAt r0.snd.fst 0 != 47 then
 ret (Ratio.mk 0 0) 4
 else
 bif decide ((r0.snd.fst.size : Int) ≤ (r0.snd.fst.size : Int)) then
 (bif decide (1 ≤ (r0.snd.fst.size : Int)) then
 ((ratio_digits m (r0.snd.fst.extract 1 ((r0.snd.fst.size : Int)).toNat)).bind fun r5 =>
 bif !r5.snd.snd then
 ret (Ratio.mk 0 0) 4
 else
 bif !r5.snd.fst.toList == (bs []).toList then
 ret (Ratio.mk 0 0) 4
 else
 bif decide (r0.fst > 1073741824) then
 ret (Ratio.mk 0 0) 3
 else
 bif decide (r5.fst > 1073741824) then
 ret (Ratio.mk 0 0) 3
 else
 bif !r0.snd.fst.toList == (bs []).toList then
 (bif decide (r5.fst < 2) then
 ret (Ratio.mk 0 0) 4
 else
 (ratio_size m r0.fst).bind fun r6 =>
 (ratio_size m r5.fst).bind fun r7 =>
 (ratio_common m r6 r7).bind fun r8 =>
 bif decide (r8 > 1) then
 ret (Ratio.mk 0 0) 4
 else
 bif byteAt s_0 0 == 45 then
 ret (Ratio.mk (IntKind.i64.wrap (0 - r0.fst)) r5.fst) 0
 else
 ret (Ratio.mk r0.fst r5.fst) 0)
 else
 bif byteAt s_0 0 == 45 then
 ret (Ratio.mk (IntKind.i64.wrap (0 - r0.fst)) r5.fst) 0
 else
 ret (Ratio.mk r0.fst r5.fst) 0)
 else
 none)
 else
 none)
 else
 none)
 else
 bif decide (r0.fst > 1073741824) then
 ret (Ratio.mk 0 0) 3
 else
 bif !r0.snd.fst.toList == (bs []).toList then
 ret (Ratio.mk 0 0) 4
 else
 bif byteAt s_0 0 == 45 then
 ret (Ratio.mk (IntKind.i64.wrap (0 - r0.fst)) 1) 0
 else
 ret (Ratio.mk r0.fst 1) 0)
 else
 none)
 else
 none)
 else
 (ratio_digits m s_0).bind fun r9 =>
 bif !r9.snd.snd then
 ret (Ratio.mk 0 0) 4
 else
 bif byteAt s_0 0 == 45 then
 (bif r9.fst == 0 then
 ret (Ratio.mk 0 0) 4
 else
 bif !r9.snd.fst.toList == (bs []).toList then
 (bif decide (0 < (r9.snd.fst.size : Int)) then
 (bif byteAt r9.snd.fst 0 != 47 then
 ret (Ratio.mk 0 0) 4
 else
 bif decide ((r9.snd.fst.size : Int) ≤ (r9.snd.fst.size : Int)) then
 (bif decide (1 ≤ (r9.snd.fst.size : Int)) then
 ((ratio_digits m (r9.snd.fst.extract 1 ((r9.snd.fst.size : Int)).toNat)).bind fun r10 =>
 bif !r10.snd.snd then
 ret (Ratio.mk 0 0) 4
 else
 bif !r10.snd.fst.toList == (bs []).toList then
 ret (Ratio.mk 0 0) 4
 else
 bif decide (r9.fst > 1073741824) then
 ret (Ratio.mk 0 0) 3
 else
 bif decide (r10.fst > 1073741824) then
 ret (Ratio.mk 0 0) 3
 else
 bif !r9.snd.fst.toList == (bs []).toList then
 (bif decide (r10.fst < 2) then
 ret (Ratio.mk 0 0) 4
 else
 (ratio_size m r9.fst).bind fun r11 =>
 (ratio_size m r10.fst).bind fun r12 =>
 (ratio_common m r11 r12).bind fun r13 =>
 bif decide (r13 > 1) then
 ret (Ratio.mk 0 0) 4
 else
 bif byteAt s_0 0 == 45 then
 ret (Ratio.mk (IntKind.i64.wrap (0 - r9.fst)) r10.fst) 0
 else
 ret (Ratio.mk r9.fst r10.fst) 0)
 else
 bif byteAt s_0 0 == 45 then
 ret (Ratio.mk (IntKind.i64.wrap (0 - r9.fst)) r10.fst) 0
 else
 ret (Ratio.mk r9.fst r10.fst) 0)
 else
 none)
 else
 none)
 else
 none)
 else
 bif decide (r9.fst > 1073741824) then
 ret (Ratio.mk 0 0) 3
 else
 bif !r9.snd.fst.toList == (bs []).toList then
 ret (Ratio.mk 0 0) 4
 else
 bif byteAt s_0 0 == 45 then
 ret (Ratio.mk (IntKind.i64.wrap (0 - r9.fst)) 1) 0
 else
 ret (Ratio.mk r9.fst 1) 0)
 else
 bif !r9.snd.fst.toList == (bs []).toList then
 (bif decide (0 < (r9.snd.fst.size : Int)) then
 (bif byteAt r9.snd.fst 0 != 47 then
 ret (Ratio.mk 0 0) 4
 else
 bif decide ((r9.snd.fst.size : Int) ≤ (r9.snd.fst.size : Int)) then
 (bif decide (1 ≤ (r9.snd.fst.size : Int)) then
 ((ratio_digits m (r9.snd.fst.extract 1 ((r9.snd.fst.size : Int)).toNat)).bind fun r14 =>
 bif !r14.snd.snd then
 ret (Ratio.mk 0 0) 4
 else
 bif !r14.snd.fst.toList == (bs []).toList then
 ret (Ratio.mk 0 0) 4
 else
 bif decide (r9.fst > 1073741824) then
 ret (Ratio.mk 0 0) 3
 else
 bif decide (r14.fst > 1073741824) then
 ret (Ratio.mk 0 0) 3
 else
 bif !r9.snd.fst.toList == (bs []).toList then
 (bif decide (r14.fst < 2) then
 ret (Ratio.mk 0 0) 4
 else
 (ratio_size m r9.fst).bind fun r15 =>
 (ratio_size m r14.fst).bind fun r16 =>
 (ratio_common m r15 r16).bind fun r17 =>
 bif decide (r17 > 1) then
 ret (Ratio.mk 0 0) 4
 else
 bif byteAt s_0 0 == 45 then
 ret (Ratio.mk (IntKind.i64.wrap (0 - r9.fst)) r14.fst) 0
 else
 ret (Ratio.mk r9.fst r14.fst) 0)
 else
 bif byteAt s_0 0 == 45 then
 ret (Ratio.mk (IntKind.i64.wrap (0 - r9.fst)) r14.fst) 0
 else
 ret (Ratio.mk r9.fst r14.fst) 0)
 else
 none)
 else
 none)
 else
 none)
 else
 bif decide (r9.fst > 1073741824) then
 ret (Ratio.mk 0 0) 3
 else
 bif !r9.snd.fst.toList == (bs []).toList then
 ret (Ratio.mk 0 0) 4
 else
 bif byteAt s_0 0 == 45 then
 ret (Ratio.mk (IntKind.i64.wrap (0 - r9.fst)) 1) 0
 else
 ret (Ratio.mk r9.fst 1) 0)
 else
 none)
 else
 (ratio_digits m s_0).bind fun r18 =>
 bif !r18.snd.snd then
 ret (Ratio.mk 0 0) 4
 else
 bif !r18.snd.fst.toList == (bs []).toList then
 (bif decide (0 < (r18.snd.fst.size : Int)) then
 (bif byteAt r18.snd.fst 0 != 47 then
 ret (Ratio.mk 0 0) 4
 else
 bif decide ((r18.snd.fst.size : Int) ≤ (r18.snd.fst.size : Int)) then
 (bif decide (1 ≤ (r18.snd.fst.size : Int)) then
 ((ratio_digits m (r18.snd.fst.extract 1 ((r18.snd.fst.size : Int)).toNat)).bind fun r19 =>
 bif !r19.snd.snd then
 ret (Ratio.mk 0 0) 4
 else
 bif !r19.snd.fst.toList == (bs []).toList then
 ret (Ratio.mk 0 0) 4
 else
 bif decide (r18.fst > 1073741824) then
 ret (Ratio.mk 0 0) 3
 else
 bif decide (r19.fst > 1073741824) then
 ret (Ratio.mk 0 0) 3
 else
 bif !r18.snd.fst.toList == (bs []).toList then
 (bif decide (r19.fst < 2) then
 ret (Ratio.mk 0 0) 4
 else
 (ratio_size m r18.fst).bind fun r20 =>
 (ratio_size m r19.fst).bind fun r21 =>
 (ratio_common m r20 r21).bind fun r22 =>
 bif decide (r22 > 1) then
 ret (Ratio.mk 0 0) 4
 else
 ret (Ratio.mk r18.fst r19.fst) 0)
 else
 ret (Ratio.mk r18.fst r19.fst) 0)
 else
 none)
 else
 none)
 else
 none)
 else
 bif decide (r18.fst > 1073741824) then
 ret (Ratio.mk 0 0) 3
 else
 bif !r18.snd.fst.toList == (bs []).toList then
 ret (Ratio.mk 0 0) 4
 else
 ret (Ratio.mk r18.fst 1) 0
theorem ratio_Parse_pre (m : Nat) (s_0 : ByteArray) : funK Tryd.prog (Ψ_ratio_Parse m) keep m 1 27 [dStr.e s_0] = b_ratio_Parse m (fun x0 x1 => some (w_ratio_Parse (x0, x1))) s_0 := by kernel_rfl
theorem b_ratio_Parse_map (m : Nat) (s_0 : ByteArray) : b_ratio_Parse m (fun x0 x1 => some (w_ratio_Parse (x0, x1))) s_0 = (b_ratio_Parse m (fun x0 x1 => some (x0, x1)) s_0).map w_ratio_Parse := by
  simp only [b_ratio_Parse, cond_map, bind_map, map_none, map_some]
noncomputable def ratio_Parse (m : Nat) (s_0 : ByteArray) : Option (Ratio × Int) := b_ratio_Parse m (fun x0 x1 => some (x0, x1)) s_0
theorem ratio_Parse_fun (m : Nat) (s_0 : ByteArray) : funK Tryd.prog (Ψ_ratio_Parse m) keep m 1 27 [dStr.e s_0] = (ratio_Parse m s_0).map w_ratio_Parse := by
  rw [ratio_Parse_pre]
  exact b_ratio_Parse_map m s_0
noncomputable def K_ratio_Parse (m : Nat) : KnownF C := mkK (dCons dStr dNil) (fun a => ratio_Parse m a.1) w_ratio_Parse
theorem K_ratio_Parse_ok (m : Nat) : KnownAt C Tryd.prog 27 fun l => (K_ratio_Parse m).run _ l some :=
  mkK_known good fit (Ψ_ratio_Parse_ok m) (keep := keep) (m := m) (d := 1) fun a => ratio_Parse_fun m a.1
/-! ### signalbench/ratio.Floor -/
noncomputable def Ψ_ratio_Floor (m : Nat) : Known C := fun f => match f with
  | 12 => some (K_ratio_Valid m)
  | 46 => some (K_ratio_floor m)
  | _ => none
theorem Ψ_ratio_Floor_ok (m : Nat) : KnownOk C Tryd.prog (Ψ_ratio_Floor m) := by
  intro f φ h
  unfold Ψ_ratio_Floor at h
  split at h
  · injection h with h; subst h; exact K_ratio_Valid_ok m
  · injection h with h; subst h; exact K_ratio_floor_ok m
  · cases h
def w_ratio_Floor (b : Int) : List (RV C) := [(dInt .i64).e b]
noncomputable def b_ratio_Floor {R : Type} (m : Nat) (ret : Int → Option R) (r_0 : Ratio) : Option R :=
 (ratio_Valid m r_0).bind fun r0 =>
 bif !r0 then
 ret 0
 else
 (ratio_floor m r_0.Num r_0.Den).bind fun r1 =>
 ret r1
theorem ratio_Floor_pre (m : Nat) (r_0 : Ratio) : funK Tryd.prog (Ψ_ratio_Floor m) keep m 1 23 [(dS of_Ratio cells_Ratio of_Ratio_ok).e r_0] = b_ratio_Floor m (fun x0 => some (w_ratio_Floor x0)) r_0 := by kernel_rfl
theorem b_ratio_Floor_map (m : Nat) (r_0 : Ratio) : b_ratio_Floor m (fun x0 => some (w_ratio_Floor x0)) r_0 = (b_ratio_Floor m (fun x0 => some x0) r_0).map w_ratio_Floor := by
  simp only [b_ratio_Floor, cond_map, bind_map, map_none, map_some]
noncomputable def ratio_Floor (m : Nat) (r_0 : Ratio) : Option (Int) := b_ratio_Floor m (fun x0 => some x0) r_0
theorem ratio_Floor_fun (m : Nat) (r_0 : Ratio) : funK Tryd.prog (Ψ_ratio_Floor m) keep m 1 23 [(dS of_Ratio cells_Ratio of_Ratio_ok).e r_0] = (ratio_Floor m r_0).map w_ratio_Floor := by
  rw [ratio_Floor_pre]
  exact b_ratio_Floor_map m r_0
noncomputable def K_ratio_Floor (m : Nat) : KnownF C := mkK (dCons (dS of_Ratio cells_Ratio of_Ratio_ok) dNil) (fun a => ratio_Floor m a.1) w_ratio_Floor
theorem K_ratio_Floor_ok (m : Nat) : KnownAt C Tryd.prog 23 fun l => (K_ratio_Floor m).run _ l some :=
  mkK_known good fit (Ψ_ratio_Floor_ok m) (keep := keep) (m := m) (d := 1) fun a => ratio_Floor_fun m a.1
/-! ### signalbench/ratio.Round -/
noncomputable def Ψ_ratio_Round (m : Nat) : Known C := fun f => match f with
  | 12 => some (K_ratio_Valid m)
  | 46 => some (K_ratio_floor m)
  | _ => none
theorem Ψ_ratio_Round_ok (m : Nat) : KnownOk C Tryd.prog (Ψ_ratio_Round m) := by
  intro f φ h
  unfold Ψ_ratio_Round at h
  split at h
  · injection h with h; subst h; exact K_ratio_Valid_ok m
  · injection h with h; subst h; exact K_ratio_floor_ok m
  · cases h
def w_ratio_Round (b : Int) : List (RV C) := [(dInt .i64).e b]
noncomputable def b_ratio_Round {R : Type} (m : Nat) (ret : Int → Option R) (r_0 : Ratio) : Option R :=
 (ratio_Valid m r_0).bind fun r0 =>
 bif !r0 then
 ret 0
 else
 (ratio_floor m (IntKind.i64.wrap (IntKind.i64.wrap (2 * r_0.Num) + r_0.Den)) (IntKind.i64.wrap (2 * r_0.Den))).bind fun r1 =>
 ret r1
theorem ratio_Round_pre (m : Nat) (r_0 : Ratio) : funK Tryd.prog (Ψ_ratio_Round m) keep m 1 25 [(dS of_Ratio cells_Ratio of_Ratio_ok).e r_0] = b_ratio_Round m (fun x0 => some (w_ratio_Round x0)) r_0 := by kernel_rfl
theorem b_ratio_Round_map (m : Nat) (r_0 : Ratio) : b_ratio_Round m (fun x0 => some (w_ratio_Round x0)) r_0 = (b_ratio_Round m (fun x0 => some x0) r_0).map w_ratio_Round := by
  simp only [b_ratio_Round, cond_map, bind_map, map_none, map_some]
noncomputable def ratio_Round (m : Nat) (r_0 : Ratio) : Option (Int) := b_ratio_Round m (fun x0 => some x0) r_0
theorem ratio_Round_fun (m : Nat) (r_0 : Ratio) : funK Tryd.prog (Ψ_ratio_Round m) keep m 1 25 [(dS of_Ratio cells_Ratio of_Ratio_ok).e r_0] = (ratio_Round m r_0).map w_ratio_Round := by
  rw [ratio_Round_pre]
  exact b_ratio_Round_map m r_0
noncomputable def K_ratio_Round (m : Nat) : KnownF C := mkK (dCons (dS of_Ratio cells_Ratio of_Ratio_ok) dNil) (fun a => ratio_Round m a.1) w_ratio_Round
theorem K_ratio_Round_ok (m : Nat) : KnownAt C Tryd.prog 25 fun l => (K_ratio_Round m).run _ l some :=
  mkK_known good fit (Ψ_ratio_Round_ok m) (keep := keep) (m := m) (d := 1) fun a => ratio_Round_fun m a.1
/-! ### signalbench/ratio.both -/
noncomputable def Ψ_ratio_both (m : Nat) : Known C := fun f => match f with
  | 12 => some (K_ratio_Valid m)
  | _ => none
theorem Ψ_ratio_both_ok (m : Nat) : KnownOk C Tryd.prog (Ψ_ratio_both m) := by
  intro f φ h
  unfold Ψ_ratio_both at h
  split at h
  · injection h with h; subst h; exact K_ratio_Valid_ok m
  · cases h
def w_ratio_both (b : Bool) : List (RV C) := [dBool.e b]
noncomputable def b_ratio_both {R : Type} (m : Nat) (ret : Bool → Option R) (a_0 : Ratio) (b_1 : Ratio) : Option R :=
 (ratio_Valid m a_0).bind fun r0 =>
 bif r0 then
 ((ratio_Valid m b_1).bind fun r1 =>
 ret r1)
 else
 ret false
theorem ratio_both_pre (m : Nat) (a_0 : Ratio) (b_1 : Ratio) : funK Tryd.prog (Ψ_ratio_both m) keep m 1 48 [(dS of_Ratio cells_Ratio of_Ratio_ok).e a_0, (dS of_Ratio cells_Ratio of_Ratio_ok).e b_1] = b_ratio_both m (fun x0 => some (w_ratio_both x0)) a_0 b_1 := by kernel_rfl
theorem b_ratio_both_map (m : Nat) (a_0 : Ratio) (b_1 : Ratio) : b_ratio_both m (fun x0 => some (w_ratio_both x0)) a_0 b_1 = (b_ratio_both m (fun x0 => some x0) a_0 b_1).map w_ratio_both := by
  simp only [b_ratio_both, cond_map, bind_map, map_none, map_some]
noncomputable def ratio_both (m : Nat) (a_0 : Ratio) (b_1 : Ratio) : Option (Bool) := b_ratio_both m (fun x0 => some x0) a_0 b_1
theorem ratio_both_fun (m : Nat) (a_0 : Ratio) (b_1 : Ratio) : funK Tryd.prog (Ψ_ratio_both m) keep m 1 48 [(dS of_Ratio cells_Ratio of_Ratio_ok).e a_0, (dS of_Ratio cells_Ratio of_Ratio_ok).e b_1] = (ratio_both m a_0 b_1).map w_ratio_both := by
  rw [ratio_both_pre]
  exact b_ratio_both_map m a_0 b_1
noncomputable def K_ratio_both (m : Nat) : KnownF C := mkK (dCons (dS of_Ratio cells_Ratio of_Ratio_ok) (dCons (dS of_Ratio cells_Ratio of_Ratio_ok) dNil)) (fun a => ratio_both m a.1 a.2.1) w_ratio_both
theorem K_ratio_both_ok (m : Nat) : KnownAt C Tryd.prog 48 fun l => (K_ratio_both m).run _ l some :=
  mkK_known good fit (Ψ_ratio_both_ok m) (keep := keep) (m := m) (d := 1) fun a => ratio_both_fun m a.1 a.2.1
/-! ### signalbench/ratio.Cmp -/
noncomputable def Ψ_ratio_Cmp (m : Nat) : Known C := fun f => match f with
  | 48 => some (K_ratio_both m)
  | _ => none
theorem Ψ_ratio_Cmp_ok (m : Nat) : KnownOk C Tryd.prog (Ψ_ratio_Cmp m) := by
  intro f φ h
  unfold Ψ_ratio_Cmp at h
  split at h
  · injection h with h; subst h; exact K_ratio_both_ok m
  · cases h
def w_ratio_Cmp (b : Int) : List (RV C) := [(dInt .i64).e b]
noncomputable def b_ratio_Cmp {R : Type} (m : Nat) (ret : Int → Option R) (a_0 : Ratio) (b_1 : Ratio) : Option R :=
 (ratio_both m a_0 b_1).bind fun r0 =>
 bif !r0 then
 ret 0
 else
 bif a_0.Num == b_1.Num && (a_0.Den == b_1.Den && true) then
 ret 0
 else
 bif decide (IntKind.i64.wrap (a_0.Num * b_1.Den) < IntKind.i64.wrap (b_1.Num * a_0.Den)) then
 ret (-1)
 else
 ret 1
theorem ratio_Cmp_pre (m : Nat) (a_0 : Ratio) (b_1 : Ratio) : funK Tryd.prog (Ψ_ratio_Cmp m) keep m 1 21 [(dS of_Ratio cells_Ratio of_Ratio_ok).e a_0, (dS of_Ratio cells_Ratio of_Ratio_ok).e b_1] = b_ratio_Cmp m (fun x0 => some (w_ratio_Cmp x0)) a_0 b_1 := by kernel_rfl
theorem b_ratio_Cmp_map (m : Nat) (a_0 : Ratio) (b_1 : Ratio) : b_ratio_Cmp m (fun x0 => some (w_ratio_Cmp x0)) a_0 b_1 = (b_ratio_Cmp m (fun x0 => some x0) a_0 b_1).map w_ratio_Cmp := by
  simp only [b_ratio_Cmp, cond_map, bind_map, map_none, map_some]
noncomputable def ratio_Cmp (m : Nat) (a_0 : Ratio) (b_1 : Ratio) : Option (Int) := b_ratio_Cmp m (fun x0 => some x0) a_0 b_1
theorem ratio_Cmp_fun (m : Nat) (a_0 : Ratio) (b_1 : Ratio) : funK Tryd.prog (Ψ_ratio_Cmp m) keep m 1 21 [(dS of_Ratio cells_Ratio of_Ratio_ok).e a_0, (dS of_Ratio cells_Ratio of_Ratio_ok).e b_1] = (ratio_Cmp m a_0 b_1).map w_ratio_Cmp := by
  rw [ratio_Cmp_pre]
  exact b_ratio_Cmp_map m a_0 b_1
noncomputable def K_ratio_Cmp (m : Nat) : KnownF C := mkK (dCons (dS of_Ratio cells_Ratio of_Ratio_ok) (dCons (dS of_Ratio cells_Ratio of_Ratio_ok) dNil)) (fun a => ratio_Cmp m a.1 a.2.1) w_ratio_Cmp
theorem K_ratio_Cmp_ok (m : Nat) : KnownAt C Tryd.prog 21 fun l => (K_ratio_Cmp m).run _ l some :=
  mkK_known good fit (Ψ_ratio_Cmp_ok m) (keep := keep) (m := m) (d := 1) fun a => ratio_Cmp_fun m a.1 a.2.1
/-! ### signalbench/signalbenchlaw01.awake -/
noncomputable def Ψ_law01_awake (m : Nat) : Known C := fun f => match f with
  | 17 => some (K_ratio_Make m)
  | 19 => some (K_ratio_Scale m)
  | 27 => some (K_ratio_Parse m)
  | 14 => some (K_ratio_Text m)
  | 23 => some (K_ratio_Floor m)
  | 25 => some (K_ratio_Round m)
  | 21 => some (K_ratio_Cmp m)
  | _ => none
theorem Ψ_law01_awake_ok (m : Nat) : KnownOk C Tryd.prog (Ψ_law01_awake m) := by
  intro f φ h
  unfold Ψ_law01_awake at h
  split at h
  · injection h with h; subst h; exact K_ratio_Make_ok m
  · injection h with h; subst h; exact K_ratio_Scale_ok m
  · injection h with h; subst h; exact K_ratio_Parse_ok m
  · injection h with h; subst h; exact K_ratio_Text_ok m
  · injection h with h; subst h; exact K_ratio_Floor_ok m
  · injection h with h; subst h; exact K_ratio_Round_ok m
  · injection h with h; subst h; exact K_ratio_Cmp_ok m
  · cases h
def w_law01_awake (b : Bool) : List (RV C) := [dBool.e b]
noncomputable def b_law01_awake {R : Type} (m : Nat) (ret : Bool → Option R) : Option R :=
 (ratio_Make m 6 (-8)).bind fun r0 =>
 (ratio_Scale m r0.fst 5).bind fun r1 =>
 (ratio_Parse m (bs [50, 47, 52])).bind fun r2 =>
 (ratio_Parse m (bs [55])).bind fun r3 =>
 bif r0.snd != 0 then
 ret false
 else
 bif r1.snd != 0 then
 ret false
 else
 bif r2.snd != 4 then
 ret false
 else
 bif r3.snd != 0 then
 ret false
 else
 bif r0.fst.Num == -3 && (r0.fst.Den == 4 && true) then
 (bif r1.fst == -4 then
 (bif r3.fst.Num == 7 && (r3.fst.Den == 1 && true) then
 ((ratio_Text m r0.fst).bind fun r4 =>
 bif r4.toList == (bs [45, 51, 47, 52]).toList then
 ((ratio_Floor m r0.fst).bind fun r5 =>
 bif r5 == -1 then
 ((ratio_Round m (Ratio.mk 1 2)).bind fun r6 =>
 bif r6 == 1 then
 ((ratio_Cmp m r0.fst (Ratio.mk 1 2)).bind fun r7 =>
 ret (r7 == -1))
 else
 ret false)
 else
 ret false)
 else
 ret false)
 else
 ret false)
 else
 ret false)
 else
 ret false
theorem law01_awake_pre (m : Nat) : funK Tryd.prog (Ψ_law01_awake m) keep m 1 16 [] = b_law01_awake m (fun x0 => some (w_law01_awake x0)) := by kernel_rfl
theorem b_law01_awake_map (m : Nat) : b_law01_awake m (fun x0 => some (w_law01_awake x0)) = (b_law01_awake m (fun x0 => some x0)).map w_law01_awake := by
  simp only [b_law01_awake, cond_map, bind_map, map_none, map_some]
noncomputable def law01_awake (m : Nat) : Option (Bool) := b_law01_awake m (fun x0 => some x0)
theorem law01_awake_fun (m : Nat) : funK Tryd.prog (Ψ_law01_awake m) keep m 1 16 [] = (law01_awake m).map w_law01_awake := by
  rw [law01_awake_pre]
  exact b_law01_awake_map m
noncomputable def K_law01_awake (m : Nat) : KnownF C := mkK dNil (fun a => law01_awake m) w_law01_awake
theorem K_law01_awake_ok (m : Nat) : KnownAt C Tryd.prog 16 fun l => (K_law01_awake m).run _ l some :=
  mkK_known good fit (Ψ_law01_awake_ok m) (keep := keep) (m := m) (d := 1) fun a => law01_awake_fun m
/-! ### signalbench/signalbenchlaw01.RatioValid -/
noncomputable def Ψ_law01_RatioValid (m : Nat) : Known C := fun f => match f with
  | 12 => some (K_ratio_Valid m)
  | 13 => some (K_ref01_Valid m)
  | 14 => some (K_ratio_Text m)
  | 15 => some (K_ref01_Text m)
  | 16 => some (K_law01_awake m)
  | _ => none
theorem Ψ_law01_RatioValid_ok (m : Nat) : KnownOk C Tryd.prog (Ψ_law01_RatioValid m) := by
  intro f φ h
  unfold Ψ_law01_RatioValid at h
  split at h
  · injection h with h; subst h; exact K_ratio_Valid_ok m
  · injection h with h; subst h; exact K_ref01_Valid_ok m
  · injection h with h; subst h; exact K_ratio_Text_ok m
  · injection h with h; subst h; exact K_ref01_Text_ok m
  · injection h with h; subst h; exact K_law01_awake_ok m
  · cases h
def w_law01_RatioValid (b : Bool) : List (RV C) := [dBool.e b]
noncomputable def b_law01_RatioValid {R : Type} (m : Nat) (ret : Bool → Option R) (r_0 : Ratio) : Option R :=
 (ratio_Valid m r_0).bind fun r0 =>
 (ref01_Valid m r_0).bind fun r1 =>
 bif r0 == r1 then
 ((ratio_Text m r_0).bind fun r2 =>
 (ref01_Text m r_0).bind fun r3 =>
 bif r2.toList == r3.toList then
 ((law01_awake m).bind fun r4 =>
 ret r4)
 else
 ret false)
 else
 ret false
theorem law01_RatioValid_pre (m : Nat) (r_0 : Ratio) : funK Tryd.prog (Ψ_law01_RatioValid m) keep m 1 3 [(dS of_Ratio cells_Ratio of_Ratio_ok).e r_0] = b_law01_RatioValid m (fun x0 => some (w_law01_RatioValid x0)) r_0 := by kernel_rfl
theorem b_law01_RatioValid_map (m : Nat) (r_0 : Ratio) : b_law01_RatioValid m (fun x0 => some (w_law01_RatioValid x0)) r_0 = (b_law01_RatioValid m (fun x0 => some x0) r_0).map w_law01_RatioValid := by
  simp only [b_law01_RatioValid, cond_map, bind_map, map_none, map_some]
noncomputable def law01_RatioValid (m : Nat) (r_0 : Ratio) : Option (Bool) := b_law01_RatioValid m (fun x0 => some x0) r_0
theorem law01_RatioValid_fun (m : Nat) (r_0 : Ratio) : funK Tryd.prog (Ψ_law01_RatioValid m) keep m 1 3 [(dS of_Ratio cells_Ratio of_Ratio_ok).e r_0] = (law01_RatioValid m r_0).map w_law01_RatioValid := by
  rw [law01_RatioValid_pre]
  exact b_law01_RatioValid_map m r_0
noncomputable def K_law01_RatioValid (m : Nat) : KnownF C := mkK (dCons (dS of_Ratio cells_Ratio of_Ratio_ok) dNil) (fun a => law01_RatioValid m a.1) w_law01_RatioValid
theorem K_law01_RatioValid_ok (m : Nat) : KnownAt C Tryd.prog 3 fun l => (K_law01_RatioValid m).run _ l some :=
  mkK_known good fit (Ψ_law01_RatioValid_ok m) (keep := keep) (m := m) (d := 1) fun a => law01_RatioValid_fun m a.1
/-! ### signalbench/signalbenchref01.Make -/
noncomputable def Ψ_ref01_Make (m : Nat) : Known C := fun f => match f with
  | 42 => some (K_ref01_size m)
  | 41 => some (K_ref01_gcd m)
  | _ => none
theorem Ψ_ref01_Make_ok (m : Nat) : KnownOk C Tryd.prog (Ψ_ref01_Make m) := by
  intro f φ h
  unfold Ψ_ref01_Make at h
  split at h
  · injection h with h; subst h; exact K_ref01_size_ok m
  · injection h with h; subst h; exact K_ref01_gcd_ok m
  · cases h
def w_ref01_Make (b : Ratio × Int) : List (RV C) := [(dS of_Ratio cells_Ratio of_Ratio_ok).e b.1, (dInt .i64).e b.2]
noncomputable def b_ref01_Make {R : Type} (m : Nat) (ret : Ratio → Int → Option R) (num_0 : Int) (den_1 : Int) : Option R :=
 bif den_1 == 0 then
 ret (Ratio.mk 0 0) 1
 else
 (ref01_size m num_0).bind fun r0 =>
 (ref01_size m den_1).bind fun r1 =>
 (ref01_gcd m r0 r1).bind fun r2 =>
 bif decide (r2 = 0) then
 none
 else
 bif decide (IntKind.u64.wrap (r0.tdiv r2) > 1073741824) then
 ret (Ratio.mk 0 0) 3
 else
 bif decide (r2 = 0) then
 none
 else
 bif decide (IntKind.u64.wrap (r1.tdiv r2) > 1073741824) then
 ret (Ratio.mk 0 0) 3
 else
 bif decide (r2 = 0) then
 none
 else
 bif !decide (num_0 < 0) == decide (den_1 < 0) then
 bif decide (r2 = 0) then
 none
 else
 ret (Ratio.mk (IntKind.i64.wrap (0 - IntKind.i64.wrap (IntKind.u64.wrap (r0.tdiv r2)))) (IntKind.i64.wrap (IntKind.u64.wrap (r1.tdiv r2)))) 0
 else
 bif decide (r2 = 0) then
 none
 else
 ret (Ratio.mk (IntKind.i64.wrap (IntKind.u64.wrap (r0.tdiv r2))) (IntKind.i64.wrap (IntKind.u64.wrap (r1.tdiv r2)))) 0
theorem ref01_Make_pre (m : Nat) (num_0 : Int) (den_1 : Int) : funK Tryd.prog (Ψ_ref01_Make m) keep m 1 18 [(dInt .i64).e num_0, (dInt .i64).e den_1] = b_ref01_Make m (fun x0 x1 => some (w_ref01_Make (x0, x1))) num_0 den_1 := by kernel_rfl
theorem b_ref01_Make_map (m : Nat) (num_0 : Int) (den_1 : Int) : b_ref01_Make m (fun x0 x1 => some (w_ref01_Make (x0, x1))) num_0 den_1 = (b_ref01_Make m (fun x0 x1 => some (x0, x1)) num_0 den_1).map w_ref01_Make := by
  simp only [b_ref01_Make, cond_map, bind_map, map_none, map_some]
noncomputable def ref01_Make (m : Nat) (num_0 : Int) (den_1 : Int) : Option (Ratio × Int) := b_ref01_Make m (fun x0 x1 => some (x0, x1)) num_0 den_1
theorem ref01_Make_fun (m : Nat) (num_0 : Int) (den_1 : Int) : funK Tryd.prog (Ψ_ref01_Make m) keep m 1 18 [(dInt .i64).e num_0, (dInt .i64).e den_1] = (ref01_Make m num_0 den_1).map w_ref01_Make := by
  rw [ref01_Make_pre]
  exact b_ref01_Make_map m num_0 den_1
noncomputable def K_ref01_Make (m : Nat) : KnownF C := mkK (dCons (dInt .i64) (dCons (dInt .i64) dNil)) (fun a => ref01_Make m a.1 a.2.1) w_ref01_Make
theorem K_ref01_Make_ok (m : Nat) : KnownAt C Tryd.prog 18 fun l => (K_ref01_Make m).run _ l some :=
  mkK_known good fit (Ψ_ref01_Make_ok m) (keep := keep) (m := m) (d := 1) fun a => ref01_Make_fun m a.1 a.2.1
/-! ### signalbench/signalbenchlaw01.RatioMakes -/
noncomputable def Ψ_law01_RatioMakes (m : Nat) : Known C := fun f => match f with
  | 17 => some (K_ratio_Make m)
  | 18 => some (K_ref01_Make m)
  | 16 => some (K_law01_awake m)
  | _ => none
theorem Ψ_law01_RatioMakes_ok (m : Nat) : KnownOk C Tryd.prog (Ψ_law01_RatioMakes m) := by
  intro f φ h
  unfold Ψ_law01_RatioMakes at h
  split at h
  · injection h with h; subst h; exact K_ratio_Make_ok m
  · injection h with h; subst h; exact K_ref01_Make_ok m
  · injection h with h; subst h; exact K_law01_awake_ok m
  · cases h
def w_law01_RatioMakes (b : Bool) : List (RV C) := [dBool.e b]
noncomputable def b_law01_RatioMakes {R : Type} (m : Nat) (ret : Bool → Option R) (num_0 : Int) (den_1 : Int) : Option R :=
 (ratio_Make m num_0 den_1).bind fun r0 =>
 (ref01_Make m num_0 den_1).bind fun r1 =>
 bif r0.fst.Num == r1.fst.Num && (r0.fst.Den == r1.fst.Den && true) then
 (bif r0.snd == r1.snd then
 ((law01_awake m).bind fun r2 =>
 ret r2)
 else
 ret false)
 else
 ret false
theorem law01_RatioMakes_pre (m : Nat) (num_0 : Int) (den_1 : Int) : funK Tryd.prog (Ψ_law01_RatioMakes m) keep m 1 4 [(dInt .i64).e num_0, (dInt .i64).e den_1] = b_law01_RatioMakes m (fun x0 => some (w_law01_RatioMakes x0)) num_0 den_1 := by kernel_rfl
theorem b_law01_RatioMakes_map (m : Nat) (num_0 : Int) (den_1 : Int) : b_law01_RatioMakes m (fun x0 => some (w_law01_RatioMakes x0)) num_0 den_1 = (b_law01_RatioMakes m (fun x0 => some x0) num_0 den_1).map w_law01_RatioMakes := by
  simp only [b_law01_RatioMakes, cond_map, bind_map, map_none, map_some]
noncomputable def law01_RatioMakes (m : Nat) (num_0 : Int) (den_1 : Int) : Option (Bool) := b_law01_RatioMakes m (fun x0 => some x0) num_0 den_1
theorem law01_RatioMakes_fun (m : Nat) (num_0 : Int) (den_1 : Int) : funK Tryd.prog (Ψ_law01_RatioMakes m) keep m 1 4 [(dInt .i64).e num_0, (dInt .i64).e den_1] = (law01_RatioMakes m num_0 den_1).map w_law01_RatioMakes := by
  rw [law01_RatioMakes_pre]
  exact b_law01_RatioMakes_map m num_0 den_1
noncomputable def K_law01_RatioMakes (m : Nat) : KnownF C := mkK (dCons (dInt .i64) (dCons (dInt .i64) dNil)) (fun a => law01_RatioMakes m a.1 a.2.1) w_law01_RatioMakes
theorem K_law01_RatioMakes_ok (m : Nat) : KnownAt C Tryd.prog 4 fun l => (K_law01_RatioMakes m).run _ l some :=
  mkK_known good fit (Ψ_law01_RatioMakes_ok m) (keep := keep) (m := m) (d := 1) fun a => law01_RatioMakes_fun m a.1 a.2.1
/-! ### signalbench/signalbenchref01.floor -/
def w_ref01_floor (b : Int) : List (RV C) := [(dInt .i64).e b]
noncomputable def b_ref01_floor {R : Type} (m : Nat) (ret : Int → Option R) (a_0 : Int) (b_1 : Int) : Option R :=
 bif decide (b_1 = 0) then
 none
 else
 bif decide (b_1 = 0) then
 none
 else
 bif decide (a_0.tmod b_1 < 0) then
 ret (IntKind.i64.wrap (IntKind.i64.wrap (a_0.tdiv b_1) - 1))
 else
 ret (IntKind.i64.wrap (a_0.tdiv b_1))
theorem ref01_floor_pre (m : Nat) (a_0 : Int) (b_1 : Int) : funK Tryd.prog Ψ0 keep m 1 47 [(dInt .i64).e a_0, (dInt .i64).e b_1] = b_ref01_floor m (fun x0 => some (w_ref01_floor x0)) a_0 b_1 := by kernel_rfl
theorem b_ref01_floor_map (m : Nat) (a_0 : Int) (b_1 : Int) : b_ref01_floor m (fun x0 => some (w_ref01_floor x0)) a_0 b_1 = (b_ref01_floor m (fun x0 => some x0) a_0 b_1).map w_ref01_floor := by
  simp only [b_ref01_floor, cond_map, bind_map, map_none, map_some]
noncomputable def ref01_floor (m : Nat) (a_0 : Int) (b_1 : Int) : Option (Int) := b_ref01_floor m (fun x0 => some x0) a_0 b_1
theorem ref01_floor_fun (m : Nat) (a_0 : Int) (b_1 : Int) : funK Tryd.prog Ψ0 keep m 1 47 [(dInt .i64).e a_0, (dInt .i64).e b_1] = (ref01_floor m a_0 b_1).map w_ref01_floor := by
  rw [ref01_floor_pre]
  exact b_ref01_floor_map m a_0 b_1
noncomputable def K_ref01_floor (m : Nat) : KnownF C := mkK (dCons (dInt .i64) (dCons (dInt .i64) dNil)) (fun a => ref01_floor m a.1 a.2.1) w_ref01_floor
theorem K_ref01_floor_ok (m : Nat) : KnownAt C Tryd.prog 47 fun l => (K_ref01_floor m).run _ l some :=
  mkK_known good fit Ψ0_ok (keep := keep) (m := m) (d := 1) fun a => ref01_floor_fun m a.1 a.2.1
/-! ### signalbench/signalbenchref01.Scale -/
noncomputable def Ψ_ref01_Scale (m : Nat) : Known C := fun f => match f with
  | 13 => some (K_ref01_Valid m)
  | 47 => some (K_ref01_floor m)
  | _ => none
theorem Ψ_ref01_Scale_ok (m : Nat) : KnownOk C Tryd.prog (Ψ_ref01_Scale m) := by
  intro f φ h
  unfold Ψ_ref01_Scale at h
  split at h
  · injection h with h; subst h; exact K_ref01_Valid_ok m
  · injection h with h; subst h; exact K_ref01_floor_ok m
  · cases h
def w_ref01_Scale (b : Int × Int) : List (RV C) := [(dInt .i64).e b.1, (dInt .i64).e b.2]
noncomputable def b_ref01_Scale {R : Type} (m : Nat) (ret : Int → Int → Option R) (r_0 : Ratio) (n_1 : Int) : Option R :=
 (ref01_Valid m r_0).bind fun r0 =>
 bif !r0 then
 ret 0 1
 else
 bif decide (n_1 < -4294967296) then
 ret 0 3
 else
 bif decide (n_1 > 4294967296) then
 ret 0 3
 else
 (ref01_floor m (IntKind.i64.wrap (r_0.Num * n_1)) r_0.Den).bind fun r1 =>
 ret r1 0
theorem ref01_Scale_pre (m : Nat) (r_0 : Ratio) (n_1 : Int) : funK Tryd.prog (Ψ_ref01_Scale m) keep m 1 20 [(dS of_Ratio cells_Ratio of_Ratio_ok).e r_0, (dInt .i64).e n_1] = b_ref01_Scale m (fun x0 x1 => some (w_ref01_Scale (x0, x1))) r_0 n_1 := by kernel_rfl
theorem b_ref01_Scale_map (m : Nat) (r_0 : Ratio) (n_1 : Int) : b_ref01_Scale m (fun x0 x1 => some (w_ref01_Scale (x0, x1))) r_0 n_1 = (b_ref01_Scale m (fun x0 x1 => some (x0, x1)) r_0 n_1).map w_ref01_Scale := by
  simp only [b_ref01_Scale, cond_map, bind_map, map_none, map_some]
noncomputable def ref01_Scale (m : Nat) (r_0 : Ratio) (n_1 : Int) : Option (Int × Int) := b_ref01_Scale m (fun x0 x1 => some (x0, x1)) r_0 n_1
theorem ref01_Scale_fun (m : Nat) (r_0 : Ratio) (n_1 : Int) : funK Tryd.prog (Ψ_ref01_Scale m) keep m 1 20 [(dS of_Ratio cells_Ratio of_Ratio_ok).e r_0, (dInt .i64).e n_1] = (ref01_Scale m r_0 n_1).map w_ref01_Scale := by
  rw [ref01_Scale_pre]
  exact b_ref01_Scale_map m r_0 n_1
noncomputable def K_ref01_Scale (m : Nat) : KnownF C := mkK (dCons (dS of_Ratio cells_Ratio of_Ratio_ok) (dCons (dInt .i64) dNil)) (fun a => ref01_Scale m a.1 a.2.1) w_ref01_Scale
theorem K_ref01_Scale_ok (m : Nat) : KnownAt C Tryd.prog 20 fun l => (K_ref01_Scale m).run _ l some :=
  mkK_known good fit (Ψ_ref01_Scale_ok m) (keep := keep) (m := m) (d := 1) fun a => ref01_Scale_fun m a.1 a.2.1
/-! ### signalbench/signalbenchref01.Cmp -/
noncomputable def Ψ_ref01_Cmp (m : Nat) : Known C := fun f => match f with
  | 13 => some (K_ref01_Valid m)
  | _ => none
theorem Ψ_ref01_Cmp_ok (m : Nat) : KnownOk C Tryd.prog (Ψ_ref01_Cmp m) := by
  intro f φ h
  unfold Ψ_ref01_Cmp at h
  split at h
  · injection h with h; subst h; exact K_ref01_Valid_ok m
  · cases h
def w_ref01_Cmp (b : Int) : List (RV C) := [(dInt .i64).e b]
noncomputable def b_ref01_Cmp {R : Type} (m : Nat) (ret : Int → Option R) (a_0 : Ratio) (b_1 : Ratio) : Option R :=
 (ref01_Valid m a_0).bind fun r0 =>
 bif !r0 then
 ret 0
 else
 (ref01_Valid m b_1).bind fun r1 =>
 bif !r1 then
 ret 0
 else
 bif IntKind.i64.wrap (a_0.Num * b_1.Den) == IntKind.i64.wrap (b_1.Num * a_0.Den) then
 ret 0
 else
 bif decide (IntKind.i64.wrap (a_0.Num * b_1.Den) < IntKind.i64.wrap (b_1.Num * a_0.Den)) then
 ret (-1)
 else
 ret 1
theorem ref01_Cmp_pre (m : Nat) (a_0 : Ratio) (b_1 : Ratio) : funK Tryd.prog (Ψ_ref01_Cmp m) keep m 1 22 [(dS of_Ratio cells_Ratio of_Ratio_ok).e a_0, (dS of_Ratio cells_Ratio of_Ratio_ok).e b_1] = b_ref01_Cmp m (fun x0 => some (w_ref01_Cmp x0)) a_0 b_1 := by kernel_rfl
theorem b_ref01_Cmp_map (m : Nat) (a_0 : Ratio) (b_1 : Ratio) : b_ref01_Cmp m (fun x0 => some (w_ref01_Cmp x0)) a_0 b_1 = (b_ref01_Cmp m (fun x0 => some x0) a_0 b_1).map w_ref01_Cmp := by
  simp only [b_ref01_Cmp, cond_map, bind_map, map_none, map_some]
noncomputable def ref01_Cmp (m : Nat) (a_0 : Ratio) (b_1 : Ratio) : Option (Int) := b_ref01_Cmp m (fun x0 => some x0) a_0 b_1
theorem ref01_Cmp_fun (m : Nat) (a_0 : Ratio) (b_1 : Ratio) : funK Tryd.prog (Ψ_ref01_Cmp m) keep m 1 22 [(dS of_Ratio cells_Ratio of_Ratio_ok).e a_0, (dS of_Ratio cells_Ratio of_Ratio_ok).e b_1] = (ref01_Cmp m a_0 b_1).map w_ref01_Cmp := by
  rw [ref01_Cmp_pre]
  exact b_ref01_Cmp_map m a_0 b_1
noncomputable def K_ref01_Cmp (m : Nat) : KnownF C := mkK (dCons (dS of_Ratio cells_Ratio of_Ratio_ok) (dCons (dS of_Ratio cells_Ratio of_Ratio_ok) dNil)) (fun a => ref01_Cmp m a.1 a.2.1) w_ref01_Cmp
theorem K_ref01_Cmp_ok (m : Nat) : KnownAt C Tryd.prog 22 fun l => (K_ref01_Cmp m).run _ l some :=
  mkK_known good fit (Ψ_ref01_Cmp_ok m) (keep := keep) (m := m) (d := 1) fun a => ref01_Cmp_fun m a.1 a.2.1
/-! ### signalbench/signalbenchref01.Floor -/
noncomputable def Ψ_ref01_Floor (m : Nat) : Known C := fun f => match f with
  | 13 => some (K_ref01_Valid m)
  | 47 => some (K_ref01_floor m)
  | _ => none
theorem Ψ_ref01_Floor_ok (m : Nat) : KnownOk C Tryd.prog (Ψ_ref01_Floor m) := by
  intro f φ h
  unfold Ψ_ref01_Floor at h
  split at h
  · injection h with h; subst h; exact K_ref01_Valid_ok m
  · injection h with h; subst h; exact K_ref01_floor_ok m
  · cases h
def w_ref01_Floor (b : Int) : List (RV C) := [(dInt .i64).e b]
noncomputable def b_ref01_Floor {R : Type} (m : Nat) (ret : Int → Option R) (r_0 : Ratio) : Option R :=
 (ref01_Valid m r_0).bind fun r0 =>
 bif !r0 then
 ret 0
 else
 (ref01_floor m r_0.Num r_0.Den).bind fun r1 =>
 ret r1
theorem ref01_Floor_pre (m : Nat) (r_0 : Ratio) : funK Tryd.prog (Ψ_ref01_Floor m) keep m 1 24 [(dS of_Ratio cells_Ratio of_Ratio_ok).e r_0] = b_ref01_Floor m (fun x0 => some (w_ref01_Floor x0)) r_0 := by kernel_rfl
theorem b_ref01_Floor_map (m : Nat) (r_0 : Ratio) : b_ref01_Floor m (fun x0 => some (w_ref01_Floor x0)) r_0 = (b_ref01_Floor m (fun x0 => some x0) r_0).map w_ref01_Floor := by
  simp only [b_ref01_Floor, cond_map, bind_map, map_none, map_some]
noncomputable def ref01_Floor (m : Nat) (r_0 : Ratio) : Option (Int) := b_ref01_Floor m (fun x0 => some x0) r_0
theorem ref01_Floor_fun (m : Nat) (r_0 : Ratio) : funK Tryd.prog (Ψ_ref01_Floor m) keep m 1 24 [(dS of_Ratio cells_Ratio of_Ratio_ok).e r_0] = (ref01_Floor m r_0).map w_ref01_Floor := by
  rw [ref01_Floor_pre]
  exact b_ref01_Floor_map m r_0
noncomputable def K_ref01_Floor (m : Nat) : KnownF C := mkK (dCons (dS of_Ratio cells_Ratio of_Ratio_ok) dNil) (fun a => ref01_Floor m a.1) w_ref01_Floor
theorem K_ref01_Floor_ok (m : Nat) : KnownAt C Tryd.prog 24 fun l => (K_ref01_Floor m).run _ l some :=
  mkK_known good fit (Ψ_ref01_Floor_ok m) (keep := keep) (m := m) (d := 1) fun a => ref01_Floor_fun m a.1
/-! ### signalbench/signalbenchref01.Round -/
noncomputable def Ψ_ref01_Round (m : Nat) : Known C := fun f => match f with
  | 13 => some (K_ref01_Valid m)
  | 47 => some (K_ref01_floor m)
  | _ => none
theorem Ψ_ref01_Round_ok (m : Nat) : KnownOk C Tryd.prog (Ψ_ref01_Round m) := by
  intro f φ h
  unfold Ψ_ref01_Round at h
  split at h
  · injection h with h; subst h; exact K_ref01_Valid_ok m
  · injection h with h; subst h; exact K_ref01_floor_ok m
  · cases h
def w_ref01_Round (b : Int) : List (RV C) := [(dInt .i64).e b]
noncomputable def b_ref01_Round {R : Type} (m : Nat) (ret : Int → Option R) (r_0 : Ratio) : Option R :=
 (ref01_Valid m r_0).bind fun r0 =>
 bif !r0 then
 ret 0
 else
 (ref01_floor m (IntKind.i64.wrap (IntKind.i64.wrap (2 * r_0.Num) + r_0.Den)) (IntKind.i64.wrap (2 * r_0.Den))).bind fun r1 =>
 ret r1
theorem ref01_Round_pre (m : Nat) (r_0 : Ratio) : funK Tryd.prog (Ψ_ref01_Round m) keep m 1 26 [(dS of_Ratio cells_Ratio of_Ratio_ok).e r_0] = b_ref01_Round m (fun x0 => some (w_ref01_Round x0)) r_0 := by kernel_rfl
theorem b_ref01_Round_map (m : Nat) (r_0 : Ratio) : b_ref01_Round m (fun x0 => some (w_ref01_Round x0)) r_0 = (b_ref01_Round m (fun x0 => some x0) r_0).map w_ref01_Round := by
  simp only [b_ref01_Round, cond_map, bind_map, map_none, map_some]
noncomputable def ref01_Round (m : Nat) (r_0 : Ratio) : Option (Int) := b_ref01_Round m (fun x0 => some x0) r_0
theorem ref01_Round_fun (m : Nat) (r_0 : Ratio) : funK Tryd.prog (Ψ_ref01_Round m) keep m 1 26 [(dS of_Ratio cells_Ratio of_Ratio_ok).e r_0] = (ref01_Round m r_0).map w_ref01_Round := by
  rw [ref01_Round_pre]
  exact b_ref01_Round_map m r_0
noncomputable def K_ref01_Round (m : Nat) : KnownF C := mkK (dCons (dS of_Ratio cells_Ratio of_Ratio_ok) dNil) (fun a => ref01_Round m a.1) w_ref01_Round
theorem K_ref01_Round_ok (m : Nat) : KnownAt C Tryd.prog 26 fun l => (K_ref01_Round m).run _ l some :=
  mkK_known good fit (Ψ_ref01_Round_ok m) (keep := keep) (m := m) (d := 1) fun a => ref01_Round_fun m a.1
/-! ### signalbench/signalbenchlaw01.RatioOrders -/
noncomputable def Ψ_law01_RatioOrders (m : Nat) : Known C := fun f => match f with
  | 19 => some (K_ratio_Scale m)
  | 20 => some (K_ref01_Scale m)
  | 21 => some (K_ratio_Cmp m)
  | 22 => some (K_ref01_Cmp m)
  | 23 => some (K_ratio_Floor m)
  | 24 => some (K_ref01_Floor m)
  | 25 => some (K_ratio_Round m)
  | 26 => some (K_ref01_Round m)
  | 16 => some (K_law01_awake m)
  | _ => none
theorem Ψ_law01_RatioOrders_ok (m : Nat) : KnownOk C Tryd.prog (Ψ_law01_RatioOrders m) := by
  intro f φ h
  unfold Ψ_law01_RatioOrders at h
  split at h
  · injection h with h; subst h; exact K_ratio_Scale_ok m
  · injection h with h; subst h; exact K_ref01_Scale_ok m
  · injection h with h; subst h; exact K_ratio_Cmp_ok m
  · injection h with h; subst h; exact K_ref01_Cmp_ok m
  · injection h with h; subst h; exact K_ratio_Floor_ok m
  · injection h with h; subst h; exact K_ref01_Floor_ok m
  · injection h with h; subst h; exact K_ratio_Round_ok m
  · injection h with h; subst h; exact K_ref01_Round_ok m
  · injection h with h; subst h; exact K_law01_awake_ok m
  · cases h
def w_law01_RatioOrders (b : Bool) : List (RV C) := [dBool.e b]
noncomputable def b_law01_RatioOrders {R : Type} (m : Nat) (ret : Bool → Option R) (a_0 : Ratio) (b_1 : Ratio) (n_2 : Int) : Option R :=
 (ratio_Scale m a_0 n_2).bind fun r0 =>
 (ref01_Scale m a_0 n_2).bind fun r1 =>
 bif r0.fst == r1.fst then
 (bif r0.snd == r1.snd then
 ((ratio_Cmp m a_0 b_1).bind fun r2 =>
 (ref01_Cmp m a_0 b_1).bind fun r3 =>
 bif r2 == r3 then
 ((ratio_Floor m a_0).bind fun r4 =>
 (ref01_Floor m a_0).bind fun r5 =>
 bif r4 == r5 then
 ((ratio_Round m a_0).bind fun r6 =>
 (ref01_Round m a_0).bind fun r7 =>
 bif r6 == r7 then
 ((law01_awake m).bind fun r8 =>
 ret r8)
 else
 ret false)
 else
 ret false)
 else
 ret false)
 else
 ret false)
 else
 ret false
theorem law01_RatioOrders_pre (m : Nat) (a_0 : Ratio) (b_1 : Ratio) (n_2 : Int) : funK Tryd.prog (Ψ_law01_RatioOrders m) keep m 1 5 [(dS of_Ratio cells_Ratio of_Ratio_ok).e a_0, (dS of_Ratio cells_Ratio of_Ratio_ok).e b_1, (dInt .i64).e n_2] = b_law01_RatioOrders m (fun x0 => some (w_law01_RatioOrders x0)) a_0 b_1 n_2 := by kernel_rfl
theorem b_law01_RatioOrders_map (m : Nat) (a_0 : Ratio) (b_1 : Ratio) (n_2 : Int) : b_law01_RatioOrders m (fun x0 => some (w_law01_RatioOrders x0)) a_0 b_1 n_2 = (b_law01_RatioOrders m (fun x0 => some x0) a_0 b_1 n_2).map w_law01_RatioOrders := by
  simp only [b_law01_RatioOrders, cond_map, bind_map, map_none, map_some]
noncomputable def law01_RatioOrders (m : Nat) (a_0 : Ratio) (b_1 : Ratio) (n_2 : Int) : Option (Bool) := b_law01_RatioOrders m (fun x0 => some x0) a_0 b_1 n_2
theorem law01_RatioOrders_fun (m : Nat) (a_0 : Ratio) (b_1 : Ratio) (n_2 : Int) : funK Tryd.prog (Ψ_law01_RatioOrders m) keep m 1 5 [(dS of_Ratio cells_Ratio of_Ratio_ok).e a_0, (dS of_Ratio cells_Ratio of_Ratio_ok).e b_1, (dInt .i64).e n_2] = (law01_RatioOrders m a_0 b_1 n_2).map w_law01_RatioOrders := by
  rw [law01_RatioOrders_pre]
  exact b_law01_RatioOrders_map m a_0 b_1 n_2
noncomputable def K_law01_RatioOrders (m : Nat) : KnownF C := mkK (dCons (dS of_Ratio cells_Ratio of_Ratio_ok) (dCons (dS of_Ratio cells_Ratio of_Ratio_ok) (dCons (dInt .i64) dNil))) (fun a => law01_RatioOrders m a.1 a.2.1 a.2.2.1) w_law01_RatioOrders
theorem K_law01_RatioOrders_ok (m : Nat) : KnownAt C Tryd.prog 5 fun l => (K_law01_RatioOrders m).run _ l some :=
  mkK_known good fit (Ψ_law01_RatioOrders_ok m) (keep := keep) (m := m) (d := 1) fun a => law01_RatioOrders_fun m a.1 a.2.1 a.2.2.1
/-! ### signalbench/signalbenchref01.slash -/
def w_ref01_slash (b : Int) : List (RV C) := [(dInt .i64).e b]
noncomputable def Q_ref01_slash_2 (m : Nat) : St C → (Exit → St C → Option (List (RV C))) → Option (List (RV C)) := fun σ k => codeK Tryd.prog Ψ0 (callK Tryd.prog Ψ0 keep m 0) (keep 50) m (subC body50 [.r, .l, .r, .b, .o]) σ k
noncomputable def KL_ref01_slash_2 (m : Nat) : Exit → St C → Option (List (RV C)) := contK Tryd.prog Ψ0 (callK Tryd.prog Ψ0 keep m 0) (keep 50) m body50 [.r, .l, .r, .b, .o] (leaveK Tryd.prog Tryd.f50.results.toList (finK Tryd.prog Tryd.f50.resultTypes.toList))
noncomputable def L_ref01_slash_l2 (m n : Nat) (s_0 : ByteArray) (i_3 : Int) : Option (List (RV C)) := iterK (Q_ref01_slash_2 m) (St.norm (keep 50 2)) n ({ T := [.fl (.one (.str s_0)), .dead, .dead, .fl (.one (.int .i64 i_3))] ++ List.replicate 13 .dead, F := [[]], H := [] } : St C) (KL_ref01_slash_2 m)
noncomputable def b_ref01_slash_l2 {R : Type} (m : Nat) (ret : Int → Option R) (k_l2 : ByteArray → Int → Option R) (s_0 : ByteArray) (i_3 : Int) : Option R :=
 bif decide (i_3 < (s_0.size : Int)) then
 bif decide (0 ≤ i_3) then
 bif decide (i_3 < (s_0.size : Int)) then
 bif byteAt s_0 i_3 == 47 then
 ret i_3
 else
 k_l2 s_0 (IntKind.i64.wrap (i_3 + 1))
 else
 none
 else
 none
 else
 ret (s_0.size : Int)
theorem L_ref01_slash_l2_step (m n : Nat) (s_0 : ByteArray) (i_3 : Int) : L_ref01_slash_l2 m (n + 1) s_0 i_3 = b_ref01_slash_l2 m (fun x0 => some (w_ref01_slash x0)) (fun s_0 i_3 => L_ref01_slash_l2 m n s_0 i_3) s_0 i_3 := by kernel_rfl
theorem b_ref01_slash_l2_map (m : Nat) {k_l2 : ByteArray → Int → Option (List (RV C))} {q_l2 : ByteArray → Int → Option (Int)} (h_l2 : ∀ s_0 i_3, k_l2 s_0 i_3 = (q_l2 s_0 i_3).map w_ref01_slash) (s_0 : ByteArray) (i_3 : Int) : b_ref01_slash_l2 m (fun x0 => some (w_ref01_slash x0)) k_l2 s_0 i_3 = (b_ref01_slash_l2 m (fun x0 => some x0) q_l2 s_0 i_3).map w_ref01_slash := by
  simp only [b_ref01_slash_l2, cond_map, bind_map, map_none, map_some, h_l2]
noncomputable def ref01_slash_l2 (m : Nat) : Nat → ByteArray → Int → Option (Int)
  | 0, _, _ => none
  | n + 1, s_0, i_3 => b_ref01_slash_l2 m (fun x0 => some x0) (fun s_0 i_3 => ref01_slash_l2 m n s_0 i_3) s_0 i_3
theorem L_ref01_slash_l2_eq (m : Nat) : ∀ (n : Nat) (s_0 : ByteArray) (i_3 : Int), L_ref01_slash_l2 m n s_0 i_3 = (ref01_slash_l2 m n s_0 i_3).map w_ref01_slash
  | 0, s_0, i_3 => by kernel_rfl
  | n + 1, s_0, i_3 => by
    rw [L_ref01_slash_l2_step]
    exact b_ref01_slash_l2_map m (fun s_0 i_3 => L_ref01_slash_l2_eq m n s_0 i_3) s_0 i_3
noncomputable def b_ref01_slash {R : Type} (m : Nat) (ret : Int → Option R) (k_l2 : ByteArray → Int → Option R) (s_0 : ByteArray) : Option R :=
 k_l2 s_0 0
theorem ref01_slash_pre (m : Nat) (s_0 : ByteArray) : funK Tryd.prog Ψ0 keep m 1 50 [dStr.e s_0] = b_ref01_slash m (fun x0 => some (w_ref01_slash x0)) (fun s_0 i_3 => L_ref01_slash_l2 m m s_0 i_3) s_0 := by kernel_rfl
theorem b_ref01_slash_map (m : Nat) {k_l2 : ByteArray → Int → Option (List (RV C))} {q_l2 : ByteArray → Int → Option (Int)} (h_l2 : ∀ s_0 i_3, k_l2 s_0 i_3 = (q_l2 s_0 i_3).map w_ref01_slash) (s_0 : ByteArray) : b_ref01_slash m (fun x0 => some (w_ref01_slash x0)) k_l2 s_0 = (b_ref01_slash m (fun x0 => some x0) q_l2 s_0).map w_ref01_slash := by
  simp only [b_ref01_slash, cond_map, bind_map, map_none, map_some, h_l2]
noncomputable def ref01_slash (m : Nat) (s_0 : ByteArray) : Option (Int) := b_ref01_slash m (fun x0 => some x0) (fun s_0 i_3 => ref01_slash_l2 m m s_0 i_3) s_0
theorem ref01_slash_fun (m : Nat) (s_0 : ByteArray) : funK Tryd.prog Ψ0 keep m 1 50 [dStr.e s_0] = (ref01_slash m s_0).map w_ref01_slash := by
  rw [ref01_slash_pre]
  exact b_ref01_slash_map m (fun s_0 i_3 => L_ref01_slash_l2_eq m m s_0 i_3) s_0
noncomputable def K_ref01_slash (m : Nat) : KnownF C := mkK (dCons dStr dNil) (fun a => ref01_slash m a.1) w_ref01_slash
theorem K_ref01_slash_ok (m : Nat) : KnownAt C Tryd.prog 50 fun l => (K_ref01_slash m).run _ l some :=
  mkK_known good fit Ψ0_ok (keep := keep) (m := m) (d := 1) fun a => ref01_slash_fun m a.1
/-! ### signalbench/signalbenchref01.number -/
def w_ref01_number (b : Int × Bool) : List (RV C) := [(dInt .i64).e b.1, dBool.e b.2]
noncomputable def Q_ref01_number_5 (m : Nat) : St C → (Exit → St C → Option (List (RV C))) → Option (List (RV C)) := fun σ k => codeK Tryd.prog Ψ0 (callK Tryd.prog Ψ0 keep m 0) (keep 51) m (subC body51 [.r, .r, .r, .l, .r, .b, .o]) σ k
noncomputable def KL_ref01_number_5 (m : Nat) : Exit → St C → Option (List (RV C)) := contK Tryd.prog Ψ0 (callK Tryd.prog Ψ0 keep m 0) (keep 51) m body51 [.r, .r, .r, .l, .r, .b, .o] (leaveK Tryd.prog Tryd.f51.results.toList (finK Tryd.prog Tryd.f51.resultTypes.toList))
noncomputable def L_ref01_number_l5 (m n : Nat) (s_0 : ByteArray) (n_4 : Int) (i_5 : Int) : Option (List (RV C)) := iterK (Q_ref01_number_5 m) (St.norm (keep 51 5)) n ({ T := [.fl (.one (.str s_0)), .dead, .dead, .dead, .fl (.one (.int .i64 n_4)), .fl (.one (.int .i64 i_5))] ++ List.replicate 41 .dead, F := [[]], H := [] } : St C) (KL_ref01_number_5 m)
noncomputable def b_ref01_number_l5 {R : Type} (m : Nat) (ret : Int → Bool → Option R) (k_l5 : ByteArray → Int → Int → Option R) (s_0 : ByteArray) (n_4 : Int) (i_5 : Int) : Option R :=
 bif decide (i_5 < (s_0.size : Int)) then
 bif decide (0 ≤ i_5) then
 bif decide (i_5 < (s_0.size : Int)) then
 bif decide (byteAt s_0 i_5 < 48) then
 ret 0 false
 else
 bif decide (0 ≤ i_5) then
 bif decide (i_5 < (s_0.size : Int)) then
 bif decide (byteAt s_0 i_5 > 57) then
 ret 0 false
 else
 bif decide (n_4 ≤ 1073741824) then
 bif decide (0 ≤ i_5) then
 bif decide (i_5 < (s_0.size : Int)) then
 k_l5 s_0 (IntKind.i64.wrap (IntKind.i64.wrap (10 * n_4) + IntKind.i64.wrap (IntKind.u8.wrap (byteAt s_0 i_5 - 48)))) (IntKind.i64.wrap (i_5 + 1))
 else
 none
 else
 none
 else
 k_l5 s_0 n_4 (IntKind.i64.wrap (i_5 + 1))
 else
 none
 else
 none
 else
 none
 else
 none
 else
 bif decide (n_4 > 1073741824) then
 ret 1073741825 true
 else
 ret n_4 true
theorem L_ref01_number_l5_step (m n : Nat) (s_0 : ByteArray) (n_4 : Int) (i_5 : Int) : L_ref01_number_l5 m (n + 1) s_0 n_4 i_5 = b_ref01_number_l5 m (fun x0 x1 => some (w_ref01_number (x0, x1))) (fun s_0 n_4 i_5 => L_ref01_number_l5 m n s_0 n_4 i_5) s_0 n_4 i_5 := by kernel_rfl
theorem b_ref01_number_l5_map (m : Nat) {k_l5 : ByteArray → Int → Int → Option (List (RV C))} {q_l5 : ByteArray → Int → Int → Option (Int × Bool)} (h_l5 : ∀ s_0 n_4 i_5, k_l5 s_0 n_4 i_5 = (q_l5 s_0 n_4 i_5).map w_ref01_number) (s_0 : ByteArray) (n_4 : Int) (i_5 : Int) : b_ref01_number_l5 m (fun x0 x1 => some (w_ref01_number (x0, x1))) k_l5 s_0 n_4 i_5 = (b_ref01_number_l5 m (fun x0 x1 => some (x0, x1)) q_l5 s_0 n_4 i_5).map w_ref01_number := by
  simp only [b_ref01_number_l5, cond_map, bind_map, map_none, map_some, h_l5]
noncomputable def ref01_number_l5 (m : Nat) : Nat → ByteArray → Int → Int → Option (Int × Bool)
  | 0, _, _, _ => none
  | n + 1, s_0, n_4, i_5 => b_ref01_number_l5 m (fun x0 x1 => some (x0, x1)) (fun s_0 n_4 i_5 => ref01_number_l5 m n s_0 n_4 i_5) s_0 n_4 i_5
theorem L_ref01_number_l5_eq (m : Nat) : ∀ (n : Nat) (s_0 : ByteArray) (n_4 : Int) (i_5 : Int), L_ref01_number_l5 m n s_0 n_4 i_5 = (ref01_number_l5 m n s_0 n_4 i_5).map w_ref01_number
  | 0, s_0, n_4, i_5 => by kernel_rfl
  | n + 1, s_0, n_4, i_5 => by
    rw [L_ref01_number_l5_step]
    exact b_ref01_number_l5_map m (fun s_0 n_4 i_5 => L_ref01_number_l5_eq m n s_0 n_4 i_5) s_0 n_4 i_5
noncomputable def b_ref01_number {R : Type} (m : Nat) (ret : Int → Bool → Option R) (k_l5 : ByteArray → Int → Int → Option R) (s_0 : ByteArray) : Option R :=
 bif s_0.toList == (bs []).toList then
 ret 0 false
 else
 bif decide (0 < (s_0.size : Int)) then
 bif byteAt s_0 0 == 48 then
 bif decide ((s_0.size : Int) > 1) then
 ret 0 false
 else
 k_l5 s_0 0 0
 else
 k_l5 s_0 0 0
 else
 none
theorem ref01_number_pre (m : Nat) (s_0 : ByteArray) : funK Tryd.prog Ψ0 keep m 1 51 [dStr.e s_0] = b_ref01_number m (fun x0 x1 => some (w_ref01_number (x0, x1))) (fun s_0 n_4 i_5 => L_ref01_number_l5 m m s_0 n_4 i_5) s_0 := by kernel_rfl
theorem b_ref01_number_map (m : Nat) {k_l5 : ByteArray → Int → Int → Option (List (RV C))} {q_l5 : ByteArray → Int → Int → Option (Int × Bool)} (h_l5 : ∀ s_0 n_4 i_5, k_l5 s_0 n_4 i_5 = (q_l5 s_0 n_4 i_5).map w_ref01_number) (s_0 : ByteArray) : b_ref01_number m (fun x0 x1 => some (w_ref01_number (x0, x1))) k_l5 s_0 = (b_ref01_number m (fun x0 x1 => some (x0, x1)) q_l5 s_0).map w_ref01_number := by
  simp only [b_ref01_number, cond_map, bind_map, map_none, map_some, h_l5]
noncomputable def ref01_number (m : Nat) (s_0 : ByteArray) : Option (Int × Bool) := b_ref01_number m (fun x0 x1 => some (x0, x1)) (fun s_0 n_4 i_5 => ref01_number_l5 m m s_0 n_4 i_5) s_0
theorem ref01_number_fun (m : Nat) (s_0 : ByteArray) : funK Tryd.prog Ψ0 keep m 1 51 [dStr.e s_0] = (ref01_number m s_0).map w_ref01_number := by
  rw [ref01_number_pre]
  exact b_ref01_number_map m (fun s_0 n_4 i_5 => L_ref01_number_l5_eq m m s_0 n_4 i_5) s_0
noncomputable def K_ref01_number (m : Nat) : KnownF C := mkK (dCons dStr dNil) (fun a => ref01_number m a.1) w_ref01_number
theorem K_ref01_number_ok (m : Nat) : KnownAt C Tryd.prog 51 fun l => (K_ref01_number m).run _ l some :=
  mkK_known good fit Ψ0_ok (keep := keep) (m := m) (d := 1) fun a => ref01_number_fun m a.1
/-! ### signalbench/signalbenchref01.Parse -/
noncomputable def Ψ_ref01_Parse (m : Nat) : Known C := fun f => match f with
  | 50 => some (K_ref01_slash m)
  | 51 => some (K_ref01_number m)
  | 41 => some (K_ref01_gcd m)
  | _ => none
theorem Ψ_ref01_Parse_ok (m : Nat) : KnownOk C Tryd.prog (Ψ_ref01_Parse m) := by
  intro f φ h
  unfold Ψ_ref01_Parse at h
  split at h
  · injection h with h; subst h; exact K_ref01_slash_ok m
  · injection h with h; subst h; exact K_ref01_number_ok m
  · injection h with h; subst h; exact K_ref01_gcd_ok m
  · cases h
def w_ref01_Parse (b : Ratio × Int) : List (RV C) := [(dS of_Ratio cells_Ratio of_Ratio_ok).e b.1, (dInt .i64).e b.2]
noncomputable def b_ref01_Parse {R : Type} (m : Nat) (ret : Ratio → Int → Option R) (s_0 : ByteArray) : Option R :=
 bif !s_0.toList == (bs []).toList then
 (bif decide (0 < (s_0.size : Int)) then
 (bif byteAt s_0 0 == 45 then
 (bif decide ((s_0.size : Int) ≤ (s_0.size : Int)) then
 (bif decide (1 ≤ (s_0.size : Int)) then
 ((ref01_slash m (s_0.extract 1 ((s_0.size : Int)).toNat)).bind fun r0 =>
 bif decide (0 ≤ r0) then
 (bif decide (r0 ≤ ((s_0.extract 1 ((s_0.size : Int)).toNat).size : Int)) then
 (bif decide (0 ≤ r0) then
 ((ref01_number m ((s_0.extract 1 ((s_0.size : Int)).toNat).extract 0 r0.toNat)).bind fun r1 =>
 bif !r1.snd then
 ret (Ratio.mk 0 0) 4
 else
 bif byteAt s_0 0 == 45 then
 (bif r1.fst == 0 then
 ret (Ratio.mk 0 0) 4
 else
 bif decide (r0 < ((s_0.extract 1 ((s_0.size : Int)).toNat).size : Int)) then
 (bif decide (((s_0.extract 1 ((s_0.size : Int)).toNat).size : Int) ≤ ((s_0.extract 1 ((s_0.size : Int)).toNat).size : Int)) then
 (bif decide (0 ≤ IntKind.i64.wrap (r0 + 1)) then
 (bif decide (IntKind.i64.wrap (r0 + 1) ≤ ((s_0.extract 1 ((s_0.size : Int)).toNat).size : Int)) then
 ((ref01_number m ((s_0.extract 1 ((s_0.size : Int)).toNat).extract (IntKind.i64.wrap (r0 + 1)).toNat (((s_0.extract 1 ((s_0.size : Int)).toNat).size : Int)).toNat)).bind fun r2 =>
 bif !r2.snd then
 ret (Ratio.mk 0 0) 4
 else
 bif decide (r1.fst > 1073741824) then
 ret (Ratio.mk 0 0) 3
 else
 bif decide (r2.fst > 1073741824) then
 ret (Ratio.mk 0 0) 3
 else
 bif decide (r0 < ((s_0.extract 1 ((s_0.size : Int)).toNat).size : Int)) then
 (bif decide (r2.fst < 2) then
 ret (Ratio.mk 0 0) 4
 else
 (ref01_gcd m (IntKind.u64.wrap r1.fst) (IntKind.u64.wrap r2.fst)).bind fun r3 =>
 bif r3 != 1 then
 ret (Ratio.mk 0 0) 4
 else
 bif byteAt s_0 0 == 45 then
 ret (Ratio.mk (IntKind.i64.wrap (0 - r1.fst)) r2.fst) 0
 else
 ret (Ratio.mk r1.fst r2.fst) 0)
 else
 bif byteAt s_0 0 == 45 then
 ret (Ratio.mk (IntKind.i64.wrap (0 - r1.fst)) r2.fst) 0
 else
 ret (Ratio.mk r1.fst r2.fst) 0)
 else
 none)
 else
 none)
 else
 none)
 else
 bif decide (r1.fst > 1073741824) then
 ret (Ratio.mk 0 0) 3
 else
 bif decide (r0 < ((s_0.extract 1 ((s_0.size : Int)).toNat).size : Int)) then
 ret (Ratio.mk 0 0) 4
 else
 bif byteAt s_0 0 == 45 then
 ret (Ratio.mk (IntKind.i64.wrap (0 - r1.fst)) 1) 0
 else
 ret (Ratio.mk r1.fst 1) 0)
 else
 bif decide (r0 < ((s_0.extract 1 ((s_0.size : Int)).toNat).size : Int)) then
 (bif decide (((s_0.extract 1 ((s_0.size : Int)).toNat).size : Int) ≤ ((s_0.extract 1 ((s_0.size : Int)).toNat).size : Int)) then
 (bif decide (0 ≤ IntKind.i64.wrap (r0 + 1)) then
 (bif decide (IntKind.i64.wrap (r0 + 1) ≤ ((s_0.extract 1 ((s_0.size : Int)).toNat).size : Int)) then
 ((ref01_number m ((s_0.extract 1 ((s_0.size : Int)).toNat).extract (IntKind.i64.wrap (r0 + 1)).toNat (((s_0.extract 1 ((s_0.size : Int)).toNat).size : Int)).toNat)).bind fun r4 =>
 bif !r4.snd then
 ret (Ratio.mk 0 0) 4
 else
 bif decide (r1.fst > 1073741824) then
 ret (Ratio.mk 0 0) 3
 else
 bif decide (r4.fst > 1073741824) then
 ret (Ratio.mk 0 0) 3
 else
 bif decide (r0 < ((s_0.extract 1 ((s_0.size : Int)).toNat).size : Int)) then
 (bif decide (r4.fst < 2) then
 ret (Ratio.mk 0 0) 4
 else
 (ref01_gcd m (IntKind.u64.wrap r1.fst) (IntKind.u64.wrap r4.fst)).bind fun r5 =>
 bif r5 != 1 then
 ret (Ratio.mk 0 0) 4
 else
 bif byteAt s_0 0 == 45 then
 ret (Ratio.mk (IntKind.i64.wrap (0 - r1.fst)) r4.fst) 0
 else
 ret (Ratio.mk r1.fst r4.fst) 0)
 else
 bif byteAt s_0 0 == 45 then
 ret (Ratio.mk (IntKind.i64.wrap (0 - r1.fst)) r4.fst) 0
 else
 ret (Ratio.mk r1.fst r4.fst) 0)
 else
 none)
 else
 none)
 else
 none)
 else
 bif decide (r1.fst > 1073741824) then
 ret (Ratio.mk 0 0) 3
 else
 bif decide (r0 < ((s_0.extract 1 ((s_0.size : Int)).toNat).size : Int)) then
 ret (Ratio.mk 0 0) 4
 else
 bif byteAt s_0 0 == 45 then
 ret (Ratio.mk (IntKind.i64.wrap (0 - r1.fst)) 1) 0
 else
 ret (Ratio.mk r1.fst 1) 0)
 else
 none)
 else
 none)
 else
 none)
 else
 none)
 else
 none)
 else
 (ref01_slash m s_0).bind fun r6 =>
 bif decide (0 ≤ r6) then
 (bif decide (r6 ≤ (s_0.size : Int)) then
 (bif decide (0 ≤ r6) then
 ((ref01_number m (s_0.extract 0 r6.toNat)).bind fun r7 =>
 bif !r7.snd then
 ret (Ratio.mk 0 0) 4
 else
 bif byteAt s_0 0 == 45 then
 (bif r7.fst == 0 then
 ret (Ratio.mk 0 0) 4
 else
 bif decide (r6 < (s_0.size : Int)) then
 (bif decide ((s_0.size : Int) ≤ (s_0.size : Int)) then
 (bif decide (0 ≤ IntKind.i64.wrap (r6 + 1)) then
 (bif decide (IntKind.i64.wrap (r6 + 1) ≤ (s_0.size : Int)) then
 ((ref01_number m (s_0.extract (IntKind.i64.wrap (r6 + 1)).toNat ((s_0.size : Int)).toNat)).bind fun r8 =>
 bif !r8.snd then
 ret (Ratio.mk 0 0) 4
 else
 bif decide (r7.fst > 1073741824) then
 ret (Ratio.mk 0 0) 3
 else
 bif decide (r8.fst > 1073741824) then
 ret (Ratio.mk 0 0) 3
 else
 bif decide (r6 < (s_0.size : Int)) then
 (bif decide (r8.fst < 2) then
 ret (Ratio.mk 0 0) 4
 else
 (ref01_gcd m (IntKind.u64.wrap r7.fst) (IntKind.u64.wrap r8.fst)).bind fun r9 =>
 bif r9 != 1 then
 ret (Ratio.mk 0 0) 4
 else
 bif byteAt s_0 0 == 45 then
 ret (Ratio.mk (IntKind.i64.wrap (0 - r7.fst)) r8.fst) 0
 else
 ret (Ratio.mk r7.fst r8.fst) 0)
 else
 bif byteAt s_0 0 == 45 then
 ret (Ratio.mk (IntKind.i64.wrap (0 - r7.fst)) r8.fst) 0
 else
 ret (Ratio.mk r7.fst r8.fst) 0)
 else
 none)
 else
 none)
 else
 none)
 else
 bif decide (r7.fst > 1073741824) then
 ret (Ratio.mk 0 0) 3
 else
 bif decide (r6 < (s_0.size : Int)) then
 ret (Ratio.mk 0 0) 4
 else
 bif byteAt s_0 0 == 45 then
 ret (Ratio.mk (IntKind.i64.wrap (0 - r7.fst)) 1) 0
 else
 ret (Ratio.mk r7.fst 1) 0)
 else
 bif decide (r6 < (s_0.size : Int)) then
 (bif decide ((s_0.size : Int) ≤ (s_0.size : Int)) then
 (bif decide (0 ≤ IntKind.i64.wrap (r6 + 1)) then
 (bif decide (IntKind.i64.wrap (r6 + 1) ≤ (s_0.size : Int)) then
 ((ref01_number m (s_0.extract (IntKind.i64.wrap (r6 + 1)).toNat ((s_0.size : Int)).toNat)).bind fun r10 =>
 bif !r10.snd then
 ret (Ratio.mk 0 0) 4
 else
 bif decide (r7.fst > 1073741824) then
 ret (Ratio.mk 0 0) 3
 else
 bif decide (r10.fst > 1073741824) then
 ret (Ratio.mk 0 0) 3
 else
 bif decide (r6 < (s_0.size : Int)) then
 (bif decide (r10.fst < 2) then
 ret (Ratio.mk 0 0) 4
 else
 (ref01_gcd m (IntKind.u64.wrap r7.fst) (IntKind.u64.wrap r10.fst)).bind fun r11 =>
 bif r11 != 1 then
 ret (Ratio.mk 0 0) 4
 else
 bif byteAt s_0 0 == 45 then
 ret (Ratio.mk (IntKind.i64.wrap (0 - r7.fst)) r10.fst) 0
 else
 ret (Ratio.mk r7.fst r10.fst) 0)
 else
 bif byteAt s_0 0 == 45 then
 ret (Ratio.mk (IntKind.i64.wrap (0 - r7.fst)) r10.fst) 0
 else
 ret (Ratio.mk r7.fst r10.fst) 0)
 else
 none)
 else
 none)
 else
 none)
 else
 bif decide (r7.fst > 1073741824) then
 ret (Ratio.mk 0 0) 3
 else
 bif decide (r6 < (s_0.size : Int)) then
 ret (Ratio.mk 0 0) 4
 else
 bif byteAt s_0 0 == 45 then
 ret (Ratio.mk (IntKind.i64.wrap (0 - r7.fst)) 1) 0
 else
 ret (Ratio.mk r7.fst 1) 0)
 else
 none)
 else
 none)
 else
 none)
 else
 none)
 else
 (ref01_slash m s_0).bind fun r12 =>
 bif decide (0 ≤ r12) then
 (bif decide (r12 ≤ (s_0.size : Int)) then
 (bif decide (0 ≤ r12) then
 ((ref01_number m (s_0.extract 0 r12.toNat)).bind fun r13 =>
 bif !r13.snd then
 ret (Ratio.mk 0 0) 4
 else
 bif decide (r12 < (s_0.size : Int)) then
 (bif decide ((s_0.size : Int) ≤ (s_0.size : Int)) then
 (bif decide (0 ≤ IntKind.i64.wrap (r12 + 1)) then
 (bif decide (IntKind.i64.wrap (r12 + 1) ≤ (s_0.size : Int)) then
 ((ref01_number m (s_0.extract (IntKind.i64.wrap (r12 + 1)).toNat ((s_0.size : Int)).toNat)).bind fun r14 =>
 bif !r14.snd then
 ret (Ratio.mk 0 0) 4
 else
 bif decide (r13.fst > 1073741824) then
 ret (Ratio.mk 0 0) 3
 else
 bif decide (r14.fst > 1073741824) then
 ret (Ratio.mk 0 0) 3
 else
 bif decide (r12 < (s_0.size : Int)) then
 (bif decide (r14.fst < 2) then
 ret (Ratio.mk 0 0) 4
 else
 (ref01_gcd m (IntKind.u64.wrap r13.fst) (IntKind.u64.wrap r14.fst)).bind fun r15 =>
 bif r15 != 1 then
 ret (Ratio.mk 0 0) 4
 else
 ret (Ratio.mk r13.fst r14.fst) 0)
 else
 ret (Ratio.mk r13.fst r14.fst) 0)
 else
 none)
 else
 none)
 else
 none)
 else
 bif decide (r13.fst > 1073741824) then
 ret (Ratio.mk 0 0) 3
 else
 bif decide (r12 < (s_0.size : Int)) then
 ret (Ratio.mk 0 0) 4
 else
 ret (Ratio.mk r13.fst 1) 0)
 else
 none)
 else
 none)
 else
 none
theorem ref01_Parse_pre (m : Nat) (s_0 : ByteArray) : funK Tryd.prog (Ψ_ref01_Parse m) keep m 1 28 [dStr.e s_0] = b_ref01_Parse m (fun x0 x1 => some (w_ref01_Parse (x0, x1))) s_0 := by kernel_rfl
theorem b_ref01_Parse_map (m : Nat) (s_0 : ByteArray) : b_ref01_Parse m (fun x0 x1 => some (w_ref01_Parse (x0, x1))) s_0 = (b_ref01_Parse m (fun x0 x1 => some (x0, x1)) s_0).map w_ref01_Parse := by
  simp only [b_ref01_Parse, cond_map, bind_map, map_none, map_some]
noncomputable def ref01_Parse (m : Nat) (s_0 : ByteArray) : Option (Ratio × Int) := b_ref01_Parse m (fun x0 x1 => some (x0, x1)) s_0
theorem ref01_Parse_fun (m : Nat) (s_0 : ByteArray) : funK Tryd.prog (Ψ_ref01_Parse m) keep m 1 28 [dStr.e s_0] = (ref01_Parse m s_0).map w_ref01_Parse := by
  rw [ref01_Parse_pre]
  exact b_ref01_Parse_map m s_0
noncomputable def K_ref01_Parse (m : Nat) : KnownF C := mkK (dCons dStr dNil) (fun a => ref01_Parse m a.1) w_ref01_Parse
theorem K_ref01_Parse_ok (m : Nat) : KnownAt C Tryd.prog 28 fun l => (K_ref01_Parse m).run _ l some :=
  mkK_known good fit (Ψ_ref01_Parse_ok m) (keep := keep) (m := m) (d := 1) fun a => ref01_Parse_fun m a.1
/-! ### signalbench/signalbenchlaw01.RatioParses -/
noncomputable def Ψ_law01_RatioParses (m : Nat) : Known C := fun f => match f with
  | 16 => some (K_law01_awake m)
  | 27 => some (K_ratio_Parse m)
  | 28 => some (K_ref01_Parse m)
  | _ => none
theorem Ψ_law01_RatioParses_ok (m : Nat) : KnownOk C Tryd.prog (Ψ_law01_RatioParses m) := by
  intro f φ h
  unfold Ψ_law01_RatioParses at h
  split at h
  · injection h with h; subst h; exact K_law01_awake_ok m
  · injection h with h; subst h; exact K_ratio_Parse_ok m
  · injection h with h; subst h; exact K_ref01_Parse_ok m
  · cases h
def w_law01_RatioParses (b : Bool) : List (RV C) := [dBool.e b]
noncomputable def b_law01_RatioParses {R : Type} (m : Nat) (ret : Bool → Option R) (s_0 : ByteArray) : Option R :=
 bif decide ((s_0.size : Int) > 200) then
 ((law01_awake m).bind fun r0 =>
 ret r0)
 else
 (ratio_Parse m s_0).bind fun r1 =>
 (ref01_Parse m s_0).bind fun r2 =>
 bif r1.fst.Num == r2.fst.Num && (r1.fst.Den == r2.fst.Den && true) then
 (bif r1.snd == r2.snd then
 ((law01_awake m).bind fun r3 =>
 ret r3)
 else
 ret false)
 else
 ret false
theorem law01_RatioParses_pre (m : Nat) (s_0 : ByteArray) : funK Tryd.prog (Ψ_law01_RatioParses m) keep m 1 6 [dStr.e s_0] = b_law01_RatioParses m (fun x0 => some (w_law01_RatioParses x0)) s_0 := by kernel_rfl
theorem b_law01_RatioParses_map (m : Nat) (s_0 : ByteArray) : b_law01_RatioParses m (fun x0 => some (w_law01_RatioParses x0)) s_0 = (b_law01_RatioParses m (fun x0 => some x0) s_0).map w_law01_RatioParses := by
  simp only [b_law01_RatioParses, cond_map, bind_map, map_none, map_some]
noncomputable def law01_RatioParses (m : Nat) (s_0 : ByteArray) : Option (Bool) := b_law01_RatioParses m (fun x0 => some x0) s_0
theorem law01_RatioParses_fun (m : Nat) (s_0 : ByteArray) : funK Tryd.prog (Ψ_law01_RatioParses m) keep m 1 6 [dStr.e s_0] = (law01_RatioParses m s_0).map w_law01_RatioParses := by
  rw [law01_RatioParses_pre]
  exact b_law01_RatioParses_map m s_0
noncomputable def K_law01_RatioParses (m : Nat) : KnownF C := mkK (dCons dStr dNil) (fun a => law01_RatioParses m a.1) w_law01_RatioParses
theorem K_law01_RatioParses_ok (m : Nat) : KnownAt C Tryd.prog 6 fun l => (K_law01_RatioParses m).run _ l some :=
  mkK_known good fit (Ψ_law01_RatioParses_ok m) (keep := keep) (m := m) (d := 1) fun a => law01_RatioParses_fun m a.1
/-! ### signalbench/signalbenchlaw01.RatioTexts -/
noncomputable def Ψ_law01_RatioTexts (m : Nat) : Known C := fun f => match f with
  | 16 => some (K_law01_awake m)
  | 14 => some (K_ratio_Text m)
  | 12 => some (K_ratio_Valid m)
  | 27 => some (K_ratio_Parse m)
  | _ => none
theorem Ψ_law01_RatioTexts_ok (m : Nat) : KnownOk C Tryd.prog (Ψ_law01_RatioTexts m) := by
  intro f φ h
  unfold Ψ_law01_RatioTexts at h
  split at h
  · injection h with h; subst h; exact K_law01_awake_ok m
  · injection h with h; subst h; exact K_ratio_Text_ok m
  · injection h with h; subst h; exact K_ratio_Valid_ok m
  · injection h with h; subst h; exact K_ratio_Parse_ok m
  · cases h
def w_law01_RatioTexts (b : Bool) : List (RV C) := [dBool.e b]
noncomputable def b_law01_RatioTexts {R : Type} (m : Nat) (ret : Bool → Option R) (r_0 : Ratio) (s_1 : ByteArray) : Option R :=
 bif decide ((s_1.size : Int) > 200) then
 ((law01_awake m).bind fun r0 =>
 ret r0)
 else
 (ratio_Text m r_0).bind fun r1 =>
 (ratio_Valid m r_0).bind fun r2 =>
 bif !(!r1.toList == (bs []).toList) == r2 then
 ret false
 else
 bif !r1.toList == (bs []).toList then
 ((ratio_Parse m r1).bind fun r3 =>
 bif r3.snd != 0 then
 ret false
 else
 bif !(r3.fst.Num == r_0.Num && (r3.fst.Den == r_0.Den && true)) then
 ret false
 else
 (ratio_Parse m s_1).bind fun r4 =>
 bif r4.snd != 0 then
 ((law01_awake m).bind fun r5 =>
 ret r5)
 else
 (ratio_Valid m r4.fst).bind fun r6 =>
 bif r6 then
 ((ratio_Text m r4.fst).bind fun r7 =>
 bif r7.toList == s_1.toList then
 ((law01_awake m).bind fun r8 =>
 ret r8)
 else
 ret false)
 else
 ret false)
 else
 (ratio_Parse m s_1).bind fun r9 =>
 bif r9.snd != 0 then
 ((law01_awake m).bind fun r10 =>
 ret r10)
 else
 (ratio_Valid m r9.fst).bind fun r11 =>
 bif r11 then
 ((ratio_Text m r9.fst).bind fun r12 =>
 bif r12.toList == s_1.toList then
 ((law01_awake m).bind fun r13 =>
 ret r13)
 else
 ret false)
 else
 ret false
theorem law01_RatioTexts_pre (m : Nat) (r_0 : Ratio) (s_1 : ByteArray) : funK Tryd.prog (Ψ_law01_RatioTexts m) keep m 1 7 [(dS of_Ratio cells_Ratio of_Ratio_ok).e r_0, dStr.e s_1] = b_law01_RatioTexts m (fun x0 => some (w_law01_RatioTexts x0)) r_0 s_1 := by kernel_rfl
theorem b_law01_RatioTexts_map (m : Nat) (r_0 : Ratio) (s_1 : ByteArray) : b_law01_RatioTexts m (fun x0 => some (w_law01_RatioTexts x0)) r_0 s_1 = (b_law01_RatioTexts m (fun x0 => some x0) r_0 s_1).map w_law01_RatioTexts := by
  simp only [b_law01_RatioTexts, cond_map, bind_map, map_none, map_some]
noncomputable def law01_RatioTexts (m : Nat) (r_0 : Ratio) (s_1 : ByteArray) : Option (Bool) := b_law01_RatioTexts m (fun x0 => some x0) r_0 s_1
theorem law01_RatioTexts_fun (m : Nat) (r_0 : Ratio) (s_1 : ByteArray) : funK Tryd.prog (Ψ_law01_RatioTexts m) keep m 1 7 [(dS of_Ratio cells_Ratio of_Ratio_ok).e r_0, dStr.e s_1] = (law01_RatioTexts m r_0 s_1).map w_law01_RatioTexts := by
  rw [law01_RatioTexts_pre]
  exact b_law01_RatioTexts_map m r_0 s_1
noncomputable def K_law01_RatioTexts (m : Nat) : KnownF C := mkK (dCons (dS of_Ratio cells_Ratio of_Ratio_ok) (dCons dStr dNil)) (fun a => law01_RatioTexts m a.1 a.2.1) w_law01_RatioTexts
theorem K_law01_RatioTexts_ok (m : Nat) : KnownAt C Tryd.prog 7 fun l => (K_law01_RatioTexts m).run _ l some :=
  mkK_known good fit (Ψ_law01_RatioTexts_ok m) (keep := keep) (m := m) (d := 1) fun a => law01_RatioTexts_fun m a.1 a.2.1
/-! ### signalbench/signalbenchlaw01.RatioBounds -/
noncomputable def Ψ_law01_RatioBounds (m : Nat) : Known C := fun f => match f with
  | 13 => some (K_ref01_Valid m)
  | 16 => some (K_law01_awake m)
  | 23 => some (K_ratio_Floor m)
  | 25 => some (K_ratio_Round m)
  | 19 => some (K_ratio_Scale m)
  | _ => none
theorem Ψ_law01_RatioBounds_ok (m : Nat) : KnownOk C Tryd.prog (Ψ_law01_RatioBounds m) := by
  intro f φ h
  unfold Ψ_law01_RatioBounds at h
  split at h
  · injection h with h; subst h; exact K_ref01_Valid_ok m
  · injection h with h; subst h; exact K_law01_awake_ok m
  · injection h with h; subst h; exact K_ratio_Floor_ok m
  · injection h with h; subst h; exact K_ratio_Round_ok m
  · injection h with h; subst h; exact K_ratio_Scale_ok m
  · cases h
def w_law01_RatioBounds (b : Bool) : List (RV C) := [dBool.e b]
noncomputable def b_law01_RatioBounds {R : Type} (m : Nat) (ret : Bool → Option R) (r_0 : Ratio) (n_1 : Int) : Option R :=
 (ref01_Valid m r_0).bind fun r0 =>
 bif !r0 then
 ((law01_awake m).bind fun r1 =>
 ret r1)
 else
 bif decide (n_1 < -4294967296) then
 ((law01_awake m).bind fun r2 =>
 ret r2)
 else
 bif decide (n_1 > 4294967296) then
 ((law01_awake m).bind fun r3 =>
 ret r3)
 else
 (ratio_Floor m r_0).bind fun r4 =>
 (ratio_Round m r_0).bind fun r5 =>
 (ratio_Scale m r_0 n_1).bind fun r6 =>
 bif decide (r4 < -2147483648) then
 ret false
 else
 bif decide (r4 > 2147483648) then
 ret false
 else
 bif decide (r5 < -2147483648) then
 ret false
 else
 bif decide (r5 > 2147483648) then
 ret false
 else
 bif decide (IntKind.i64.wrap (r4 * r_0.Den) > r_0.Num) then
 ret false
 else
 bif decide (IntKind.i64.wrap (r_0.Num - IntKind.i64.wrap (r4 * r_0.Den)) ≥ r_0.Den) then
 ret false
 else
 bif decide (IntKind.i64.wrap (IntKind.i64.wrap (2 * r5) * r_0.Den) > IntKind.i64.wrap (IntKind.i64.wrap (2 * r_0.Num) + r_0.Den)) then
 ret false
 else
 bif decide (IntKind.i64.wrap (IntKind.i64.wrap (IntKind.i64.wrap (2 * r_0.Num) + r_0.Den) - IntKind.i64.wrap (IntKind.i64.wrap (2 * r5) * r_0.Den)) ≥ IntKind.i64.wrap (2 * r_0.Den)) then
 ret false
 else
 bif r6.snd == 0 then
 (bif decide (IntKind.i64.wrap (IntKind.i64.wrap (r_0.Num * n_1) - IntKind.i64.wrap (r6.fst * r_0.Den)) ≥ 0) then
 (bif decide (IntKind.i64.wrap (IntKind.i64.wrap (r_0.Num * n_1) - IntKind.i64.wrap (r6.fst * r_0.Den)) < r_0.Den) then
 ((law01_awake m).bind fun r7 =>
 ret r7)
 else
 ret false)
 else
 ret false)
 else
 ret false
theorem law01_RatioBounds_pre (m : Nat) (r_0 : Ratio) (n_1 : Int) : funK Tryd.prog (Ψ_law01_RatioBounds m) keep m 1 8 [(dS of_Ratio cells_Ratio of_Ratio_ok).e r_0, (dInt .i64).e n_1] = b_law01_RatioBounds m (fun x0 => some (w_law01_RatioBounds x0)) r_0 n_1 := by kernel_rfl
theorem b_law01_RatioBounds_map (m : Nat) (r_0 : Ratio) (n_1 : Int) : b_law01_RatioBounds m (fun x0 => some (w_law01_RatioBounds x0)) r_0 n_1 = (b_law01_RatioBounds m (fun x0 => some x0) r_0 n_1).map w_law01_RatioBounds := by
  simp only [b_law01_RatioBounds, cond_map, bind_map, map_none, map_some]
noncomputable def law01_RatioBounds (m : Nat) (r_0 : Ratio) (n_1 : Int) : Option (Bool) := b_law01_RatioBounds m (fun x0 => some x0) r_0 n_1
theorem law01_RatioBounds_fun (m : Nat) (r_0 : Ratio) (n_1 : Int) : funK Tryd.prog (Ψ_law01_RatioBounds m) keep m 1 8 [(dS of_Ratio cells_Ratio of_Ratio_ok).e r_0, (dInt .i64).e n_1] = (law01_RatioBounds m r_0 n_1).map w_law01_RatioBounds := by
  rw [law01_RatioBounds_pre]
  exact b_law01_RatioBounds_map m r_0 n_1
noncomputable def K_law01_RatioBounds (m : Nat) : KnownF C := mkK (dCons (dS of_Ratio cells_Ratio of_Ratio_ok) (dCons (dInt .i64) dNil)) (fun a => law01_RatioBounds m a.1 a.2.1) w_law01_RatioBounds
theorem K_law01_RatioBounds_ok (m : Nat) : KnownAt C Tryd.prog 8 fun l => (K_law01_RatioBounds m).run _ l some :=
  mkK_known good fit (Ψ_law01_RatioBounds_ok m) (keep := keep) (m := m) (d := 1) fun a => law01_RatioBounds_fun m a.1 a.2.1
/-! ### signalbench/ratio.Add -/
noncomputable def Ψ_ratio_Add (m : Nat) : Known C := fun f => match f with
  | 48 => some (K_ratio_both m)
  | 17 => some (K_ratio_Make m)
  | _ => none
theorem Ψ_ratio_Add_ok (m : Nat) : KnownOk C Tryd.prog (Ψ_ratio_Add m) := by
  intro f φ h
  unfold Ψ_ratio_Add at h
  split at h
  · injection h with h; subst h; exact K_ratio_both_ok m
  · injection h with h; subst h; exact K_ratio_Make_ok m
  · cases h
def w_ratio_Add (b : Ratio × Int) : List (RV C) := [(dS of_Ratio cells_Ratio of_Ratio_ok).e b.1, (dInt .i64).e b.2]
noncomputable def b_ratio_Add {R : Type} (m : Nat) (ret : Ratio → Int → Option R) (a_0 : Ratio) (b_1 : Ratio) : Option R :=
 (ratio_both m a_0 b_1).bind fun r0 =>
 bif !r0 then
 ret (Ratio.mk 0 0) 1
 else
 (ratio_Make m (IntKind.i64.wrap (IntKind.i64.wrap (a_0.Num * b_1.Den) + IntKind.i64.wrap (b_1.Num * a_0.Den))) (IntKind.i64.wrap (a_0.Den * b_1.Den))).bind fun r1 =>
 ret r1.fst r1.snd
theorem ratio_Add_pre (m : Nat) (a_0 : Ratio) (b_1 : Ratio) : funK Tryd.prog (Ψ_ratio_Add m) keep m 1 29 [(dS of_Ratio cells_Ratio of_Ratio_ok).e a_0, (dS of_Ratio cells_Ratio of_Ratio_ok).e b_1] = b_ratio_Add m (fun x0 x1 => some (w_ratio_Add (x0, x1))) a_0 b_1 := by kernel_rfl
theorem b_ratio_Add_map (m : Nat) (a_0 : Ratio) (b_1 : Ratio) : b_ratio_Add m (fun x0 x1 => some (w_ratio_Add (x0, x1))) a_0 b_1 = (b_ratio_Add m (fun x0 x1 => some (x0, x1)) a_0 b_1).map w_ratio_Add := by
  simp only [b_ratio_Add, cond_map, bind_map, map_none, map_some]
noncomputable def ratio_Add (m : Nat) (a_0 : Ratio) (b_1 : Ratio) : Option (Ratio × Int) := b_ratio_Add m (fun x0 x1 => some (x0, x1)) a_0 b_1
theorem ratio_Add_fun (m : Nat) (a_0 : Ratio) (b_1 : Ratio) : funK Tryd.prog (Ψ_ratio_Add m) keep m 1 29 [(dS of_Ratio cells_Ratio of_Ratio_ok).e a_0, (dS of_Ratio cells_Ratio of_Ratio_ok).e b_1] = (ratio_Add m a_0 b_1).map w_ratio_Add := by
  rw [ratio_Add_pre]
  exact b_ratio_Add_map m a_0 b_1
noncomputable def K_ratio_Add (m : Nat) : KnownF C := mkK (dCons (dS of_Ratio cells_Ratio of_Ratio_ok) (dCons (dS of_Ratio cells_Ratio of_Ratio_ok) dNil)) (fun a => ratio_Add m a.1 a.2.1) w_ratio_Add
theorem K_ratio_Add_ok (m : Nat) : KnownAt C Tryd.prog 29 fun l => (K_ratio_Add m).run _ l some :=
  mkK_known good fit (Ψ_ratio_Add_ok m) (keep := keep) (m := m) (d := 1) fun a => ratio_Add_fun m a.1 a.2.1
/-! ### signalbench/signalbenchref01.Add -/
noncomputable def Ψ_ref01_Add (m : Nat) : Known C := fun f => match f with
  | 13 => some (K_ref01_Valid m)
  | 18 => some (K_ref01_Make m)
  | _ => none
theorem Ψ_ref01_Add_ok (m : Nat) : KnownOk C Tryd.prog (Ψ_ref01_Add m) := by
  intro f φ h
  unfold Ψ_ref01_Add at h
  split at h
  · injection h with h; subst h; exact K_ref01_Valid_ok m
  · injection h with h; subst h; exact K_ref01_Make_ok m
  · cases h
def w_ref01_Add (b : Ratio × Int) : List (RV C) := [(dS of_Ratio cells_Ratio of_Ratio_ok).e b.1, (dInt .i64).e b.2]
noncomputable def b_ref01_Add {R : Type} (m : Nat) (ret : Ratio → Int → Option R) (a_0 : Ratio) (b_1 : Ratio) : Option R :=
 (ref01_Valid m a_0).bind fun r0 =>
 bif !r0 then
 ret (Ratio.mk 0 0) 1
 else
 (ref01_Valid m b_1).bind fun r1 =>
 bif !r1 then
 ret (Ratio.mk 0 0) 1
 else
 (ref01_Make m (IntKind.i64.wrap (IntKind.i64.wrap (a_0.Num * b_1.Den) + IntKind.i64.wrap (b_1.Num * a_0.Den))) (IntKind.i64.wrap (a_0.Den * b_1.Den))).bind fun r2 =>
 ret r2.fst r2.snd
theorem ref01_Add_pre (m : Nat) (a_0 : Ratio) (b_1 : Ratio) : funK Tryd.prog (Ψ_ref01_Add m) keep m 1 30 [(dS of_Ratio cells_Ratio of_Ratio_ok).e a_0, (dS of_Ratio cells_Ratio of_Ratio_ok).e b_1] = b_ref01_Add m (fun x0 x1 => some (w_ref01_Add (x0, x1))) a_0 b_1 := by kernel_rfl
theorem b_ref01_Add_map (m : Nat) (a_0 : Ratio) (b_1 : Ratio) : b_ref01_Add m (fun x0 x1 => some (w_ref01_Add (x0, x1))) a_0 b_1 = (b_ref01_Add m (fun x0 x1 => some (x0, x1)) a_0 b_1).map w_ref01_Add := by
  simp only [b_ref01_Add, cond_map, bind_map, map_none, map_some]
noncomputable def ref01_Add (m : Nat) (a_0 : Ratio) (b_1 : Ratio) : Option (Ratio × Int) := b_ref01_Add m (fun x0 x1 => some (x0, x1)) a_0 b_1
theorem ref01_Add_fun (m : Nat) (a_0 : Ratio) (b_1 : Ratio) : funK Tryd.prog (Ψ_ref01_Add m) keep m 1 30 [(dS of_Ratio cells_Ratio of_Ratio_ok).e a_0, (dS of_Ratio cells_Ratio of_Ratio_ok).e b_1] = (ref01_Add m a_0 b_1).map w_ref01_Add := by
  rw [ref01_Add_pre]
  exact b_ref01_Add_map m a_0 b_1
noncomputable def K_ref01_Add (m : Nat) : KnownF C := mkK (dCons (dS of_Ratio cells_Ratio of_Ratio_ok) (dCons (dS of_Ratio cells_Ratio of_Ratio_ok) dNil)) (fun a => ref01_Add m a.1 a.2.1) w_ref01_Add
theorem K_ref01_Add_ok (m : Nat) : KnownAt C Tryd.prog 30 fun l => (K_ref01_Add m).run _ l some :=
  mkK_known good fit (Ψ_ref01_Add_ok m) (keep := keep) (m := m) (d := 1) fun a => ref01_Add_fun m a.1 a.2.1
/-! ### signalbench/ratio.Sub -/
noncomputable def Ψ_ratio_Sub (m : Nat) : Known C := fun f => match f with
  | 48 => some (K_ratio_both m)
  | 17 => some (K_ratio_Make m)
  | _ => none
theorem Ψ_ratio_Sub_ok (m : Nat) : KnownOk C Tryd.prog (Ψ_ratio_Sub m) := by
  intro f φ h
  unfold Ψ_ratio_Sub at h
  split at h
  · injection h with h; subst h; exact K_ratio_both_ok m
  · injection h with h; subst h; exact K_ratio_Make_ok m
  · cases h
def w_ratio_Sub (b : Ratio × Int) : List (RV C) := [(dS of_Ratio cells_Ratio of_Ratio_ok).e b.1, (dInt .i64).e b.2]
noncomputable def b_ratio_Sub {R : Type} (m : Nat) (ret : Ratio → Int → Option R) (a_0 : Ratio) (b_1 : Ratio) : Option R :=
 (ratio_both m a_0 b_1).bind fun r0 =>
 bif !r0 then
 ret (Ratio.mk 0 0) 1
 else
 (ratio_Make m (IntKind.i64.wrap (IntKind.i64.wrap (a_0.Num * b_1.Den) - IntKind.i64.wrap (b_1.Num * a_0.Den))) (IntKind.i64.wrap (a_0.Den * b_1.Den))).bind fun r1 =>
 ret r1.fst r1.snd
theorem ratio_Sub_pre (m : Nat) (a_0 : Ratio) (b_1 : Ratio) : funK Tryd.prog (Ψ_ratio_Sub m) keep m 1 31 [(dS of_Ratio cells_Ratio of_Ratio_ok).e a_0, (dS of_Ratio cells_Ratio of_Ratio_ok).e b_1] = b_ratio_Sub m (fun x0 x1 => some (w_ratio_Sub (x0, x1))) a_0 b_1 := by kernel_rfl
theorem b_ratio_Sub_map (m : Nat) (a_0 : Ratio) (b_1 : Ratio) : b_ratio_Sub m (fun x0 x1 => some (w_ratio_Sub (x0, x1))) a_0 b_1 = (b_ratio_Sub m (fun x0 x1 => some (x0, x1)) a_0 b_1).map w_ratio_Sub := by
  simp only [b_ratio_Sub, cond_map, bind_map, map_none, map_some]
noncomputable def ratio_Sub (m : Nat) (a_0 : Ratio) (b_1 : Ratio) : Option (Ratio × Int) := b_ratio_Sub m (fun x0 x1 => some (x0, x1)) a_0 b_1
theorem ratio_Sub_fun (m : Nat) (a_0 : Ratio) (b_1 : Ratio) : funK Tryd.prog (Ψ_ratio_Sub m) keep m 1 31 [(dS of_Ratio cells_Ratio of_Ratio_ok).e a_0, (dS of_Ratio cells_Ratio of_Ratio_ok).e b_1] = (ratio_Sub m a_0 b_1).map w_ratio_Sub := by
  rw [ratio_Sub_pre]
  exact b_ratio_Sub_map m a_0 b_1
noncomputable def K_ratio_Sub (m : Nat) : KnownF C := mkK (dCons (dS of_Ratio cells_Ratio of_Ratio_ok) (dCons (dS of_Ratio cells_Ratio of_Ratio_ok) dNil)) (fun a => ratio_Sub m a.1 a.2.1) w_ratio_Sub
theorem K_ratio_Sub_ok (m : Nat) : KnownAt C Tryd.prog 31 fun l => (K_ratio_Sub m).run _ l some :=
  mkK_known good fit (Ψ_ratio_Sub_ok m) (keep := keep) (m := m) (d := 1) fun a => ratio_Sub_fun m a.1 a.2.1
/-! ### signalbench/signalbenchref01.Sub -/
noncomputable def Ψ_ref01_Sub (m : Nat) : Known C := fun f => match f with
  | 13 => some (K_ref01_Valid m)
  | 18 => some (K_ref01_Make m)
  | _ => none
theorem Ψ_ref01_Sub_ok (m : Nat) : KnownOk C Tryd.prog (Ψ_ref01_Sub m) := by
  intro f φ h
  unfold Ψ_ref01_Sub at h
  split at h
  · injection h with h; subst h; exact K_ref01_Valid_ok m
  · injection h with h; subst h; exact K_ref01_Make_ok m
  · cases h
def w_ref01_Sub (b : Ratio × Int) : List (RV C) := [(dS of_Ratio cells_Ratio of_Ratio_ok).e b.1, (dInt .i64).e b.2]
noncomputable def b_ref01_Sub {R : Type} (m : Nat) (ret : Ratio → Int → Option R) (a_0 : Ratio) (b_1 : Ratio) : Option R :=
 (ref01_Valid m a_0).bind fun r0 =>
 bif !r0 then
 ret (Ratio.mk 0 0) 1
 else
 (ref01_Valid m b_1).bind fun r1 =>
 bif !r1 then
 ret (Ratio.mk 0 0) 1
 else
 (ref01_Make m (IntKind.i64.wrap (IntKind.i64.wrap (a_0.Num * b_1.Den) - IntKind.i64.wrap (b_1.Num * a_0.Den))) (IntKind.i64.wrap (a_0.Den * b_1.Den))).bind fun r2 =>
 ret r2.fst r2.snd
theorem ref01_Sub_pre (m : Nat) (a_0 : Ratio) (b_1 : Ratio) : funK Tryd.prog (Ψ_ref01_Sub m) keep m 1 32 [(dS of_Ratio cells_Ratio of_Ratio_ok).e a_0, (dS of_Ratio cells_Ratio of_Ratio_ok).e b_1] = b_ref01_Sub m (fun x0 x1 => some (w_ref01_Sub (x0, x1))) a_0 b_1 := by kernel_rfl
theorem b_ref01_Sub_map (m : Nat) (a_0 : Ratio) (b_1 : Ratio) : b_ref01_Sub m (fun x0 x1 => some (w_ref01_Sub (x0, x1))) a_0 b_1 = (b_ref01_Sub m (fun x0 x1 => some (x0, x1)) a_0 b_1).map w_ref01_Sub := by
  simp only [b_ref01_Sub, cond_map, bind_map, map_none, map_some]
noncomputable def ref01_Sub (m : Nat) (a_0 : Ratio) (b_1 : Ratio) : Option (Ratio × Int) := b_ref01_Sub m (fun x0 x1 => some (x0, x1)) a_0 b_1
theorem ref01_Sub_fun (m : Nat) (a_0 : Ratio) (b_1 : Ratio) : funK Tryd.prog (Ψ_ref01_Sub m) keep m 1 32 [(dS of_Ratio cells_Ratio of_Ratio_ok).e a_0, (dS of_Ratio cells_Ratio of_Ratio_ok).e b_1] = (ref01_Sub m a_0 b_1).map w_ref01_Sub := by
  rw [ref01_Sub_pre]
  exact b_ref01_Sub_map m a_0 b_1
noncomputable def K_ref01_Sub (m : Nat) : KnownF C := mkK (dCons (dS of_Ratio cells_Ratio of_Ratio_ok) (dCons (dS of_Ratio cells_Ratio of_Ratio_ok) dNil)) (fun a => ref01_Sub m a.1 a.2.1) w_ref01_Sub
theorem K_ref01_Sub_ok (m : Nat) : KnownAt C Tryd.prog 32 fun l => (K_ref01_Sub m).run _ l some :=
  mkK_known good fit (Ψ_ref01_Sub_ok m) (keep := keep) (m := m) (d := 1) fun a => ref01_Sub_fun m a.1 a.2.1
/-! ### signalbench/signalbenchlaw01.RatioSums -/
noncomputable def Ψ_law01_RatioSums (m : Nat) : Known C := fun f => match f with
  | 29 => some (K_ratio_Add m)
  | 30 => some (K_ref01_Add m)
  | 31 => some (K_ratio_Sub m)
  | 32 => some (K_ref01_Sub m)
  | 16 => some (K_law01_awake m)
  | _ => none
theorem Ψ_law01_RatioSums_ok (m : Nat) : KnownOk C Tryd.prog (Ψ_law01_RatioSums m) := by
  intro f φ h
  unfold Ψ_law01_RatioSums at h
  split at h
  · injection h with h; subst h; exact K_ratio_Add_ok m
  · injection h with h; subst h; exact K_ref01_Add_ok m
  · injection h with h; subst h; exact K_ratio_Sub_ok m
  · injection h with h; subst h; exact K_ref01_Sub_ok m
  · injection h with h; subst h; exact K_law01_awake_ok m
  · cases h
def w_law01_RatioSums (b : Bool) : List (RV C) := [dBool.e b]
noncomputable def b_law01_RatioSums {R : Type} (m : Nat) (ret : Bool → Option R) (a_0 : Ratio) (b_1 : Ratio) : Option R :=
 (ratio_Add m a_0 b_1).bind fun r0 =>
 (ref01_Add m a_0 b_1).bind fun r1 =>
 (ratio_Sub m a_0 b_1).bind fun r2 =>
 (ref01_Sub m a_0 b_1).bind fun r3 =>
 bif r0.fst.Num == r1.fst.Num && (r0.fst.Den == r1.fst.Den && true) then
 (bif r0.snd == r1.snd then
 (bif r2.fst.Num == r3.fst.Num && (r2.fst.Den == r3.fst.Den && true) then
 (bif r2.snd == r3.snd then
 ((law01_awake m).bind fun r4 =>
 ret r4)
 else
 ret false)
 else
 ret false)
 else
 ret false)
 else
 ret false
theorem law01_RatioSums_pre (m : Nat) (a_0 : Ratio) (b_1 : Ratio) : funK Tryd.prog (Ψ_law01_RatioSums m) keep m 1 9 [(dS of_Ratio cells_Ratio of_Ratio_ok).e a_0, (dS of_Ratio cells_Ratio of_Ratio_ok).e b_1] = b_law01_RatioSums m (fun x0 => some (w_law01_RatioSums x0)) a_0 b_1 := by kernel_rfl
theorem b_law01_RatioSums_map (m : Nat) (a_0 : Ratio) (b_1 : Ratio) : b_law01_RatioSums m (fun x0 => some (w_law01_RatioSums x0)) a_0 b_1 = (b_law01_RatioSums m (fun x0 => some x0) a_0 b_1).map w_law01_RatioSums := by
  simp only [b_law01_RatioSums, cond_map, bind_map, map_none, map_some]
noncomputable def law01_RatioSums (m : Nat) (a_0 : Ratio) (b_1 : Ratio) : Option (Bool) := b_law01_RatioSums m (fun x0 => some x0) a_0 b_1
theorem law01_RatioSums_fun (m : Nat) (a_0 : Ratio) (b_1 : Ratio) : funK Tryd.prog (Ψ_law01_RatioSums m) keep m 1 9 [(dS of_Ratio cells_Ratio of_Ratio_ok).e a_0, (dS of_Ratio cells_Ratio of_Ratio_ok).e b_1] = (law01_RatioSums m a_0 b_1).map w_law01_RatioSums := by
  rw [law01_RatioSums_pre]
  exact b_law01_RatioSums_map m a_0 b_1
noncomputable def K_law01_RatioSums (m : Nat) : KnownF C := mkK (dCons (dS of_Ratio cells_Ratio of_Ratio_ok) (dCons (dS of_Ratio cells_Ratio of_Ratio_ok) dNil)) (fun a => law01_RatioSums m a.1 a.2.1) w_law01_RatioSums
theorem K_law01_RatioSums_ok (m : Nat) : KnownAt C Tryd.prog 9 fun l => (K_law01_RatioSums m).run _ l some :=
  mkK_known good fit (Ψ_law01_RatioSums_ok m) (keep := keep) (m := m) (d := 1) fun a => law01_RatioSums_fun m a.1 a.2.1
/-! ### signalbench/ratio.Mul -/
noncomputable def Ψ_ratio_Mul (m : Nat) : Known C := fun f => match f with
  | 48 => some (K_ratio_both m)
  | 17 => some (K_ratio_Make m)
  | _ => none
theorem Ψ_ratio_Mul_ok (m : Nat) : KnownOk C Tryd.prog (Ψ_ratio_Mul m) := by
  intro f φ h
  unfold Ψ_ratio_Mul at h
  split at h
  · injection h with h; subst h; exact K_ratio_both_ok m
  · injection h with h; subst h; exact K_ratio_Make_ok m
  · cases h
def w_ratio_Mul (b : Ratio × Int) : List (RV C) := [(dS of_Ratio cells_Ratio of_Ratio_ok).e b.1, (dInt .i64).e b.2]
noncomputable def b_ratio_Mul {R : Type} (m : Nat) (ret : Ratio → Int → Option R) (a_0 : Ratio) (b_1 : Ratio) : Option R :=
 (ratio_both m a_0 b_1).bind fun r0 =>
 bif !r0 then
 ret (Ratio.mk 0 0) 1
 else
 (ratio_Make m (IntKind.i64.wrap (a_0.Num * b_1.Num)) (IntKind.i64.wrap (a_0.Den * b_1.Den))).bind fun r1 =>
 ret r1.fst r1.snd
theorem ratio_Mul_pre (m : Nat) (a_0 : Ratio) (b_1 : Ratio) : funK Tryd.prog (Ψ_ratio_Mul m) keep m 1 33 [(dS of_Ratio cells_Ratio of_Ratio_ok).e a_0, (dS of_Ratio cells_Ratio of_Ratio_ok).e b_1] = b_ratio_Mul m (fun x0 x1 => some (w_ratio_Mul (x0, x1))) a_0 b_1 := by kernel_rfl
theorem b_ratio_Mul_map (m : Nat) (a_0 : Ratio) (b_1 : Ratio) : b_ratio_Mul m (fun x0 x1 => some (w_ratio_Mul (x0, x1))) a_0 b_1 = (b_ratio_Mul m (fun x0 x1 => some (x0, x1)) a_0 b_1).map w_ratio_Mul := by
  simp only [b_ratio_Mul, cond_map, bind_map, map_none, map_some]
noncomputable def ratio_Mul (m : Nat) (a_0 : Ratio) (b_1 : Ratio) : Option (Ratio × Int) := b_ratio_Mul m (fun x0 x1 => some (x0, x1)) a_0 b_1
theorem ratio_Mul_fun (m : Nat) (a_0 : Ratio) (b_1 : Ratio) : funK Tryd.prog (Ψ_ratio_Mul m) keep m 1 33 [(dS of_Ratio cells_Ratio of_Ratio_ok).e a_0, (dS of_Ratio cells_Ratio of_Ratio_ok).e b_1] = (ratio_Mul m a_0 b_1).map w_ratio_Mul := by
  rw [ratio_Mul_pre]
  exact b_ratio_Mul_map m a_0 b_1
noncomputable def K_ratio_Mul (m : Nat) : KnownF C := mkK (dCons (dS of_Ratio cells_Ratio of_Ratio_ok) (dCons (dS of_Ratio cells_Ratio of_Ratio_ok) dNil)) (fun a => ratio_Mul m a.1 a.2.1) w_ratio_Mul
theorem K_ratio_Mul_ok (m : Nat) : KnownAt C Tryd.prog 33 fun l => (K_ratio_Mul m).run _ l some :=
  mkK_known good fit (Ψ_ratio_Mul_ok m) (keep := keep) (m := m) (d := 1) fun a => ratio_Mul_fun m a.1 a.2.1
/-! ### signalbench/signalbenchref01.Mul -/
noncomputable def Ψ_ref01_Mul (m : Nat) : Known C := fun f => match f with
  | 13 => some (K_ref01_Valid m)
  | 18 => some (K_ref01_Make m)
  | _ => none
theorem Ψ_ref01_Mul_ok (m : Nat) : KnownOk C Tryd.prog (Ψ_ref01_Mul m) := by
  intro f φ h
  unfold Ψ_ref01_Mul at h
  split at h
  · injection h with h; subst h; exact K_ref01_Valid_ok m
  · injection h with h; subst h; exact K_ref01_Make_ok m
  · cases h
def w_ref01_Mul (b : Ratio × Int) : List (RV C) := [(dS of_Ratio cells_Ratio of_Ratio_ok).e b.1, (dInt .i64).e b.2]
noncomputable def b_ref01_Mul {R : Type} (m : Nat) (ret : Ratio → Int → Option R) (a_0 : Ratio) (b_1 : Ratio) : Option R :=
 (ref01_Valid m a_0).bind fun r0 =>
 bif !r0 then
 ret (Ratio.mk 0 0) 1
 else
 (ref01_Valid m b_1).bind fun r1 =>
 bif !r1 then
 ret (Ratio.mk 0 0) 1
 else
 (ref01_Make m (IntKind.i64.wrap (a_0.Num * b_1.Num)) (IntKind.i64.wrap (a_0.Den * b_1.Den))).bind fun r2 =>
 ret r2.fst r2.snd
theorem ref01_Mul_pre (m : Nat) (a_0 : Ratio) (b_1 : Ratio) : funK Tryd.prog (Ψ_ref01_Mul m) keep m 1 34 [(dS of_Ratio cells_Ratio of_Ratio_ok).e a_0, (dS of_Ratio cells_Ratio of_Ratio_ok).e b_1] = b_ref01_Mul m (fun x0 x1 => some (w_ref01_Mul (x0, x1))) a_0 b_1 := by kernel_rfl
theorem b_ref01_Mul_map (m : Nat) (a_0 : Ratio) (b_1 : Ratio) : b_ref01_Mul m (fun x0 x1 => some (w_ref01_Mul (x0, x1))) a_0 b_1 = (b_ref01_Mul m (fun x0 x1 => some (x0, x1)) a_0 b_1).map w_ref01_Mul := by
  simp only [b_ref01_Mul, cond_map, bind_map, map_none, map_some]
noncomputable def ref01_Mul (m : Nat) (a_0 : Ratio) (b_1 : Ratio) : Option (Ratio × Int) := b_ref01_Mul m (fun x0 x1 => some (x0, x1)) a_0 b_1
theorem ref01_Mul_fun (m : Nat) (a_0 : Ratio) (b_1 : Ratio) : funK Tryd.prog (Ψ_ref01_Mul m) keep m 1 34 [(dS of_Ratio cells_Ratio of_Ratio_ok).e a_0, (dS of_Ratio cells_Ratio of_Ratio_ok).e b_1] = (ref01_Mul m a_0 b_1).map w_ref01_Mul := by
  rw [ref01_Mul_pre]
  exact b_ref01_Mul_map m a_0 b_1
noncomputable def K_ref01_Mul (m : Nat) : KnownF C := mkK (dCons (dS of_Ratio cells_Ratio of_Ratio_ok) (dCons (dS of_Ratio cells_Ratio of_Ratio_ok) dNil)) (fun a => ref01_Mul m a.1 a.2.1) w_ref01_Mul
theorem K_ref01_Mul_ok (m : Nat) : KnownAt C Tryd.prog 34 fun l => (K_ref01_Mul m).run _ l some :=
  mkK_known good fit (Ψ_ref01_Mul_ok m) (keep := keep) (m := m) (d := 1) fun a => ref01_Mul_fun m a.1 a.2.1
/-! ### signalbench/ratio.Div -/
noncomputable def Ψ_ratio_Div (m : Nat) : Known C := fun f => match f with
  | 48 => some (K_ratio_both m)
  | 45 => some (K_ratio_zero m)
  | 17 => some (K_ratio_Make m)
  | _ => none
theorem Ψ_ratio_Div_ok (m : Nat) : KnownOk C Tryd.prog (Ψ_ratio_Div m) := by
  intro f φ h
  unfold Ψ_ratio_Div at h
  split at h
  · injection h with h; subst h; exact K_ratio_both_ok m
  · injection h with h; subst h; exact K_ratio_zero_ok m
  · injection h with h; subst h; exact K_ratio_Make_ok m
  · cases h
def w_ratio_Div (b : Ratio × Int) : List (RV C) := [(dS of_Ratio cells_Ratio of_Ratio_ok).e b.1, (dInt .i64).e b.2]
noncomputable def b_ratio_Div {R : Type} (m : Nat) (ret : Ratio → Int → Option R) (a_0 : Ratio) (b_1 : Ratio) : Option R :=
 (ratio_both m a_0 b_1).bind fun r0 =>
 bif !r0 then
 ret (Ratio.mk 0 0) 1
 else
 bif b_1.Num == 0 && (b_1.Den == 1 && true) then
 ret (Ratio.mk 0 0) 1
 else
 (ratio_Make m (IntKind.i64.wrap (a_0.Num * b_1.Den)) (IntKind.i64.wrap (a_0.Den * b_1.Num))).bind fun r1 =>
 ret r1.fst r1.snd
theorem ratio_Div_pre (m : Nat) (a_0 : Ratio) (b_1 : Ratio) : funK Tryd.prog (Ψ_ratio_Div m) keep m 1 35 [(dS of_Ratio cells_Ratio of_Ratio_ok).e a_0, (dS of_Ratio cells_Ratio of_Ratio_ok).e b_1] = b_ratio_Div m (fun x0 x1 => some (w_ratio_Div (x0, x1))) a_0 b_1 := by kernel_rfl
theorem b_ratio_Div_map (m : Nat) (a_0 : Ratio) (b_1 : Ratio) : b_ratio_Div m (fun x0 x1 => some (w_ratio_Div (x0, x1))) a_0 b_1 = (b_ratio_Div m (fun x0 x1 => some (x0, x1)) a_0 b_1).map w_ratio_Div := by
  simp only [b_ratio_Div, cond_map, bind_map, map_none, map_some]
noncomputable def ratio_Div (m : Nat) (a_0 : Ratio) (b_1 : Ratio) : Option (Ratio × Int) := b_ratio_Div m (fun x0 x1 => some (x0, x1)) a_0 b_1
theorem ratio_Div_fun (m : Nat) (a_0 : Ratio) (b_1 : Ratio) : funK Tryd.prog (Ψ_ratio_Div m) keep m 1 35 [(dS of_Ratio cells_Ratio of_Ratio_ok).e a_0, (dS of_Ratio cells_Ratio of_Ratio_ok).e b_1] = (ratio_Div m a_0 b_1).map w_ratio_Div := by
  rw [ratio_Div_pre]
  exact b_ratio_Div_map m a_0 b_1
noncomputable def K_ratio_Div (m : Nat) : KnownF C := mkK (dCons (dS of_Ratio cells_Ratio of_Ratio_ok) (dCons (dS of_Ratio cells_Ratio of_Ratio_ok) dNil)) (fun a => ratio_Div m a.1 a.2.1) w_ratio_Div
theorem K_ratio_Div_ok (m : Nat) : KnownAt C Tryd.prog 35 fun l => (K_ratio_Div m).run _ l some :=
  mkK_known good fit (Ψ_ratio_Div_ok m) (keep := keep) (m := m) (d := 1) fun a => ratio_Div_fun m a.1 a.2.1
/-! ### signalbench/signalbenchref01.Div -/
noncomputable def Ψ_ref01_Div (m : Nat) : Known C := fun f => match f with
  | 13 => some (K_ref01_Valid m)
  | 18 => some (K_ref01_Make m)
  | _ => none
theorem Ψ_ref01_Div_ok (m : Nat) : KnownOk C Tryd.prog (Ψ_ref01_Div m) := by
  intro f φ h
  unfold Ψ_ref01_Div at h
  split at h
  · injection h with h; subst h; exact K_ref01_Valid_ok m
  · injection h with h; subst h; exact K_ref01_Make_ok m
  · cases h
def w_ref01_Div (b : Ratio × Int) : List (RV C) := [(dS of_Ratio cells_Ratio of_Ratio_ok).e b.1, (dInt .i64).e b.2]
noncomputable def b_ref01_Div {R : Type} (m : Nat) (ret : Ratio → Int → Option R) (a_0 : Ratio) (b_1 : Ratio) : Option R :=
 (ref01_Valid m a_0).bind fun r0 =>
 bif !r0 then
 ret (Ratio.mk 0 0) 1
 else
 (ref01_Valid m b_1).bind fun r1 =>
 bif !r1 then
 ret (Ratio.mk 0 0) 1
 else
 bif b_1.Num == 0 then
 ret (Ratio.mk 0 0) 1
 else
 (ref01_Make m (IntKind.i64.wrap (a_0.Num * b_1.Den)) (IntKind.i64.wrap (a_0.Den * b_1.Num))).bind fun r2 =>
 ret r2.fst r2.snd
theorem ref01_Div_pre (m : Nat) (a_0 : Ratio) (b_1 : Ratio) : funK Tryd.prog (Ψ_ref01_Div m) keep m 1 36 [(dS of_Ratio cells_Ratio of_Ratio_ok).e a_0, (dS of_Ratio cells_Ratio of_Ratio_ok).e b_1] = b_ref01_Div m (fun x0 x1 => some (w_ref01_Div (x0, x1))) a_0 b_1 := by kernel_rfl
theorem b_ref01_Div_map (m : Nat) (a_0 : Ratio) (b_1 : Ratio) : b_ref01_Div m (fun x0 x1 => some (w_ref01_Div (x0, x1))) a_0 b_1 = (b_ref01_Div m (fun x0 x1 => some (x0, x1)) a_0 b_1).map w_ref01_Div := by
  simp only [b_ref01_Div, cond_map, bind_map, map_none, map_some]
noncomputable def ref01_Div (m : Nat) (a_0 : Ratio) (b_1 : Ratio) : Option (Ratio × Int) := b_ref01_Div m (fun x0 x1 => some (x0, x1)) a_0 b_1
theorem ref01_Div_fun (m : Nat) (a_0 : Ratio) (b_1 : Ratio) : funK Tryd.prog (Ψ_ref01_Div m) keep m 1 36 [(dS of_Ratio cells_Ratio of_Ratio_ok).e a_0, (dS of_Ratio cells_Ratio of_Ratio_ok).e b_1] = (ref01_Div m a_0 b_1).map w_ref01_Div := by
  rw [ref01_Div_pre]
  exact b_ref01_Div_map m a_0 b_1
noncomputable def K_ref01_Div (m : Nat) : KnownF C := mkK (dCons (dS of_Ratio cells_Ratio of_Ratio_ok) (dCons (dS of_Ratio cells_Ratio of_Ratio_ok) dNil)) (fun a => ref01_Div m a.1 a.2.1) w_ref01_Div
theorem K_ref01_Div_ok (m : Nat) : KnownAt C Tryd.prog 36 fun l => (K_ref01_Div m).run _ l some :=
  mkK_known good fit (Ψ_ref01_Div_ok m) (keep := keep) (m := m) (d := 1) fun a => ref01_Div_fun m a.1 a.2.1
/-! ### signalbench/signalbenchlaw01.RatioProducts -/
noncomputable def Ψ_law01_RatioProducts (m : Nat) : Known C := fun f => match f with
  | 33 => some (K_ratio_Mul m)
  | 34 => some (K_ref01_Mul m)
  | 35 => some (K_ratio_Div m)
  | 36 => some (K_ref01_Div m)
  | 16 => some (K_law01_awake m)
  | _ => none
theorem Ψ_law01_RatioProducts_ok (m : Nat) : KnownOk C Tryd.prog (Ψ_law01_RatioProducts m) := by
  intro f φ h
  unfold Ψ_law01_RatioProducts at h
  split at h
  · injection h with h; subst h; exact K_ratio_Mul_ok m
  · injection h with h; subst h; exact K_ref01_Mul_ok m
  · injection h with h; subst h; exact K_ratio_Div_ok m
  · injection h with h; subst h; exact K_ref01_Div_ok m
  · injection h with h; subst h; exact K_law01_awake_ok m
  · cases h
def w_law01_RatioProducts (b : Bool) : List (RV C) := [dBool.e b]
noncomputable def b_law01_RatioProducts {R : Type} (m : Nat) (ret : Bool → Option R) (a_0 : Ratio) (b_1 : Ratio) : Option R :=
 (ratio_Mul m a_0 b_1).bind fun r0 =>
 (ref01_Mul m a_0 b_1).bind fun r1 =>
 (ratio_Div m a_0 b_1).bind fun r2 =>
 (ref01_Div m a_0 b_1).bind fun r3 =>
 bif r0.fst.Num == r1.fst.Num && (r0.fst.Den == r1.fst.Den && true) then
 (bif r0.snd == r1.snd then
 (bif r2.fst.Num == r3.fst.Num && (r2.fst.Den == r3.fst.Den && true) then
 (bif r2.snd == r3.snd then
 ((law01_awake m).bind fun r4 =>
 ret r4)
 else
 ret false)
 else
 ret false)
 else
 ret false)
 else
 ret false
theorem law01_RatioProducts_pre (m : Nat) (a_0 : Ratio) (b_1 : Ratio) : funK Tryd.prog (Ψ_law01_RatioProducts m) keep m 1 10 [(dS of_Ratio cells_Ratio of_Ratio_ok).e a_0, (dS of_Ratio cells_Ratio of_Ratio_ok).e b_1] = b_law01_RatioProducts m (fun x0 => some (w_law01_RatioProducts x0)) a_0 b_1 := by kernel_rfl
theorem b_law01_RatioProducts_map (m : Nat) (a_0 : Ratio) (b_1 : Ratio) : b_law01_RatioProducts m (fun x0 => some (w_law01_RatioProducts x0)) a_0 b_1 = (b_law01_RatioProducts m (fun x0 => some x0) a_0 b_1).map w_law01_RatioProducts := by
  simp only [b_law01_RatioProducts, cond_map, bind_map, map_none, map_some]
noncomputable def law01_RatioProducts (m : Nat) (a_0 : Ratio) (b_1 : Ratio) : Option (Bool) := b_law01_RatioProducts m (fun x0 => some x0) a_0 b_1
theorem law01_RatioProducts_fun (m : Nat) (a_0 : Ratio) (b_1 : Ratio) : funK Tryd.prog (Ψ_law01_RatioProducts m) keep m 1 10 [(dS of_Ratio cells_Ratio of_Ratio_ok).e a_0, (dS of_Ratio cells_Ratio of_Ratio_ok).e b_1] = (law01_RatioProducts m a_0 b_1).map w_law01_RatioProducts := by
  rw [law01_RatioProducts_pre]
  exact b_law01_RatioProducts_map m a_0 b_1
noncomputable def K_law01_RatioProducts (m : Nat) : KnownF C := mkK (dCons (dS of_Ratio cells_Ratio of_Ratio_ok) (dCons (dS of_Ratio cells_Ratio of_Ratio_ok) dNil)) (fun a => law01_RatioProducts m a.1 a.2.1) w_law01_RatioProducts
theorem K_law01_RatioProducts_ok (m : Nat) : KnownAt C Tryd.prog 10 fun l => (K_law01_RatioProducts m).run _ l some :=
  mkK_known good fit (Ψ_law01_RatioProducts_ok m) (keep := keep) (m := m) (d := 1) fun a => law01_RatioProducts_fun m a.1 a.2.1
/-! ### signalbench/signalbenchlaw01.agree -/
def w_law01_agree (b : Bool) : List (RV C) := [dBool.e b]
noncomputable def b_law01_agree {R : Type} (m : Nat) (ret : Bool → Option R) (a_0 : Ratio) (e_1 : Int) (b_2 : Ratio) (f_3 : Int) : Option R :=
 bif e_1 != 0 then
 ret true
 else
 bif f_3 != 0 then
 ret true
 else
 ret (a_0.Num == b_2.Num && (a_0.Den == b_2.Den && true))
theorem law01_agree_pre (m : Nat) (a_0 : Ratio) (e_1 : Int) (b_2 : Ratio) (f_3 : Int) : funK Tryd.prog Ψ0 keep m 1 52 [(dS of_Ratio cells_Ratio of_Ratio_ok).e a_0, (dInt .i64).e e_1, (dS of_Ratio cells_Ratio of_Ratio_ok).e b_2, (dInt .i64).e f_3] = b_law01_agree m (fun x0 => some (w_law01_agree x0)) a_0 e_1 b_2 f_3 := by kernel_rfl
theorem b_law01_agree_map (m : Nat) (a_0 : Ratio) (e_1 : Int) (b_2 : Ratio) (f_3 : Int) : b_law01_agree m (fun x0 => some (w_law01_agree x0)) a_0 e_1 b_2 f_3 = (b_law01_agree m (fun x0 => some x0) a_0 e_1 b_2 f_3).map w_law01_agree := by
  simp only [b_law01_agree, cond_map, bind_map, map_none, map_some]
noncomputable def law01_agree (m : Nat) (a_0 : Ratio) (e_1 : Int) (b_2 : Ratio) (f_3 : Int) : Option (Bool) := b_law01_agree m (fun x0 => some x0) a_0 e_1 b_2 f_3
theorem law01_agree_fun (m : Nat) (a_0 : Ratio) (e_1 : Int) (b_2 : Ratio) (f_3 : Int) : funK Tryd.prog Ψ0 keep m 1 52 [(dS of_Ratio cells_Ratio of_Ratio_ok).e a_0, (dInt .i64).e e_1, (dS of_Ratio cells_Ratio of_Ratio_ok).e b_2, (dInt .i64).e f_3] = (law01_agree m a_0 e_1 b_2 f_3).map w_law01_agree := by
  rw [law01_agree_pre]
  exact b_law01_agree_map m a_0 e_1 b_2 f_3
noncomputable def K_law01_agree (m : Nat) : KnownF C := mkK (dCons (dS of_Ratio cells_Ratio of_Ratio_ok) (dCons (dInt .i64) (dCons (dS of_Ratio cells_Ratio of_Ratio_ok) (dCons (dInt .i64) dNil)))) (fun a => law01_agree m a.1 a.2.1 a.2.2.1 a.2.2.2.1) w_law01_agree
theorem K_law01_agree_ok (m : Nat) : KnownAt C Tryd.prog 52 fun l => (K_law01_agree m).run _ l some :=
  mkK_known good fit Ψ0_ok (keep := keep) (m := m) (d := 1) fun a => law01_agree_fun m a.1 a.2.1 a.2.2.1 a.2.2.2.1
/-! ### signalbench/signalbenchlaw01.spread -/
noncomputable def Ψ_law01_spread (m : Nat) : Known C := fun f => match f with
  | 29 => some (K_ratio_Add m)
  | 33 => some (K_ratio_Mul m)
  | 52 => some (K_law01_agree m)
  | _ => none
theorem Ψ_law01_spread_ok (m : Nat) : KnownOk C Tryd.prog (Ψ_law01_spread m) := by
  intro f φ h
  unfold Ψ_law01_spread at h
  split at h
  · injection h with h; subst h; exact K_ratio_Add_ok m
  · injection h with h; subst h; exact K_ratio_Mul_ok m
  · injection h with h; subst h; exact K_law01_agree_ok m
  · cases h
def w_law01_spread (b : Bool) : List (RV C) := [dBool.e b]
noncomputable def b_law01_spread {R : Type} (m : Nat) (ret : Bool → Option R) (a_0 : Ratio) (b_1 : Ratio) (c_2 : Ratio) : Option R :=
 (ratio_Add m b_1 c_2).bind fun r0 =>
 (ratio_Mul m a_0 b_1).bind fun r1 =>
 (ratio_Mul m a_0 c_2).bind fun r2 =>
 bif r0.snd != 0 then
 ret true
 else
 bif r1.snd != 0 then
 ret true
 else
 bif r2.snd != 0 then
 ret true
 else
 (ratio_Mul m a_0 r0.fst).bind fun r3 =>
 (ratio_Add m r1.fst r2.fst).bind fun r4 =>
 bif r3.snd == r4.snd then
 ((law01_agree m r3.fst r3.snd r4.fst r4.snd).bind fun r5 =>
 ret r5)
 else
 ret false
theorem law01_spread_pre (m : Nat) (a_0 : Ratio) (b_1 : Ratio) (c_2 : Ratio) : funK Tryd.prog (Ψ_law01_spread m) keep m 1 37 [(dS of_Ratio cells_Ratio of_Ratio_ok).e a_0, (dS of_Ratio cells_Ratio of_Ratio_ok).e b_1, (dS of_Ratio cells_Ratio of_Ratio_ok).e c_2] = b_law01_spread m (fun x0 => some (w_law01_spread x0)) a_0 b_1 c_2 := by kernel_rfl
theorem b_law01_spread_map (m : Nat) (a_0 : Ratio) (b_1 : Ratio) (c_2 : Ratio) : b_law01_spread m (fun x0 => some (w_law01_spread x0)) a_0 b_1 c_2 = (b_law01_spread m (fun x0 => some x0) a_0 b_1 c_2).map w_law01_spread := by
  simp only [b_law01_spread, cond_map, bind_map, map_none, map_some]
noncomputable def law01_spread (m : Nat) (a_0 : Ratio) (b_1 : Ratio) (c_2 : Ratio) : Option (Bool) := b_law01_spread m (fun x0 => some x0) a_0 b_1 c_2
theorem law01_spread_fun (m : Nat) (a_0 : Ratio) (b_1 : Ratio) (c_2 : Ratio) : funK Tryd.prog (Ψ_law01_spread m) keep m 1 37 [(dS of_Ratio cells_Ratio of_Ratio_ok).e a_0, (dS of_Ratio cells_Ratio of_Ratio_ok).e b_1, (dS of_Ratio cells_Ratio of_Ratio_ok).e c_2] = (law01_spread m a_0 b_1 c_2).map w_law01_spread := by
  rw [law01_spread_pre]
  exact b_law01_spread_map m a_0 b_1 c_2
noncomputable def K_law01_spread (m : Nat) : KnownF C := mkK (dCons (dS of_Ratio cells_Ratio of_Ratio_ok) (dCons (dS of_Ratio cells_Ratio of_Ratio_ok) (dCons (dS of_Ratio cells_Ratio of_Ratio_ok) dNil))) (fun a => law01_spread m a.1 a.2.1 a.2.2.1) w_law01_spread
theorem K_law01_spread_ok (m : Nat) : KnownAt C Tryd.prog 37 fun l => (K_law01_spread m).run _ l some :=
  mkK_known good fit (Ψ_law01_spread_ok m) (keep := keep) (m := m) (d := 1) fun a => law01_spread_fun m a.1 a.2.1 a.2.2.1
/-! ### signalbench/signalbenchlaw01.undone -/
noncomputable def Ψ_law01_undone (m : Nat) : Known C := fun f => match f with
  | 29 => some (K_ratio_Add m)
  | 31 => some (K_ratio_Sub m)
  | 33 => some (K_ratio_Mul m)
  | 35 => some (K_ratio_Div m)
  | _ => none
theorem Ψ_law01_undone_ok (m : Nat) : KnownOk C Tryd.prog (Ψ_law01_undone m) := by
  intro f φ h
  unfold Ψ_law01_undone at h
  split at h
  · injection h with h; subst h; exact K_ratio_Add_ok m
  · injection h with h; subst h; exact K_ratio_Sub_ok m
  · injection h with h; subst h; exact K_ratio_Mul_ok m
  · injection h with h; subst h; exact K_ratio_Div_ok m
  · cases h
def w_law01_undone (b : Bool) : List (RV C) := [dBool.e b]
noncomputable def b_law01_undone {R : Type} (m : Nat) (ret : Bool → Option R) (a_0 : Ratio) (b_1 : Ratio) : Option R :=
 (ratio_Add m a_0 b_1).bind fun r0 =>
 bif r0.snd == 0 then
 ((ratio_Sub m r0.fst b_1).bind fun r1 =>
 bif r1.snd != 0 then
 ret false
 else
 bif !(r1.fst.Num == a_0.Num && (r1.fst.Den == a_0.Den && true)) then
 ret false
 else
 (ratio_Mul m a_0 b_1).bind fun r2 =>
 bif r2.snd == 0 then
 (bif b_1.Num != 0 then
 ((ratio_Div m r2.fst b_1).bind fun r3 =>
 bif r3.snd != 0 then
 ret false
 else
 bif !(r3.fst.Num == a_0.Num && (r3.fst.Den == a_0.Den && true)) then
 ret false
 else
 ret true)
 else
 ret true)
 else
 ret true)
 else
 (ratio_Mul m a_0 b_1).bind fun r4 =>
 bif r4.snd == 0 then
 (bif b_1.Num != 0 then
 ((ratio_Div m r4.fst b_1).bind fun r5 =>
 bif r5.snd != 0 then
 ret false
 else
 bif !(r5.fst.Num == a_0.Num && (r5.fst.Den == a_0.Den && true)) then
 ret false
 else
 ret true)
 else
 ret true)
 else
 ret true
theorem law01_undone_pre (m : Nat) (a_0 : Ratio) (b_1 : Ratio) : funK Tryd.prog (Ψ_law01_undone m) keep m 1 38 [(dS of_Ratio cells_Ratio of_Ratio_ok).e a_0, (dS of_Ratio cells_Ratio of_Ratio_ok).e b_1] = b_law01_undone m (fun x0 => some (w_law01_undone x0)) a_0 b_1 := by kernel_rfl
theorem b_law01_undone_map (m : Nat) (a_0 : Ratio) (b_1 : Ratio) : b_law01_undone m (fun x0 => some (w_law01_undone x0)) a_0 b_1 = (b_law01_undone m (fun x0 => some x0) a_0 b_1).map w_law01_undone := by
  simp only [b_law01_undone, cond_map, bind_map, map_none, map_some]
noncomputable def law01_undone (m : Nat) (a_0 : Ratio) (b_1 : Ratio) : Option (Bool) := b_law01_undone m (fun x0 => some x0) a_0 b_1
theorem law01_undone_fun (m : Nat) (a_0 : Ratio) (b_1 : Ratio) : funK Tryd.prog (Ψ_law01_undone m) keep m 1 38 [(dS of_Ratio cells_Ratio of_Ratio_ok).e a_0, (dS of_Ratio cells_Ratio of_Ratio_ok).e b_1] = (law01_undone m a_0 b_1).map w_law01_undone := by
  rw [law01_undone_pre]
  exact b_law01_undone_map m a_0 b_1
noncomputable def K_law01_undone (m : Nat) : KnownF C := mkK (dCons (dS of_Ratio cells_Ratio of_Ratio_ok) (dCons (dS of_Ratio cells_Ratio of_Ratio_ok) dNil)) (fun a => law01_undone m a.1 a.2.1) w_law01_undone
theorem K_law01_undone_ok (m : Nat) : KnownAt C Tryd.prog 38 fun l => (K_law01_undone m).run _ l some :=
  mkK_known good fit (Ψ_law01_undone_ok m) (keep := keep) (m := m) (d := 1) fun a => law01_undone_fun m a.1 a.2.1
/-! ### signalbench/signalbenchlaw01.RatioField -/
noncomputable def Ψ_law01_RatioField (m : Nat) : Known C := fun f => match f with
  | 13 => some (K_ref01_Valid m)
  | 16 => some (K_law01_awake m)
  | 29 => some (K_ratio_Add m)
  | 33 => some (K_ratio_Mul m)
  | 37 => some (K_law01_spread m)
  | 38 => some (K_law01_undone m)
  | _ => none
theorem Ψ_law01_RatioField_ok (m : Nat) : KnownOk C Tryd.prog (Ψ_law01_RatioField m) := by
  intro f φ h
  unfold Ψ_law01_RatioField at h
  split at h
  · injection h with h; subst h; exact K_ref01_Valid_ok m
  · injection h with h; subst h; exact K_law01_awake_ok m
  · injection h with h; subst h; exact K_ratio_Add_ok m
  · injection h with h; subst h; exact K_ratio_Mul_ok m
  · injection h with h; subst h; exact K_law01_spread_ok m
  · injection h with h; subst h; exact K_law01_undone_ok m
  · cases h
def w_law01_RatioField (b : Bool) : List (RV C) := [dBool.e b]
noncomputable def b_law01_RatioField {R : Type} (m : Nat) (ret : Bool → Option R) (a_0 : Ratio) (b_1 : Ratio) (c_2 : Ratio) : Option R :=
 (ref01_Valid m a_0).bind fun r0 =>
 bif !r0 then
 ((law01_awake m).bind fun r1 =>
 ret r1)
 else
 (ref01_Valid m b_1).bind fun r2 =>
 bif !r2 then
 ((law01_awake m).bind fun r3 =>
 ret r3)
 else
 (ref01_Valid m c_2).bind fun r4 =>
 bif !r4 then
 ((law01_awake m).bind fun r5 =>
 ret r5)
 else
 (ratio_Add m a_0 b_1).bind fun r6 =>
 (ratio_Add m b_1 a_0).bind fun r7 =>
 (ratio_Mul m a_0 b_1).bind fun r8 =>
 (ratio_Mul m b_1 a_0).bind fun r9 =>
 bif !(r6.fst.Num == r7.fst.Num && (r6.fst.Den == r7.fst.Den && true)) then
 ret false
 else
 bif r6.snd != r7.snd then
 ret false
 else
 bif !(r8.fst.Num == r9.fst.Num && (r8.fst.Den == r9.fst.Den && true)) then
 ret false
 else
 bif r8.snd != r9.snd then
 ret false
 else
 (ratio_Add m a_0 (Ratio.mk 0 1)).bind fun r10 =>
 (ratio_Mul m a_0 (Ratio.mk 1 1)).bind fun r11 =>
 bif r10.fst.Num == a_0.Num && (r10.fst.Den == a_0.Den && true) then
 (bif r10.snd == 0 then
 (bif r11.fst.Num == a_0.Num && (r11.fst.Den == a_0.Den && true) then
 (bif r11.snd == 0 then
 ((law01_spread m a_0 b_1 c_2).bind fun r12 =>
 bif r12 then
 ((law01_undone m a_0 b_1).bind fun r13 =>
 bif r13 then
 ((law01_awake m).bind fun r14 =>
 ret r14)
 else
 ret false)
 else
 ret false)
 else
 ret false)
 else
 ret false)
 else
 ret false)
 else
 ret false
theorem law01_RatioField_pre (m : Nat) (a_0 : Ratio) (b_1 : Ratio) (c_2 : Ratio) : funK Tryd.prog (Ψ_law01_RatioField m) keep m 1 11 [(dS of_Ratio cells_Ratio of_Ratio_ok).e a_0, (dS of_Ratio cells_Ratio of_Ratio_ok).e b_1, (dS of_Ratio cells_Ratio of_Ratio_ok).e c_2] = b_law01_RatioField m (fun x0 => some (w_law01_RatioField x0)) a_0 b_1 c_2 := by kernel_rfl
theorem b_law01_RatioField_map (m : Nat) (a_0 : Ratio) (b_1 : Ratio) (c_2 : Ratio) : b_law01_RatioField m (fun x0 => some (w_law01_RatioField x0)) a_0 b_1 c_2 = (b_law01_RatioField m (fun x0 => some x0) a_0 b_1 c_2).map w_law01_RatioField := by
  simp only [b_law01_RatioField, cond_map, bind_map, map_none, map_some]
noncomputable def law01_RatioField (m : Nat) (a_0 : Ratio) (b_1 : Ratio) (c_2 : Ratio) : Option (Bool) := b_law01_RatioField m (fun x0 => some x0) a_0 b_1 c_2
theorem law01_RatioField_fun (m : Nat) (a_0 : Ratio) (b_1 : Ratio) (c_2 : Ratio) : funK Tryd.prog (Ψ_law01_RatioField m) keep m 1 11 [(dS of_Ratio cells_Ratio of_Ratio_ok).e a_0, (dS of_Ratio cells_Ratio of_Ratio_ok).e b_1, (dS of_Ratio cells_Ratio of_Ratio_ok).e c_2] = (law01_RatioField m a_0 b_1 c_2).map w_law01_RatioField := by
  rw [law01_RatioField_pre]
  exact b_law01_RatioField_map m a_0 b_1 c_2
noncomputable def K_law01_RatioField (m : Nat) : KnownF C := mkK (dCons (dS of_Ratio cells_Ratio of_Ratio_ok) (dCons (dS of_Ratio cells_Ratio of_Ratio_ok) (dCons (dS of_Ratio cells_Ratio of_Ratio_ok) dNil))) (fun a => law01_RatioField m a.1 a.2.1 a.2.2.1) w_law01_RatioField
theorem K_law01_RatioField_ok (m : Nat) : KnownAt C Tryd.prog 11 fun l => (K_law01_RatioField m).run _ l some :=
  mkK_known good fit (Ψ_law01_RatioField_ok m) (keep := keep) (m := m) (d := 1) fun a => law01_RatioField_fun m a.1 a.2.1 a.2.2.1
end Go.Abs.K
