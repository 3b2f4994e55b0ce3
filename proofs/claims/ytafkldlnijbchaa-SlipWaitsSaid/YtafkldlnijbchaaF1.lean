/- Plain functions for the functions of the seat, printed by a program of this claim's own, with their proofs. -/
import Derived.Test.YtafkldlnijbchaaB
set_option linter.unusedVariables false
set_option linter.unusedSimpArgs false
set_option maxRecDepth 100000
namespace Go.Abs.K
open Go Go.Abs Go.Proofs
/-! ### signalbench/slip.Check -/
def w_slip_Check (b : Int) : List (RV C) := [(dInt .i64).e b]
noncomputable def b_slip_Check {R : Type} (m : Nat) (ret : Int → Option R) (c_0 : Slip) : Option R :=
 bif decide (c_0.Most < 1) then
 ret 2
 else
 bif decide (c_0.Most > 4096) then
 ret 2
 else
 ret 0
theorem slip_Check_pre (m : Nat) (c_0 : Slip) : funK Try.prog Ψ0 keep m 1 10 [(dS of_Slip cells_Slip of_Slip_ok).e c_0] = b_slip_Check m (fun x0 => some (w_slip_Check x0)) c_0 := by kernel_rfl
theorem b_slip_Check_map (m : Nat) (c_0 : Slip) : b_slip_Check m (fun x0 => some (w_slip_Check x0)) c_0 = (b_slip_Check m (fun x0 => some x0) c_0).map w_slip_Check := by
  simp only [b_slip_Check, cond_map, bind_map, map_none, map_some]
noncomputable def slip_Check (m : Nat) (c_0 : Slip) : Option (Int) := b_slip_Check m (fun x0 => some x0) c_0
theorem slip_Check_fun (m : Nat) (c_0 : Slip) : funK Try.prog Ψ0 keep m 1 10 [(dS of_Slip cells_Slip of_Slip_ok).e c_0] = (slip_Check m c_0).map w_slip_Check := by
  rw [slip_Check_pre]
  exact b_slip_Check_map m c_0
noncomputable def K_slip_Check (m : Nat) : KnownF C := mkK (dCons (dS of_Slip cells_Slip of_Slip_ok) dNil) (fun a => slip_Check m a.1) w_slip_Check
theorem K_slip_Check_ok (m : Nat) : KnownAt C Try.prog 10 fun l => (K_slip_Check m).run _ l some :=
  mkK_known good fit Ψ0_ok (keep := keep) (m := m) (d := 1) fun a => slip_Check_fun m a.1
/-! ### signalbench/signalbenchref29.Check -/
def w_ref29_Check (b : Int) : List (RV C) := [(dInt .i64).e b]
noncomputable def b_ref29_Check {R : Type} (m : Nat) (ret : Int → Option R) (c_0 : Slip) : Option R :=
 bif decide (c_0.Most < 1) then
 ret 2
 else
 bif decide (c_0.Most > 4096) then
 ret 2
 else
 ret 0
theorem ref29_Check_pre (m : Nat) (c_0 : Slip) : funK Try.prog Ψ0 keep m 1 11 [(dS of_Slip cells_Slip of_Slip_ok).e c_0] = b_ref29_Check m (fun x0 => some (w_ref29_Check x0)) c_0 := by kernel_rfl
theorem b_ref29_Check_map (m : Nat) (c_0 : Slip) : b_ref29_Check m (fun x0 => some (w_ref29_Check x0)) c_0 = (b_ref29_Check m (fun x0 => some x0) c_0).map w_ref29_Check := by
  simp only [b_ref29_Check, cond_map, bind_map, map_none, map_some]
noncomputable def ref29_Check (m : Nat) (c_0 : Slip) : Option (Int) := b_ref29_Check m (fun x0 => some x0) c_0
theorem ref29_Check_fun (m : Nat) (c_0 : Slip) : funK Try.prog Ψ0 keep m 1 11 [(dS of_Slip cells_Slip of_Slip_ok).e c_0] = (ref29_Check m c_0).map w_ref29_Check := by
  rw [ref29_Check_pre]
  exact b_ref29_Check_map m c_0
noncomputable def K_ref29_Check (m : Nat) : KnownF C := mkK (dCons (dS of_Slip cells_Slip of_Slip_ok) dNil) (fun a => ref29_Check m a.1) w_ref29_Check
theorem K_ref29_Check_ok (m : Nat) : KnownAt C Try.prog 11 fun l => (K_ref29_Check m).run _ l some :=
  mkK_known good fit Ψ0_ok (keep := keep) (m := m) (d := 1) fun a => ref29_Check_fun m a.1
/-! ### signalbench/signalbenchlaw29.Example -/
def w_law29_Example (b : Slip) : List (RV C) := [(dS of_Slip cells_Slip of_Slip_ok).e b]
noncomputable def b_law29_Example {R : Type} (m : Nat) (ret : Slip → Option R) : Option R :=
 ret (Slip.mk 4)
theorem law29_Example_pre (m : Nat) : funK Try.prog Ψ0 keep m 1 28 [] = b_law29_Example m (fun x0 => some (w_law29_Example x0)) := by kernel_rfl
theorem b_law29_Example_map (m : Nat) : b_law29_Example m (fun x0 => some (w_law29_Example x0)) = (b_law29_Example m (fun x0 => some x0)).map w_law29_Example := by
  simp only [b_law29_Example, cond_map, bind_map, map_none, map_some]
noncomputable def law29_Example (m : Nat) : Option (Slip) := b_law29_Example m (fun x0 => some x0)
theorem law29_Example_fun (m : Nat) : funK Try.prog Ψ0 keep m 1 28 [] = (law29_Example m).map w_law29_Example := by
  rw [law29_Example_pre]
  exact b_law29_Example_map m
noncomputable def K_law29_Example (m : Nat) : KnownF C := mkK dNil (fun a => law29_Example m) w_law29_Example
theorem K_law29_Example_ok (m : Nat) : KnownAt C Try.prog 28 fun l => (K_law29_Example m).run _ l some :=
  mkK_known good fit Ψ0_ok (keep := keep) (m := m) (d := 1) fun a => law29_Example_fun m
/-! ### signalbench/slip.check -/
def w_slip_check (b : Int) : List (RV C) := [(dInt .i64).e b]
noncomputable def b_slip_check {R : Type} (m : Nat) (ret : Int → Option R) (c_0 : Slip) (x_1 : Item) : Option R :=
 bif decide (x_1.Gap < 0) then
 ret 1
 else
 bif decide (x_1.Gap > 1048576) then
 ret 1
 else
 bif decide ((x_1.Data.size : Int) > 4096) then
 ret 6
 else
 bif x_1.Data.toList == (bs []).toList then
 ret 2
 else
 bif decide ((x_1.Data.size : Int) > c_0.Most) then
 ret 2
 else
 bif x_1.Fault != 0 then
 bif x_1.Fault != 5 then
 ret 1
 else
 bif x_1.Value != 0 then
 ret 1
 else
 bif x_1.Aux != 0 then
 ret 1
 else
 ret 0
 else
 bif x_1.Value != 0 then
 ret 1
 else
 bif x_1.Aux != 0 then
 ret 1
 else
 ret 0
theorem slip_check_pre (m : Nat) (c_0 : Slip) (x_1 : Item) : funK Try.prog Ψ0 keep m 1 34 [(dS of_Slip cells_Slip of_Slip_ok).e c_0, (dS of_Item cells_Item of_Item_ok).e x_1] = b_slip_check m (fun x0 => some (w_slip_check x0)) c_0 x_1 := by kernel_rfl
theorem b_slip_check_map (m : Nat) (c_0 : Slip) (x_1 : Item) : b_slip_check m (fun x0 => some (w_slip_check x0)) c_0 x_1 = (b_slip_check m (fun x0 => some x0) c_0 x_1).map w_slip_check := by
  simp only [b_slip_check, cond_map, bind_map, map_none, map_some]
noncomputable def slip_check (m : Nat) (c_0 : Slip) (x_1 : Item) : Option (Int) := b_slip_check m (fun x0 => some x0) c_0 x_1
theorem slip_check_fun (m : Nat) (c_0 : Slip) (x_1 : Item) : funK Try.prog Ψ0 keep m 1 34 [(dS of_Slip cells_Slip of_Slip_ok).e c_0, (dS of_Item cells_Item of_Item_ok).e x_1] = (slip_check m c_0 x_1).map w_slip_check := by
  rw [slip_check_pre]
  exact b_slip_check_map m c_0 x_1
noncomputable def K_slip_check (m : Nat) : KnownF C := mkK (dCons (dS of_Slip cells_Slip of_Slip_ok) (dCons (dS of_Item cells_Item of_Item_ok) dNil)) (fun a => slip_check m a.1 a.2.1) w_slip_check
theorem K_slip_check_ok (m : Nat) : KnownAt C Try.prog 34 fun l => (K_slip_check m).run _ l some :=
  mkK_known good fit Ψ0_ok (keep := keep) (m := m) (d := 1) fun a => slip_check_fun m a.1 a.2.1
/-! ### signalbench/slip.written -/
def w_slip_written (b : List Int) : List (RV C) := [(dRow 5).e b]
noncomputable def Q_slip_written_5 (m : Nat) : St C → (Exit → St C → Option (List (RV C))) → Option (List (RV C)) := fun σ k => codeK Try.prog Ψ0 (callK Try.prog Ψ0 keep m 0) (keep 35) m (subC body35 [.r, .r, .r, .l, .r, .b, .o]) σ k
noncomputable def KL_slip_written_5 (m : Nat) : Exit → St C → Option (List (RV C)) := contK Try.prog Ψ0 (callK Try.prog Ψ0 keep m 0) (keep 35) m body35 [.r, .r, .r, .l, .r, .b, .o] (leaveK Try.prog Try.f35.results.toList (finK Try.prog Try.f35.resultTypes.toList))
noncomputable def L_slip_written_l5 (m n : Nat) (t16 : Int) (t17 : Int) (b_3 : List Int) (t15 : List Int) : Option (List (RV C)) := iterK (Q_slip_written_5 m) (St.norm (keep 35 5)) n ({ T := [.dead, .dead, .dead, .fl (.one (.sl 0)), .dead, .dead, .dead, .dead, .dead, .dead, .dead, .dead, .dead, .dead, .dead, .fl (.one (.sl 1)), .fl (.one (.int .i64 t16)), .fl (.one (.int .i64 t17))] ++ List.replicate 22 .dead, F := [[]], H := [.row 5 true b_3, .row 5 false t15] } : St C) (KL_slip_written_5 m)
noncomputable def b_slip_written_l5 {R : Type} (m : Nat) (ret : List Int → Option R) (k_l5 : Int → Int → List Int → List Int → Option R) (t16 : Int) (t17 : Int) (b_3 : List Int) (t15 : List Int) : Option R :=
 bif decide (t17 < t16) then
 bif decide (0 ≤ t17) then
 bif decide (t17 < (t15.length : Int)) then
 bif t15.getD t17.toNat 0 == 192 then
 bif decide ((b_3.length + 2) * 1 ≤ 140737488355328) then
 k_l5 t16 (IntKind.i64.wrap (t17 + 1)) (b_3 ++ [219, 220]) t15
 else
 none
 else
 bif t15.getD t17.toNat 0 == 219 then
 bif decide ((b_3.length + 2) * 1 ≤ 140737488355328) then
 k_l5 t16 (IntKind.i64.wrap (t17 + 1)) (b_3 ++ [219, 221]) t15
 else
 none
 else
 bif decide ((b_3.length + 1) * 1 ≤ 140737488355328) then
 k_l5 t16 (IntKind.i64.wrap (t17 + 1)) (b_3 ++ [t15.getD t17.toNat 0]) t15
 else
 none
 else
 none
 else
 none
 else
 bif decide ((b_3.length + 1) * 1 ≤ 140737488355328) then
 ret (b_3 ++ [192])
 else
 none
theorem L_slip_written_l5_step (m n : Nat) (t16 : Int) (t17 : Int) (b_3 : List Int) (t15 : List Int) : L_slip_written_l5 m (n + 1) t16 t17 b_3 t15 = b_slip_written_l5 m (fun x0 => some (w_slip_written x0)) (fun t16 t17 b_3 t15 => L_slip_written_l5 m n t16 t17 b_3 t15) t16 t17 b_3 t15 := by kernel_rfl
theorem b_slip_written_l5_map (m : Nat) {k_l5 : Int → Int → List Int → List Int → Option (List (RV C))} {q_l5 : Int → Int → List Int → List Int → Option (List Int)} (h_l5 : ∀ t16 t17 b_3 t15, k_l5 t16 t17 b_3 t15 = (q_l5 t16 t17 b_3 t15).map w_slip_written) (t16 : Int) (t17 : Int) (b_3 : List Int) (t15 : List Int) : b_slip_written_l5 m (fun x0 => some (w_slip_written x0)) k_l5 t16 t17 b_3 t15 = (b_slip_written_l5 m (fun x0 => some x0) q_l5 t16 t17 b_3 t15).map w_slip_written := by
  simp only [b_slip_written_l5, cond_map, bind_map, map_none, map_some, h_l5]
noncomputable def slip_written_l5 (m : Nat) : Nat → Int → Int → List Int → List Int → Option (List Int)
  | 0, _, _, _, _ => none
  | n + 1, t16, t17, b_3, t15 => b_slip_written_l5 m (fun x0 => some x0) (fun t16 t17 b_3 t15 => slip_written_l5 m n t16 t17 b_3 t15) t16 t17 b_3 t15
theorem L_slip_written_l5_eq (m : Nat) : ∀ (n : Nat) (t16 : Int) (t17 : Int) (b_3 : List Int) (t15 : List Int), L_slip_written_l5 m n t16 t17 b_3 t15 = (slip_written_l5 m n t16 t17 b_3 t15).map w_slip_written
  | 0, t16, t17, b_3, t15 => by kernel_rfl
  | n + 1, t16, t17, b_3, t15 => by
    rw [L_slip_written_l5_step]
    exact b_slip_written_l5_map m (fun t16 t17 b_3 t15 => L_slip_written_l5_eq m n t16 t17 b_3 t15) t16 t17 b_3 t15
noncomputable def b_slip_written {R : Type} (m : Nat) (ret : List Int → Option R) (k_l5 : Int → Int → List Int → List Int → Option R) (x_0 : Item) : Option R :=
 bif x_0.Fault == 5 then
 bif decide (x_0.Data.size ≤ 140737488355328) then
 k_l5 ((ofBytes x_0.Data).length : Int) 0 ([192] ++ [219, 0]) (ofBytes x_0.Data)
 else
 none
 else
 bif decide (x_0.Data.size ≤ 140737488355328) then
 k_l5 ((ofBytes x_0.Data).length : Int) 0 [192] (ofBytes x_0.Data)
 else
 none
theorem slip_written_pre (m : Nat) (x_0 : Item) : funK Try.prog Ψ0 keep m 1 35 [(dS of_Item cells_Item of_Item_ok).e x_0] = b_slip_written m (fun x0 => some (w_slip_written x0)) (fun t16 t17 b_3 t15 => L_slip_written_l5 m m t16 t17 b_3 t15) x_0 := by kernel_rfl
theorem b_slip_written_map (m : Nat) {k_l5 : Int → Int → List Int → List Int → Option (List (RV C))} {q_l5 : Int → Int → List Int → List Int → Option (List Int)} (h_l5 : ∀ t16 t17 b_3 t15, k_l5 t16 t17 b_3 t15 = (q_l5 t16 t17 b_3 t15).map w_slip_written) (x_0 : Item) : b_slip_written m (fun x0 => some (w_slip_written x0)) k_l5 x_0 = (b_slip_written m (fun x0 => some x0) q_l5 x_0).map w_slip_written := by
  simp only [b_slip_written, cond_map, bind_map, map_none, map_some, h_l5]
noncomputable def slip_written (m : Nat) (x_0 : Item) : Option (List Int) := b_slip_written m (fun x0 => some x0) (fun t16 t17 b_3 t15 => slip_written_l5 m m t16 t17 b_3 t15) x_0
theorem slip_written_fun (m : Nat) (x_0 : Item) : funK Try.prog Ψ0 keep m 1 35 [(dS of_Item cells_Item of_Item_ok).e x_0] = (slip_written m x_0).map w_slip_written := by
  rw [slip_written_pre]
  exact b_slip_written_map m (fun t16 t17 b_3 t15 => L_slip_written_l5_eq m m t16 t17 b_3 t15) x_0
noncomputable def K_slip_written (m : Nat) : KnownF C := mkK (dCons (dS of_Item cells_Item of_Item_ok) dNil) (fun a => slip_written m a.1) w_slip_written
theorem K_slip_written_ok (m : Nat) : KnownAt C Try.prog 35 fun l => (K_slip_written m).run _ l some :=
  mkK_known good fit Ψ0_ok (keep := keep) (m := m) (d := 1) fun a => slip_written_fun m a.1
/-! ### signalbench/slip.Encode -/
noncomputable def Ψ_slip_Encode (m : Nat) : Known C := fun f => match f with
  | 10 => some (K_slip_Check m)
  | 34 => some (K_slip_check m)
  | 35 => some (K_slip_written m)
  | _ => none
theorem Ψ_slip_Encode_ok (m : Nat) : KnownOk C Try.prog (Ψ_slip_Encode m) := by
  intro f φ h
  unfold Ψ_slip_Encode at h
  split at h
  · injection h with h; subst h; exact K_slip_Check_ok m
  · injection h with h; subst h; exact K_slip_check_ok m
  · injection h with h; subst h; exact K_slip_written_ok m
  · cases h
def w_slip_Encode (b : List Item × Int) : List (RV C) := [(dRow 46).e b.1, (dInt .i64).e b.2]
noncomputable def Q_slip_Encode_7 (m : Nat) : St C → (Exit → St C → Option (List (RV C))) → Option (List (RV C)) := fun σ k => codeK Try.prog (Ψ_slip_Encode m) (callK Try.prog (Ψ_slip_Encode m) keep m 0) (keep 14) m (subC body14 [.r, .r, .r, .l, .r, .b, .o]) σ k
noncomputable def KL_slip_Encode_7 (m : Nat) : Exit → St C → Option (List (RV C)) := contK Try.prog (Ψ_slip_Encode m) (callK Try.prog (Ψ_slip_Encode m) keep m 0) (keep 14) m body14 [.r, .r, .r, .l, .r, .b, .o] (leaveK Try.prog Try.f14.results.toList (finK Try.prog Try.f14.resultTypes.toList))
noncomputable def Q_slip_Encode_15 (m : Nat) : St C → (Exit → St C → Option (List (RV C))) → Option (List (RV C)) := fun σ k => codeK Try.prog (Ψ_slip_Encode m) (callK Try.prog (Ψ_slip_Encode m) keep m 0) (keep 14) m (subC body14 [.r, .r, .r, .r, .r, .l, .r, .b, .o]) σ k
noncomputable def KL_slip_Encode_15 (m : Nat) : Exit → St C → Option (List (RV C)) := contK Try.prog (Ψ_slip_Encode m) (callK Try.prog (Ψ_slip_Encode m) keep m 0) (keep 14) m body14 [.r, .r, .r, .r, .r, .l, .r, .b, .o] (leaveK Try.prog Try.f14.results.toList (finK Try.prog Try.f14.resultTypes.toList))
noncomputable def Q_slip_Encode_21 (m : Nat) : St C → (Exit → St C → Option (List (RV C))) → Option (List (RV C)) := fun σ k => codeK Try.prog (Ψ_slip_Encode m) (callK Try.prog (Ψ_slip_Encode m) keep m 0) (keep 14) m (subC (subC body14 [.r, .r, .r, .r, .r, .l, .r, .b, .o]) [.r, .r, .l, .b, .r, .r, .r, .r, .b, .o]) σ k
noncomputable def KL_slip_Encode_21 (m : Nat) (n15 : Nat) : Exit → St C → Option (List (RV C)) := contK Try.prog (Ψ_slip_Encode m) (callK Try.prog (Ψ_slip_Encode m) keep m 0) (keep 14) m (subC body14 [.r, .r, .r, .r, .r, .l, .r, .b, .o]) [.r, .r, .l, .b, .r, .r, .r, .r, .b, .o] (rndK (Q_slip_Encode_15 m) (St.norm (keep 14 15)) n15 (KL_slip_Encode_15 m))
noncomputable def L_slip_Encode_l7 (m n : Nat) (t26 : Int) (t27 : Int) (l_1 : List Item) (c1 : Slip) : Option (List (RV C)) := iterK (Q_slip_Encode_7 m) (St.norm (keep 14 7)) n ({ T := [.dead, .fl (.one (.sl 0)), .fl (.one (.ptr 1 0)), .dead, .dead, .dead, .dead, .dead, .dead, .dead, .dead, .dead, .dead, .dead, .dead, .dead, .dead, .dead, .dead, .dead, .dead, .dead, .dead, .dead, .dead, .fl (.one (.sl 0)), .fl (.one (.int .i64 t26)), .fl (.one (.int .i64 t27))] ++ List.replicate 46 .dead, F := [[]], H := [.row 46 false l_1, .box 23 (cells_Slip c1)] } : St C) (KL_slip_Encode_7 m)
noncomputable def L_slip_Encode_l15 (m n : Nat) (t39 : Int) (t40 : Int) (out_10 : List Item) (t38 : List Item) : Option (List (RV C)) := iterK (Q_slip_Encode_15 m) (St.norm (keep 14 15)) n ({ T := [.dead, .dead, .dead, .dead, .dead, .dead, .dead, .dead, .dead, .dead, .fl (.one (.sl 0)), .dead, .dead, .dead, .dead, .dead, .dead, .dead, .dead, .dead, .dead, .dead, .dead, .dead, .dead, .dead, .dead, .dead, .dead, .dead, .dead, .dead, .dead, .dead, .dead, .dead, .dead, .dead, .fl (.one (.sl 1)), .fl (.one (.int .i64 t39)), .fl (.one (.int .i64 t40))] ++ List.replicate 33 .dead, F := [[]], H := [.row 46 true out_10, .row 46 false t38] } : St C) (KL_slip_Encode_15 m)
noncomputable def L_slip_Encode_l21 (m n15 n : Nat) (t39 : Int) (t40 : Int) (t53 : Int) (t54 : Int) (out_10 : List Item) (c1 : Item) (t38 : List Item) (t52 : List Int) : Option (List (RV C)) := iterK (Q_slip_Encode_21 m) (St.norm (keep 14 21)) n ({ T := [.dead, .dead, .dead, .dead, .dead, .dead, .dead, .dead, .dead, .dead, .fl (.one (.sl 0)), .dead, .fl (.one (.ptr 1 0)), .dead, .dead, .dead, .dead, .dead, .dead, .dead, .dead, .dead, .dead, .dead, .dead, .dead, .dead, .dead, .dead, .dead, .dead, .dead, .dead, .dead, .dead, .dead, .dead, .dead, .fl (.one (.sl 2)), .fl (.one (.int .i64 t39)), .fl (.one (.int .i64 t40)), .dead, .dead, .dead, .dead, .dead, .dead, .dead, .dead, .dead, .dead, .dead, .fl (.one (.sl 3)), .fl (.one (.int .i64 t53)), .fl (.one (.int .i64 t54))] ++ List.replicate 19 .dead, F := [[]], H := [.row 46 true out_10, .box 46 (cells_Item c1), .row 46 false t38, .row 5 true t52] } : St C) (KL_slip_Encode_21 m n15)
noncomputable def b_slip_Encode_l21 {R : Type} (m : Nat) (ret : List Item → Int → Option R) (k_l21 : Int → Int → Int → Int → List Item → Item → List Item → List Int → Option R) (k_l15 : Int → Int → List Item → List Item → Option R) (t39 : Int) (t40 : Int) (t53 : Int) (t54 : Int) (out_10 : List Item) (c1 : Item) (t38 : List Item) (t52 : List Int) : Option R :=
 bif decide (t54 < t53) then
 bif decide (0 ≤ t54) then
 bif decide (t54 < (t52.length : Int)) then
 bif t54 == 0 then
 bif decide ((out_10.length + 1) * 48 ≤ 140737488355328) then
 k_l21 t39 t40 t53 (IntKind.i64.wrap (t54 + 1)) (out_10 ++ [Item.mk c1.Gap (IntKind.i64.wrap (t52.getD t54.toNat 0)) 0 (bs []) 0]) c1 t38 t52
 else
 none
 else
 bif decide ((out_10.length + 1) * 48 ≤ 140737488355328) then
 k_l21 t39 t40 t53 (IntKind.i64.wrap (t54 + 1)) (out_10 ++ [Item.mk 0 (IntKind.i64.wrap (t52.getD t54.toNat 0)) 0 (bs []) 0]) c1 t38 t52
 else
 none
 else
 none
 else
 none
 else
 k_l15 t39 (IntKind.i64.wrap (t40 + 1)) out_10 t38
theorem L_slip_Encode_l21_step (m n15 n : Nat) (t39 : Int) (t40 : Int) (t53 : Int) (t54 : Int) (out_10 : List Item) (c1 : Item) (t38 : List Item) (t52 : List Int) : L_slip_Encode_l21 m n15 (n + 1) t39 t40 t53 t54 out_10 c1 t38 t52 = b_slip_Encode_l21 m (fun x0 x1 => some (w_slip_Encode (x0, x1))) (fun t39 t40 t53 t54 out_10 c1 t38 t52 => L_slip_Encode_l21 m n15 n t39 t40 t53 t54 out_10 c1 t38 t52) (fun t39 t40 out_10 t38 => L_slip_Encode_l15 m n15 t39 t40 out_10 t38) t39 t40 t53 t54 out_10 c1 t38 t52 := by kernel_rfl
theorem b_slip_Encode_l21_map (m : Nat) {k_l21 : Int → Int → Int → Int → List Item → Item → List Item → List Int → Option (List (RV C))} {q_l21 : Int → Int → Int → Int → List Item → Item → List Item → List Int → Option (List Item × Int)} (h_l21 : ∀ t39 t40 t53 t54 out_10 c1 t38 t52, k_l21 t39 t40 t53 t54 out_10 c1 t38 t52 = (q_l21 t39 t40 t53 t54 out_10 c1 t38 t52).map w_slip_Encode) {k_l15 : Int → Int → List Item → List Item → Option (List (RV C))} {q_l15 : Int → Int → List Item → List Item → Option (List Item × Int)} (h_l15 : ∀ t39 t40 out_10 t38, k_l15 t39 t40 out_10 t38 = (q_l15 t39 t40 out_10 t38).map w_slip_Encode) (t39 : Int) (t40 : Int) (t53 : Int) (t54 : Int) (out_10 : List Item) (c1 : Item) (t38 : List Item) (t52 : List Int) : b_slip_Encode_l21 m (fun x0 x1 => some (w_slip_Encode (x0, x1))) k_l21 k_l15 t39 t40 t53 t54 out_10 c1 t38 t52 = (b_slip_Encode_l21 m (fun x0 x1 => some (x0, x1)) q_l21 q_l15 t39 t40 t53 t54 out_10 c1 t38 t52).map w_slip_Encode := by
  simp only [b_slip_Encode_l21, cond_map, bind_map, map_none, map_some, h_l21, h_l15]
noncomputable def slip_Encode_l21 (m : Nat) (q_l15 : Int → Int → List Item → List Item → Option (List Item × Int)) : Nat → Int → Int → Int → Int → List Item → Item → List Item → List Int → Option (List Item × Int)
  | 0, _, _, _, _, _, _, _, _ => none
  | n + 1, t39, t40, t53, t54, out_10, c1, t38, t52 => b_slip_Encode_l21 m (fun x0 x1 => some (x0, x1)) (fun t39 t40 t53 t54 out_10 c1 t38 t52 => slip_Encode_l21 m q_l15 n t39 t40 t53 t54 out_10 c1 t38 t52) q_l15 t39 t40 t53 t54 out_10 c1 t38 t52
theorem L_slip_Encode_l21_eq (m n15 : Nat) (q_l15 : Int → Int → List Item → List Item → Option (List Item × Int)) (h_l15 : ∀ t39 t40 out_10 t38, L_slip_Encode_l15 m n15 t39 t40 out_10 t38 = (q_l15 t39 t40 out_10 t38).map w_slip_Encode) : ∀ (n : Nat) (t39 : Int) (t40 : Int) (t53 : Int) (t54 : Int) (out_10 : List Item) (c1 : Item) (t38 : List Item) (t52 : List Int), L_slip_Encode_l21 m n15 n t39 t40 t53 t54 out_10 c1 t38 t52 = (slip_Encode_l21 m q_l15 n t39 t40 t53 t54 out_10 c1 t38 t52).map w_slip_Encode
  | 0, t39, t40, t53, t54, out_10, c1, t38, t52 => by kernel_rfl
  | n + 1, t39, t40, t53, t54, out_10, c1, t38, t52 => by
    rw [L_slip_Encode_l21_step]
    exact b_slip_Encode_l21_map m (fun t39 t40 t53 t54 out_10 c1 t38 t52 => L_slip_Encode_l21_eq m n15 q_l15 h_l15 n t39 t40 t53 t54 out_10 c1 t38 t52) h_l15 t39 t40 t53 t54 out_10 c1 t38 t52
noncomputable def b_slip_Encode_l15 {R : Type} (m : Nat) (ret : List Item → Int → Option R) (k_l21 : Int → Int → Int → Int → List Item → Item → List Item → List Int → Option R) (t39 : Int) (t40 : Int) (out_10 : List Item) (t38 : List Item) : Option R :=
 bif decide (t40 < t39) then
 (bif decide (0 ≤ t40) then
 (bif decide (t40 < (t38.length : Int)) then
 ((slip_written m (t38.getD t40.toNat dflt_Item)).bind fun r0 =>
 bif decide (IntKind.i64.wrap ((out_10.length : Int) + (r0.length : Int)) > 262144) then
 ret [] 6
 else
 k_l21 t39 t40 (r0.length : Int) 0 out_10 (t38.getD t40.toNat dflt_Item) t38 r0)
 else
 none)
 else
 none)
 else
 ret out_10 0
theorem L_slip_Encode_l15_step (m n : Nat) (t39 : Int) (t40 : Int) (out_10 : List Item) (t38 : List Item) : L_slip_Encode_l15 m (n + 1) t39 t40 out_10 t38 = b_slip_Encode_l15 m (fun x0 x1 => some (w_slip_Encode (x0, x1))) (fun t39 t40 t53 t54 out_10 c1 t38 t52 => L_slip_Encode_l21 m n m t39 t40 t53 t54 out_10 c1 t38 t52) t39 t40 out_10 t38 := by kernel_rfl
theorem b_slip_Encode_l15_map (m : Nat) {k_l21 : Int → Int → Int → Int → List Item → Item → List Item → List Int → Option (List (RV C))} {q_l21 : Int → Int → Int → Int → List Item → Item → List Item → List Int → Option (List Item × Int)} (h_l21 : ∀ t39 t40 t53 t54 out_10 c1 t38 t52, k_l21 t39 t40 t53 t54 out_10 c1 t38 t52 = (q_l21 t39 t40 t53 t54 out_10 c1 t38 t52).map w_slip_Encode) (t39 : Int) (t40 : Int) (out_10 : List Item) (t38 : List Item) : b_slip_Encode_l15 m (fun x0 x1 => some (w_slip_Encode (x0, x1))) k_l21 t39 t40 out_10 t38 = (b_slip_Encode_l15 m (fun x0 x1 => some (x0, x1)) q_l21 t39 t40 out_10 t38).map w_slip_Encode := by
  simp only [b_slip_Encode_l15, cond_map, bind_map, map_none, map_some, h_l21]
noncomputable def slip_Encode_l15 (m : Nat) : Nat → Int → Int → List Item → List Item → Option (List Item × Int)
  | 0, _, _, _, _ => none
  | n + 1, t39, t40, out_10, t38 => b_slip_Encode_l15 m (fun x0 x1 => some (x0, x1)) (fun t39 t40 t53 t54 out_10 c1 t38 t52 => slip_Encode_l21 m (fun t39 t40 out_10 t38 => slip_Encode_l15 m n t39 t40 out_10 t38) m t39 t40 t53 t54 out_10 c1 t38 t52) t39 t40 out_10 t38
theorem L_slip_Encode_l15_eq (m : Nat) : ∀ (n : Nat) (t39 : Int) (t40 : Int) (out_10 : List Item) (t38 : List Item), L_slip_Encode_l15 m n t39 t40 out_10 t38 = (slip_Encode_l15 m n t39 t40 out_10 t38).map w_slip_Encode
  | 0, t39, t40, out_10, t38 => by kernel_rfl
  | n + 1, t39, t40, out_10, t38 => by
    rw [L_slip_Encode_l15_step]
    exact b_slip_Encode_l15_map m (fun t39 t40 t53 t54 out_10 c1 t38 t52 => L_slip_Encode_l21_eq m n (fun t39 t40 out_10 t38 => slip_Encode_l15 m n t39 t40 out_10 t38) (fun t39 t40 out_10 t38 => L_slip_Encode_l15_eq m n t39 t40 out_10 t38) m t39 t40 t53 t54 out_10 c1 t38 t52) t39 t40 out_10 t38
noncomputable def b_slip_Encode_l7 {R : Type} (m : Nat) (ret : List Item → Int → Option R) (k_l7 : Int → Int → List Item → Slip → Option R) (k_l15 : Int → Int → List Item → List Item → Option R) (t26 : Int) (t27 : Int) (l_1 : List Item) (c1 : Slip) : Option R :=
 bif decide (t27 < t26) then
 (bif decide (0 ≤ t27) then
 (bif decide (t27 < (l_1.length : Int)) then
 ((slip_check m c1 (l_1.getD t27.toNat dflt_Item)).bind fun r0 =>
 bif r0 != 0 then
 ret [] r0
 else
 k_l7 t26 (IntKind.i64.wrap (t27 + 1)) l_1 c1)
 else
 none)
 else
 none)
 else
 k_l15 (l_1.length : Int) 0 [] l_1
theorem L_slip_Encode_l7_step (m n : Nat) (t26 : Int) (t27 : Int) (l_1 : List Item) (c1 : Slip) : L_slip_Encode_l7 m (n + 1) t26 t27 l_1 c1 = b_slip_Encode_l7 m (fun x0 x1 => some (w_slip_Encode (x0, x1))) (fun t26 t27 l_1 c1 => L_slip_Encode_l7 m n t26 t27 l_1 c1) (fun t39 t40 out_10 t38 => L_slip_Encode_l15 m m t39 t40 out_10 t38) t26 t27 l_1 c1 := by kernel_rfl
theorem b_slip_Encode_l7_map (m : Nat) {k_l7 : Int → Int → List Item → Slip → Option (List (RV C))} {q_l7 : Int → Int → List Item → Slip → Option (List Item × Int)} (h_l7 : ∀ t26 t27 l_1 c1, k_l7 t26 t27 l_1 c1 = (q_l7 t26 t27 l_1 c1).map w_slip_Encode) {k_l15 : Int → Int → List Item → List Item → Option (List (RV C))} {q_l15 : Int → Int → List Item → List Item → Option (List Item × Int)} (h_l15 : ∀ t39 t40 out_10 t38, k_l15 t39 t40 out_10 t38 = (q_l15 t39 t40 out_10 t38).map w_slip_Encode) (t26 : Int) (t27 : Int) (l_1 : List Item) (c1 : Slip) : b_slip_Encode_l7 m (fun x0 x1 => some (w_slip_Encode (x0, x1))) k_l7 k_l15 t26 t27 l_1 c1 = (b_slip_Encode_l7 m (fun x0 x1 => some (x0, x1)) q_l7 q_l15 t26 t27 l_1 c1).map w_slip_Encode := by
  simp only [b_slip_Encode_l7, cond_map, bind_map, map_none, map_some, h_l7, h_l15]
noncomputable def slip_Encode_l7 (m : Nat) : Nat → Int → Int → List Item → Slip → Option (List Item × Int)
  | 0, _, _, _, _ => none
  | n + 1, t26, t27, l_1, c1 => b_slip_Encode_l7 m (fun x0 x1 => some (x0, x1)) (fun t26 t27 l_1 c1 => slip_Encode_l7 m n t26 t27 l_1 c1) (fun t39 t40 out_10 t38 => slip_Encode_l15 m m t39 t40 out_10 t38) t26 t27 l_1 c1
theorem L_slip_Encode_l7_eq (m : Nat) : ∀ (n : Nat) (t26 : Int) (t27 : Int) (l_1 : List Item) (c1 : Slip), L_slip_Encode_l7 m n t26 t27 l_1 c1 = (slip_Encode_l7 m n t26 t27 l_1 c1).map w_slip_Encode
  | 0, t26, t27, l_1, c1 => by kernel_rfl
  | n + 1, t26, t27, l_1, c1 => by
    rw [L_slip_Encode_l7_step]
    exact b_slip_Encode_l7_map m (fun t26 t27 l_1 c1 => L_slip_Encode_l7_eq m n t26 t27 l_1 c1) (fun t39 t40 out_10 t38 => L_slip_Encode_l15_eq m m t39 t40 out_10 t38) t26 t27 l_1 c1
noncomputable def b_slip_Encode {R : Type} (m : Nat) (ret : List Item → Int → Option R) (k_l7 : Int → Int → List Item → Slip → Option R) (c_0 : Slip) (l_1 : List Item) : Option R :=
 (slip_Check m c_0).bind fun r0 =>
 bif r0 != 0 then
 ret [] r0
 else
 bif decide ((l_1.length : Int) > 1024) then
 ret [] 6
 else
 k_l7 (l_1.length : Int) 0 l_1 c_0
theorem slip_Encode_pre (m : Nat) (c_0 : Slip) (l_1 : List Item) : funK Try.prog (Ψ_slip_Encode m) keep m 1 14 [(dS of_Slip cells_Slip of_Slip_ok).e c_0, (dRow 46).e l_1] = b_slip_Encode m (fun x0 x1 => some (w_slip_Encode (x0, x1))) (fun t26 t27 l_1 c1 => L_slip_Encode_l7 m m t26 t27 l_1 c1) c_0 l_1 := by kernel_rfl
theorem b_slip_Encode_map (m : Nat) {k_l7 : Int → Int → List Item → Slip → Option (List (RV C))} {q_l7 : Int → Int → List Item → Slip → Option (List Item × Int)} (h_l7 : ∀ t26 t27 l_1 c1, k_l7 t26 t27 l_1 c1 = (q_l7 t26 t27 l_1 c1).map w_slip_Encode) (c_0 : Slip) (l_1 : List Item) : b_slip_Encode m (fun x0 x1 => some (w_slip_Encode (x0, x1))) k_l7 c_0 l_1 = (b_slip_Encode m (fun x0 x1 => some (x0, x1)) q_l7 c_0 l_1).map w_slip_Encode := by
  simp only [b_slip_Encode, cond_map, bind_map, map_none, map_some, h_l7]
noncomputable def slip_Encode (m : Nat) (c_0 : Slip) (l_1 : List Item) : Option (List Item × Int) := b_slip_Encode m (fun x0 x1 => some (x0, x1)) (fun t26 t27 l_1 c1 => slip_Encode_l7 m m t26 t27 l_1 c1) c_0 l_1
theorem slip_Encode_fun (m : Nat) (c_0 : Slip) (l_1 : List Item) : funK Try.prog (Ψ_slip_Encode m) keep m 1 14 [(dS of_Slip cells_Slip of_Slip_ok).e c_0, (dRow 46).e l_1] = (slip_Encode m c_0 l_1).map w_slip_Encode := by
  rw [slip_Encode_pre]
  exact b_slip_Encode_map m (fun t26 t27 l_1 c1 => L_slip_Encode_l7_eq m m t26 t27 l_1 c1) c_0 l_1
noncomputable def K_slip_Encode (m : Nat) : KnownF C := mkK (dCons (dS of_Slip cells_Slip of_Slip_ok) (dCons (dRow 46) dNil)) (fun a => slip_Encode m a.1 a.2.1) w_slip_Encode
theorem K_slip_Encode_ok (m : Nat) : KnownAt C Try.prog 14 fun l => (K_slip_Encode m).run _ l some :=
  mkK_known good fit (Ψ_slip_Encode_ok m) (keep := keep) (m := m) (d := 1) fun a => slip_Encode_fun m a.1 a.2.1
/-! ### signalbench/signalbenchlaw29.sent -/
def w_law29_sent (b : ByteArray) : List (RV C) := [dStr.e b]
noncomputable def Q_law29_sent_3 (m : Nat) : St C → (Exit → St C → Option (List (RV C))) → Option (List (RV C)) := fun σ k => codeK Try.prog Ψ0 (callK Try.prog Ψ0 keep m 0) (keep 26) m (subC body26 [.r, .r, .l, .r, .b, .o]) σ k
noncomputable def KL_law29_sent_3 (m : Nat) : Exit → St C → Option (List (RV C)) := contK Try.prog Ψ0 (callK Try.prog Ψ0 keep m 0) (keep 26) m body26 [.r, .r, .l, .r, .b, .o] (leaveK Try.prog Try.f26.results.toList (finK Try.prog Try.f26.resultTypes.toList))
noncomputable def L_law29_sent_l3 (m n : Nat) (i_4 : Int) (l_0 : List Item) (out_3 : List Int) : Option (List (RV C)) := iterK (Q_law29_sent_3 m) (St.norm (keep 26 3)) n ({ T := [.fl (.one (.sl 0)), .dead, .dead, .fl (.one (.sl 1)), .fl (.one (.int .i64 i_4))] ++ List.replicate 20 .dead, F := [[]], H := [.row 46 false l_0, .row 5 true out_3] } : St C) (KL_law29_sent_3 m)
noncomputable def b_law29_sent_l3 {R : Type} (m : Nat) (ret : ByteArray → Option R) (k_l3 : Int → List Item → List Int → Option R) (i_4 : Int) (l_0 : List Item) (out_3 : List Int) : Option R :=
 bif decide (i_4 < (l_0.length : Int)) then
 bif decide (0 ≤ i_4) then
 bif decide (i_4 < (l_0.length : Int)) then
 bif decide ((out_3.length + 1) * 1 ≤ 140737488355328) then
 k_l3 (IntKind.i64.wrap (i_4 + 1)) l_0 (out_3 ++ [IntKind.u8.wrap (l_0.getD i_4.toNat dflt_Item).Value])
 else
 none
 else
 none
 else
 none
 else
 ret (toBytes out_3)
theorem L_law29_sent_l3_step (m n : Nat) (i_4 : Int) (l_0 : List Item) (out_3 : List Int) : L_law29_sent_l3 m (n + 1) i_4 l_0 out_3 = b_law29_sent_l3 m (fun x0 => some (w_law29_sent x0)) (fun i_4 l_0 out_3 => L_law29_sent_l3 m n i_4 l_0 out_3) i_4 l_0 out_3 := by kernel_rfl
theorem b_law29_sent_l3_map (m : Nat) {k_l3 : Int → List Item → List Int → Option (List (RV C))} {q_l3 : Int → List Item → List Int → Option (ByteArray)} (h_l3 : ∀ i_4 l_0 out_3, k_l3 i_4 l_0 out_3 = (q_l3 i_4 l_0 out_3).map w_law29_sent) (i_4 : Int) (l_0 : List Item) (out_3 : List Int) : b_law29_sent_l3 m (fun x0 => some (w_law29_sent x0)) k_l3 i_4 l_0 out_3 = (b_law29_sent_l3 m (fun x0 => some x0) q_l3 i_4 l_0 out_3).map w_law29_sent := by
  simp only [b_law29_sent_l3, cond_map, bind_map, map_none, map_some, h_l3]
noncomputable def law29_sent_l3 (m : Nat) : Nat → Int → List Item → List Int → Option (ByteArray)
  | 0, _, _, _ => none
  | n + 1, i_4, l_0, out_3 => b_law29_sent_l3 m (fun x0 => some x0) (fun i_4 l_0 out_3 => law29_sent_l3 m n i_4 l_0 out_3) i_4 l_0 out_3
theorem L_law29_sent_l3_eq (m : Nat) : ∀ (n : Nat) (i_4 : Int) (l_0 : List Item) (out_3 : List Int), L_law29_sent_l3 m n i_4 l_0 out_3 = (law29_sent_l3 m n i_4 l_0 out_3).map w_law29_sent
  | 0, i_4, l_0, out_3 => by kernel_rfl
  | n + 1, i_4, l_0, out_3 => by
    rw [L_law29_sent_l3_step]
    exact b_law29_sent_l3_map m (fun i_4 l_0 out_3 => L_law29_sent_l3_eq m n i_4 l_0 out_3) i_4 l_0 out_3
noncomputable def b_law29_sent {R : Type} (m : Nat) (ret : ByteArray → Option R) (k_l3 : Int → List Item → List Int → Option R) (l_0 : List Item) : Option R :=
 bif decide ((l_0.length : Int) * 1 ≤ 140737488355328) then
 k_l3 0 l_0 (List.replicate 0 0)
 else
 none
theorem law29_sent_pre (m : Nat) (l_0 : List Item) : funK Try.prog Ψ0 keep m 1 26 [(dRow 46).e l_0] = b_law29_sent m (fun x0 => some (w_law29_sent x0)) (fun i_4 l_0 out_3 => L_law29_sent_l3 m m i_4 l_0 out_3) l_0 := by kernel_rfl
theorem b_law29_sent_map (m : Nat) {k_l3 : Int → List Item → List Int → Option (List (RV C))} {q_l3 : Int → List Item → List Int → Option (ByteArray)} (h_l3 : ∀ i_4 l_0 out_3, k_l3 i_4 l_0 out_3 = (q_l3 i_4 l_0 out_3).map w_law29_sent) (l_0 : List Item) : b_law29_sent m (fun x0 => some (w_law29_sent x0)) k_l3 l_0 = (b_law29_sent m (fun x0 => some x0) q_l3 l_0).map w_law29_sent := by
  simp only [b_law29_sent, cond_map, bind_map, map_none, map_some, h_l3]
noncomputable def law29_sent (m : Nat) (l_0 : List Item) : Option (ByteArray) := b_law29_sent m (fun x0 => some x0) (fun i_4 l_0 out_3 => law29_sent_l3 m m i_4 l_0 out_3) l_0
theorem law29_sent_fun (m : Nat) (l_0 : List Item) : funK Try.prog Ψ0 keep m 1 26 [(dRow 46).e l_0] = (law29_sent m l_0).map w_law29_sent := by
  rw [law29_sent_pre]
  exact b_law29_sent_map m (fun i_4 l_0 out_3 => L_law29_sent_l3_eq m m i_4 l_0 out_3) l_0
noncomputable def K_law29_sent (m : Nat) : KnownF C := mkK (dCons (dRow 46) dNil) (fun a => law29_sent m a.1) w_law29_sent
theorem K_law29_sent_ok (m : Nat) : KnownAt C Try.prog 26 fun l => (K_law29_sent m).run _ l some :=
  mkK_known good fit Ψ0_ok (keep := keep) (m := m) (d := 1) fun a => law29_sent_fun m a.1
/-! ### signalbench/signalbenchlaw29.Bytes -/
def w_law29_Bytes (b : List Event) : List (RV C) := [(dRow 27).e b]
noncomputable def Q_law29_Bytes_3 (m : Nat) : St C → (Exit → St C → Option (List (RV C))) → Option (List (RV C)) := fun σ k => codeK Try.prog Ψ0 (callK Try.prog Ψ0 keep m 0) (keep 25) m (subC body25 [.r, .r, .l, .r, .b, .o]) σ k
noncomputable def KL_law29_Bytes_3 (m : Nat) : Exit → St C → Option (List (RV C)) := contK Try.prog Ψ0 (callK Try.prog Ψ0 keep m 0) (keep 25) m body25 [.r, .r, .l, .r, .b, .o] (leaveK Try.prog Try.f25.results.toList (finK Try.prog Try.f25.resultTypes.toList))
noncomputable def L_law29_Bytes_l3 (m n : Nat) (s_0 : ByteArray) (begin_1 : Int) (i_6 : Int) (out_5 : List Event) : Option (List (RV C)) := iterK (Q_law29_Bytes_3 m) (St.norm (keep 25 3)) n ({ T := [.fl (.one (.str s_0)), .fl (.one (.int .i64 begin_1)), .dead, .dead, .dead, .fl (.one (.sl 0)), .fl (.one (.int .i64 i_6))] ++ List.replicate 25 .dead, F := [[]], H := [.row 27 true out_5] } : St C) (KL_law29_Bytes_3 m)
noncomputable def b_law29_Bytes_l3 {R : Type} (m : Nat) (ret : List Event → Option R) (k_l3 : ByteArray → Int → Int → List Event → Option R) (s_0 : ByteArray) (begin_1 : Int) (i_6 : Int) (out_5 : List Event) : Option R :=
 bif decide (i_6 < (s_0.size : Int)) then
 bif decide (0 ≤ i_6) then
 bif decide (i_6 < (s_0.size : Int)) then
 bif decide ((out_5.length + 1) * 64 ≤ 140737488355328) then
 k_l3 s_0 begin_1 (IntKind.i64.wrap (i_6 + 1)) (out_5 ++ [Event.mk 3 (IntKind.i64.wrap (begin_1 + i_6)) (IntKind.i64.wrap (IntKind.i64.wrap (begin_1 + i_6) + 1)) (IntKind.i64.wrap (byteAt s_0 i_6)) 0 (bs []) 0])
 else
 none
 else
 none
 else
 none
 else
 ret out_5
theorem L_law29_Bytes_l3_step (m n : Nat) (s_0 : ByteArray) (begin_1 : Int) (i_6 : Int) (out_5 : List Event) : L_law29_Bytes_l3 m (n + 1) s_0 begin_1 i_6 out_5 = b_law29_Bytes_l3 m (fun x0 => some (w_law29_Bytes x0)) (fun s_0 begin_1 i_6 out_5 => L_law29_Bytes_l3 m n s_0 begin_1 i_6 out_5) s_0 begin_1 i_6 out_5 := by kernel_rfl
theorem b_law29_Bytes_l3_map (m : Nat) {k_l3 : ByteArray → Int → Int → List Event → Option (List (RV C))} {q_l3 : ByteArray → Int → Int → List Event → Option (List Event)} (h_l3 : ∀ s_0 begin_1 i_6 out_5, k_l3 s_0 begin_1 i_6 out_5 = (q_l3 s_0 begin_1 i_6 out_5).map w_law29_Bytes) (s_0 : ByteArray) (begin_1 : Int) (i_6 : Int) (out_5 : List Event) : b_law29_Bytes_l3 m (fun x0 => some (w_law29_Bytes x0)) k_l3 s_0 begin_1 i_6 out_5 = (b_law29_Bytes_l3 m (fun x0 => some x0) q_l3 s_0 begin_1 i_6 out_5).map w_law29_Bytes := by
  simp only [b_law29_Bytes_l3, cond_map, bind_map, map_none, map_some, h_l3]
noncomputable def law29_Bytes_l3 (m : Nat) : Nat → ByteArray → Int → Int → List Event → Option (List Event)
  | 0, _, _, _, _ => none
  | n + 1, s_0, begin_1, i_6, out_5 => b_law29_Bytes_l3 m (fun x0 => some x0) (fun s_0 begin_1 i_6 out_5 => law29_Bytes_l3 m n s_0 begin_1 i_6 out_5) s_0 begin_1 i_6 out_5
theorem L_law29_Bytes_l3_eq (m : Nat) : ∀ (n : Nat) (s_0 : ByteArray) (begin_1 : Int) (i_6 : Int) (out_5 : List Event), L_law29_Bytes_l3 m n s_0 begin_1 i_6 out_5 = (law29_Bytes_l3 m n s_0 begin_1 i_6 out_5).map w_law29_Bytes
  | 0, s_0, begin_1, i_6, out_5 => by kernel_rfl
  | n + 1, s_0, begin_1, i_6, out_5 => by
    rw [L_law29_Bytes_l3_step]
    exact b_law29_Bytes_l3_map m (fun s_0 begin_1 i_6 out_5 => L_law29_Bytes_l3_eq m n s_0 begin_1 i_6 out_5) s_0 begin_1 i_6 out_5
noncomputable def b_law29_Bytes {R : Type} (m : Nat) (ret : List Event → Option R) (k_l3 : ByteArray → Int → Int → List Event → Option R) (s_0 : ByteArray) (begin_1 : Int) : Option R :=
 bif decide ((s_0.size : Int) * 64 ≤ 140737488355328) then
 k_l3 s_0 begin_1 0 (List.replicate 0 (Event.mk 0 0 0 0 0 (bs []) 0))
 else
 none
theorem law29_Bytes_pre (m : Nat) (s_0 : ByteArray) (begin_1 : Int) : funK Try.prog Ψ0 keep m 1 25 [dStr.e s_0, (dInt .i64).e begin_1] = b_law29_Bytes m (fun x0 => some (w_law29_Bytes x0)) (fun s_0 begin_1 i_6 out_5 => L_law29_Bytes_l3 m m s_0 begin_1 i_6 out_5) s_0 begin_1 := by kernel_rfl
theorem b_law29_Bytes_map (m : Nat) {k_l3 : ByteArray → Int → Int → List Event → Option (List (RV C))} {q_l3 : ByteArray → Int → Int → List Event → Option (List Event)} (h_l3 : ∀ s_0 begin_1 i_6 out_5, k_l3 s_0 begin_1 i_6 out_5 = (q_l3 s_0 begin_1 i_6 out_5).map w_law29_Bytes) (s_0 : ByteArray) (begin_1 : Int) : b_law29_Bytes m (fun x0 => some (w_law29_Bytes x0)) k_l3 s_0 begin_1 = (b_law29_Bytes m (fun x0 => some x0) q_l3 s_0 begin_1).map w_law29_Bytes := by
  simp only [b_law29_Bytes, cond_map, bind_map, map_none, map_some, h_l3]
noncomputable def law29_Bytes (m : Nat) (s_0 : ByteArray) (begin_1 : Int) : Option (List Event) := b_law29_Bytes m (fun x0 => some x0) (fun s_0 begin_1 i_6 out_5 => law29_Bytes_l3 m m s_0 begin_1 i_6 out_5) s_0 begin_1
theorem law29_Bytes_fun (m : Nat) (s_0 : ByteArray) (begin_1 : Int) : funK Try.prog Ψ0 keep m 1 25 [dStr.e s_0, (dInt .i64).e begin_1] = (law29_Bytes m s_0 begin_1).map w_law29_Bytes := by
  rw [law29_Bytes_pre]
  exact b_law29_Bytes_map m (fun s_0 begin_1 i_6 out_5 => L_law29_Bytes_l3_eq m m s_0 begin_1 i_6 out_5) s_0 begin_1
noncomputable def K_law29_Bytes (m : Nat) : KnownF C := mkK (dCons dStr (dCons (dInt .i64) dNil)) (fun a => law29_Bytes m a.1 a.2.1) w_law29_Bytes
theorem K_law29_Bytes_ok (m : Nat) : KnownAt C Try.prog 25 fun l => (K_law29_Bytes m).run _ l some :=
  mkK_known good fit Ψ0_ok (keep := keep) (m := m) (d := 1) fun a => law29_Bytes_fun m a.1 a.2.1
/-! ### signalbench/slip.Start -/
def w_slip_Start (b : State) : List (RV C) := [(dS of_State cells_State of_State_ok).e b]
noncomputable def b_slip_Start {R : Type} (m : Nat) (ret : State → Option R) (c_0 : Slip) : Option R :=
 ret (State.mk 0 0 0 0 0 0 0 (bs []))
theorem slip_Start_pre (m : Nat) (c_0 : Slip) : funK Try.prog Ψ0 keep m 1 15 [(dS of_Slip cells_Slip of_Slip_ok).e c_0] = b_slip_Start m (fun x0 => some (w_slip_Start x0)) c_0 := by kernel_rfl
theorem b_slip_Start_map (m : Nat) (c_0 : Slip) : b_slip_Start m (fun x0 => some (w_slip_Start x0)) c_0 = (b_slip_Start m (fun x0 => some x0) c_0).map w_slip_Start := by
  simp only [b_slip_Start, cond_map, bind_map, map_none, map_some]
noncomputable def slip_Start (m : Nat) (c_0 : Slip) : Option (State) := b_slip_Start m (fun x0 => some x0) c_0
theorem slip_Start_fun (m : Nat) (c_0 : Slip) : funK Try.prog Ψ0 keep m 1 15 [(dS of_Slip cells_Slip of_Slip_ok).e c_0] = (slip_Start m c_0).map w_slip_Start := by
  rw [slip_Start_pre]
  exact b_slip_Start_map m c_0
noncomputable def K_slip_Start (m : Nat) : KnownF C := mkK (dCons (dS of_Slip cells_Slip of_Slip_ok) dNil) (fun a => slip_Start m a.1) w_slip_Start
theorem K_slip_Start_ok (m : Nat) : KnownAt C Try.prog 15 fun l => (K_slip_Start m).run _ l some :=
  mkK_known good fit Ψ0_ok (keep := keep) (m := m) (d := 1) fun a => slip_Start_fun m a.1
/-! ### signalbench/event.Valid -/
def w_event_Valid (b : Bool) : List (RV C) := [dBool.e b]
noncomputable def b_event_Valid {R : Type} (m : Nat) (ret : Bool → Option R) (e_0 : Event) : Option R :=
 bif decide (e_0.Kind < 1) then
 ret false
 else
 bif decide (e_0.Kind > 8) then
 ret false
 else
 bif decide (e_0.From < 0) then
 ret false
 else
 bif decide (e_0.From > e_0.To) then
 ret false
 else
 bif decide (e_0.To > 1099511627776) then
 ret false
 else
 bif decide (e_0.Value < -9007199254740992) then
 ret false
 else
 bif decide (e_0.Value > 9007199254740992) then
 ret false
 else
 bif decide (e_0.Aux < -9007199254740992) then
 ret false
 else
 bif decide (e_0.Aux > 9007199254740992) then
 ret false
 else
 bif decide ((e_0.Data.size : Int) ≤ 4096) then
 bif decide (e_0.Fault ≥ 0) then
 ret (decide (e_0.Fault ≤ 12))
 else
 ret false
 else
 ret false
theorem event_Valid_pre (m : Nat) (e_0 : Event) : funK Try.prog Ψ0 keep m 1 29 [(dS of_Event cells_Event of_Event_ok).e e_0] = b_event_Valid m (fun x0 => some (w_event_Valid x0)) e_0 := by kernel_rfl
theorem b_event_Valid_map (m : Nat) (e_0 : Event) : b_event_Valid m (fun x0 => some (w_event_Valid x0)) e_0 = (b_event_Valid m (fun x0 => some x0) e_0).map w_event_Valid := by
  simp only [b_event_Valid, cond_map, bind_map, map_none, map_some]
noncomputable def event_Valid (m : Nat) (e_0 : Event) : Option (Bool) := b_event_Valid m (fun x0 => some x0) e_0
theorem event_Valid_fun (m : Nat) (e_0 : Event) : funK Try.prog Ψ0 keep m 1 29 [(dS of_Event cells_Event of_Event_ok).e e_0] = (event_Valid m e_0).map w_event_Valid := by
  rw [event_Valid_pre]
  exact b_event_Valid_map m e_0
noncomputable def K_event_Valid (m : Nat) : KnownF C := mkK (dCons (dS of_Event cells_Event of_Event_ok) dNil) (fun a => event_Valid m a.1) w_event_Valid
theorem K_event_Valid_ok (m : Nat) : KnownAt C Try.prog 29 fun l => (K_event_Valid m).run _ l some :=
  mkK_known good fit Ψ0_ok (keep := keep) (m := m) (d := 1) fun a => event_Valid_fun m a.1
/-! ### signalbench/slip.anew -/
def w_slip_anew (b : State) : List (RV C) := [(dS of_State cells_State of_State_ok).e b]
noncomputable def b_slip_anew {R : Type} (m : Nat) (ret : State → Option R) (s_0 : State) : Option R :=
 ret (State.mk 0 s_0.At 0 0 0 0 s_0.Prev (bs []))
theorem slip_anew_pre (m : Nat) (s_0 : State) : funK Try.prog Ψ0 keep m 1 30 [(dS of_State cells_State of_State_ok).e s_0] = b_slip_anew m (fun x0 => some (w_slip_anew x0)) s_0 := by kernel_rfl
theorem b_slip_anew_map (m : Nat) (s_0 : State) : b_slip_anew m (fun x0 => some (w_slip_anew x0)) s_0 = (b_slip_anew m (fun x0 => some x0) s_0).map w_slip_anew := by
  simp only [b_slip_anew, cond_map, bind_map, map_none, map_some]
noncomputable def slip_anew (m : Nat) (s_0 : State) : Option (State) := b_slip_anew m (fun x0 => some x0) s_0
theorem slip_anew_fun (m : Nat) (s_0 : State) : funK Try.prog Ψ0 keep m 1 30 [(dS of_State cells_State of_State_ok).e s_0] = (slip_anew m s_0).map w_slip_anew := by
  rw [slip_anew_pre]
  exact b_slip_anew_map m s_0
noncomputable def K_slip_anew (m : Nat) : KnownF C := mkK (dCons (dS of_State cells_State of_State_ok) dNil) (fun a => slip_anew m a.1) w_slip_anew
theorem K_slip_anew_ok (m : Nat) : KnownAt C Try.prog 30 fun l => (K_slip_anew m).run _ l some :=
  mkK_known good fit Ψ0_ok (keep := keep) (m := m) (d := 1) fun a => slip_anew_fun m a.1
/-! ### signalbench/slip.given -/
def w_slip_given (b : List Event) : List (RV C) := [(dRow 27).e b]
noncomputable def b_slip_given {R : Type} (m : Nat) (ret : List Event → Option R) (s_0 : State) (to_1 : Int) : Option R :=
 bif s_0.Phase == 0 then
 ret []
 else
 ret ([Event.mk 6 s_0.From (if to_1 < s_0.From then s_0.From else to_1) 0 0 (bs []) 7])
theorem slip_given_pre (m : Nat) (s_0 : State) (to_1 : Int) : funK Try.prog Ψ0 keep m 1 31 [(dS of_State cells_State of_State_ok).e s_0, (dInt .i64).e to_1] = b_slip_given m (fun x0 => some (w_slip_given x0)) s_0 to_1 := by kernel_rfl
theorem b_slip_given_map (m : Nat) (s_0 : State) (to_1 : Int) : b_slip_given m (fun x0 => some (w_slip_given x0)) s_0 to_1 = (b_slip_given m (fun x0 => some x0) s_0 to_1).map w_slip_given := by
  simp only [b_slip_given, cond_map, bind_map, map_none, map_some]
noncomputable def slip_given (m : Nat) (s_0 : State) (to_1 : Int) : Option (List Event) := b_slip_given m (fun x0 => some x0) s_0 to_1
theorem slip_given_fun (m : Nat) (s_0 : State) (to_1 : Int) : funK Try.prog Ψ0 keep m 1 31 [(dS of_State cells_State of_State_ok).e s_0, (dInt .i64).e to_1] = (slip_given m s_0 to_1).map w_slip_given := by
  rw [slip_given_pre]
  exact b_slip_given_map m s_0 to_1
noncomputable def K_slip_given (m : Nat) : KnownF C := mkK (dCons (dS of_State cells_State of_State_ok) (dCons (dInt .i64) dNil)) (fun a => slip_given m a.1 a.2.1) w_slip_given
theorem K_slip_given_ok (m : Nat) : KnownAt C Try.prog 31 fun l => (K_slip_given m).run _ l some :=
  mkK_known good fit Ψ0_ok (keep := keep) (m := m) (d := 1) fun a => slip_given_fun m a.1 a.2.1
/-! ### signalbench/slip.put -/
def w_slip_put (b : State) : List (RV C) := [(dS of_State cells_State of_State_ok).e b]
noncomputable def b_slip_put {R : Type} (m : Nat) (ret : State → Option R) (c_0 : Slip) (s_1 : State) (b_2 : Int) : Option R :=
 bif decide ((s_1.Data.size : Int) < c_0.Most) then
 bif decide (((s_1.Data.size + (toBytes [b_2]).size) : Int) > 9223372036854775807) then
 none
 else
 ret { s_1 with Data := s_1.Data ++ toBytes [b_2] }
 else
 ret { s_1 with Count := 1 }
theorem slip_put_pre (m : Nat) (c_0 : Slip) (s_1 : State) (b_2 : Int) : funK Try.prog Ψ0 keep m 1 42 [(dS of_Slip cells_Slip of_Slip_ok).e c_0, (dS of_State cells_State of_State_ok).e s_1, (dInt .u8).e b_2] = b_slip_put m (fun x0 => some (w_slip_put x0)) c_0 s_1 b_2 := by kernel_rfl
theorem b_slip_put_map (m : Nat) (c_0 : Slip) (s_1 : State) (b_2 : Int) : b_slip_put m (fun x0 => some (w_slip_put x0)) c_0 s_1 b_2 = (b_slip_put m (fun x0 => some x0) c_0 s_1 b_2).map w_slip_put := by
  simp only [b_slip_put, cond_map, bind_map, map_none, map_some]
noncomputable def slip_put (m : Nat) (c_0 : Slip) (s_1 : State) (b_2 : Int) : Option (State) := b_slip_put m (fun x0 => some x0) c_0 s_1 b_2
theorem slip_put_fun (m : Nat) (c_0 : Slip) (s_1 : State) (b_2 : Int) : funK Try.prog Ψ0 keep m 1 42 [(dS of_Slip cells_Slip of_Slip_ok).e c_0, (dS of_State cells_State of_State_ok).e s_1, (dInt .u8).e b_2] = (slip_put m c_0 s_1 b_2).map w_slip_put := by
  rw [slip_put_pre]
  exact b_slip_put_map m c_0 s_1 b_2
noncomputable def K_slip_put (m : Nat) : KnownF C := mkK (dCons (dS of_Slip cells_Slip of_Slip_ok) (dCons (dS of_State cells_State of_State_ok) (dCons (dInt .u8) dNil))) (fun a => slip_put m a.1 a.2.1 a.2.2.1) w_slip_put
theorem K_slip_put_ok (m : Nat) : KnownAt C Try.prog 42 fun l => (K_slip_put m).run _ l some :=
  mkK_known good fit Ψ0_ok (keep := keep) (m := m) (d := 1) fun a => slip_put_fun m a.1 a.2.1 a.2.2.1
/-! ### signalbench/slip.take -/
noncomputable def Ψ_slip_take (m : Nat) : Known C := fun f => match f with
  | 42 => some (K_slip_put m)
  | _ => none
theorem Ψ_slip_take_ok (m : Nat) : KnownOk C Try.prog (Ψ_slip_take m) := by
  intro f φ h
  unfold Ψ_slip_take at h
  split at h
  · injection h with h; subst h; exact K_slip_put_ok m
  · cases h
def w_slip_take (b : State) : List (RV C) := [(dS of_State cells_State of_State_ok).e b]
noncomputable def b_slip_take {R : Type} (m : Nat) (ret : State → Option R) (c_0 : Slip) (s_1 : State) (from_2 : Int) (b_3 : Int) : Option R :=
 bif s_1.Phase == 0 then
 (bif b_3 == 219 then
 ret { s_1 with Phase := 2, From := from_2 }
 else
 (slip_put m c_0 (State.mk 1 s_1.At from_2 s_1.Count s_1.Acc s_1.Aux s_1.Prev s_1.Data) b_3).bind fun r0 =>
 ret r0)
 else
 bif s_1.Phase == 1 then
 (bif b_3 == 219 then
 ret { s_1 with Phase := 2 }
 else
 bif s_1.Phase == 2 then
 (bif b_3 == 220 then
 ((slip_put m c_0 (State.mk 1 s_1.At s_1.From s_1.Count s_1.Acc s_1.Aux s_1.Prev s_1.Data) 192).bind fun r1 =>
 ret r1)
 else
 bif s_1.Phase == 1 then
 ((slip_put m c_0 (State.mk 1 s_1.At s_1.From s_1.Count s_1.Acc s_1.Aux s_1.Prev s_1.Data) b_3).bind fun r2 =>
 ret r2)
 else
 bif b_3 == 221 then
 ((slip_put m c_0 (State.mk 1 s_1.At s_1.From s_1.Count s_1.Acc s_1.Aux s_1.Prev s_1.Data) 219).bind fun r3 =>
 ret r3)
 else
 ret { s_1 with Phase := 1, Aux := 1 })
 else
 bif s_1.Phase == 1 then
 ((slip_put m c_0 (State.mk 1 s_1.At s_1.From s_1.Count s_1.Acc s_1.Aux s_1.Prev s_1.Data) b_3).bind fun r4 =>
 ret r4)
 else
 bif b_3 == 221 then
 ((slip_put m c_0 (State.mk 1 s_1.At s_1.From s_1.Count s_1.Acc s_1.Aux s_1.Prev s_1.Data) 219).bind fun r5 =>
 ret r5)
 else
 ret { s_1 with Phase := 1, Aux := 1 })
 else
 bif s_1.Phase == 2 then
 (bif b_3 == 220 then
 ((slip_put m c_0 (State.mk 1 s_1.At s_1.From s_1.Count s_1.Acc s_1.Aux s_1.Prev s_1.Data) 192).bind fun r6 =>
 ret r6)
 else
 bif s_1.Phase == 1 then
 ((slip_put m c_0 (State.mk 1 s_1.At s_1.From s_1.Count s_1.Acc s_1.Aux s_1.Prev s_1.Data) b_3).bind fun r7 =>
 ret r7)
 else
 bif b_3 == 221 then
 ((slip_put m c_0 (State.mk 1 s_1.At s_1.From s_1.Count s_1.Acc s_1.Aux s_1.Prev s_1.Data) 219).bind fun r8 =>
 ret r8)
 else
 ret { s_1 with Phase := 1, Aux := 1 })
 else
 bif s_1.Phase == 1 then
 ((slip_put m c_0 (State.mk 1 s_1.At s_1.From s_1.Count s_1.Acc s_1.Aux s_1.Prev s_1.Data) b_3).bind fun r9 =>
 ret r9)
 else
 bif b_3 == 221 then
 ((slip_put m c_0 (State.mk 1 s_1.At s_1.From s_1.Count s_1.Acc s_1.Aux s_1.Prev s_1.Data) 219).bind fun r10 =>
 ret r10)
 else
 ret { s_1 with Phase := 1, Aux := 1 }
theorem slip_take_pre (m : Nat) (c_0 : Slip) (s_1 : State) (from_2 : Int) (b_3 : Int) : funK Try.prog (Ψ_slip_take m) keep m 1 32 [(dS of_Slip cells_Slip of_Slip_ok).e c_0, (dS of_State cells_State of_State_ok).e s_1, (dInt .i64).e from_2, (dInt .u8).e b_3] = b_slip_take m (fun x0 => some (w_slip_take x0)) c_0 s_1 from_2 b_3 := by kernel_rfl
theorem b_slip_take_map (m : Nat) (c_0 : Slip) (s_1 : State) (from_2 : Int) (b_3 : Int) : b_slip_take m (fun x0 => some (w_slip_take x0)) c_0 s_1 from_2 b_3 = (b_slip_take m (fun x0 => some x0) c_0 s_1 from_2 b_3).map w_slip_take := by
  simp only [b_slip_take, cond_map, bind_map, map_none, map_some]
noncomputable def slip_take (m : Nat) (c_0 : Slip) (s_1 : State) (from_2 : Int) (b_3 : Int) : Option (State) := b_slip_take m (fun x0 => some x0) c_0 s_1 from_2 b_3
theorem slip_take_fun (m : Nat) (c_0 : Slip) (s_1 : State) (from_2 : Int) (b_3 : Int) : funK Try.prog (Ψ_slip_take m) keep m 1 32 [(dS of_Slip cells_Slip of_Slip_ok).e c_0, (dS of_State cells_State of_State_ok).e s_1, (dInt .i64).e from_2, (dInt .u8).e b_3] = (slip_take m c_0 s_1 from_2 b_3).map w_slip_take := by
  rw [slip_take_pre]
  exact b_slip_take_map m c_0 s_1 from_2 b_3
noncomputable def K_slip_take (m : Nat) : KnownF C := mkK (dCons (dS of_Slip cells_Slip of_Slip_ok) (dCons (dS of_State cells_State of_State_ok) (dCons (dInt .i64) (dCons (dInt .u8) dNil)))) (fun a => slip_take m a.1 a.2.1 a.2.2.1 a.2.2.2.1) w_slip_take
theorem K_slip_take_ok (m : Nat) : KnownAt C Try.prog 32 fun l => (K_slip_take m).run _ l some :=
  mkK_known good fit (Ψ_slip_take_ok m) (keep := keep) (m := m) (d := 1) fun a => slip_take_fun m a.1 a.2.1 a.2.2.1 a.2.2.2.1
/-! ### signalbench/slip.complete -/
def w_slip_complete (b : Event) : List (RV C) := [(dS of_Event cells_Event of_Event_ok).e b]
noncomputable def b_slip_complete {R : Type} (m : Nat) (ret : Event → Option R) (s_0 : State) (to_1 : Int) : Option R :=
 bif s_0.Aux == 1 then
 ret (Event.mk 6 s_0.From to_1 0 0 s_0.Data 5)
 else
 bif decide (s_0.Count > 0) then
 ret (Event.mk 6 s_0.From to_1 0 0 s_0.Data 8)
 else
 ret (Event.mk 6 s_0.From to_1 0 0 s_0.Data 0)
theorem slip_complete_pre (m : Nat) (s_0 : State) (to_1 : Int) : funK Try.prog Ψ0 keep m 1 33 [(dS of_State cells_State of_State_ok).e s_0, (dInt .i64).e to_1] = b_slip_complete m (fun x0 => some (w_slip_complete x0)) s_0 to_1 := by kernel_rfl
theorem b_slip_complete_map (m : Nat) (s_0 : State) (to_1 : Int) : b_slip_complete m (fun x0 => some (w_slip_complete x0)) s_0 to_1 = (b_slip_complete m (fun x0 => some x0) s_0 to_1).map w_slip_complete := by
  simp only [b_slip_complete, cond_map, bind_map, map_none, map_some]
noncomputable def slip_complete (m : Nat) (s_0 : State) (to_1 : Int) : Option (Event) := b_slip_complete m (fun x0 => some x0) s_0 to_1
theorem slip_complete_fun (m : Nat) (s_0 : State) (to_1 : Int) : funK Try.prog Ψ0 keep m 1 33 [(dS of_State cells_State of_State_ok).e s_0, (dInt .i64).e to_1] = (slip_complete m s_0 to_1).map w_slip_complete := by
  rw [slip_complete_pre]
  exact b_slip_complete_map m s_0 to_1
noncomputable def K_slip_complete (m : Nat) : KnownF C := mkK (dCons (dS of_State cells_State of_State_ok) (dCons (dInt .i64) dNil)) (fun a => slip_complete m a.1 a.2.1) w_slip_complete
theorem K_slip_complete_ok (m : Nat) : KnownAt C Try.prog 33 fun l => (K_slip_complete m).run _ l some :=
  mkK_known good fit Ψ0_ok (keep := keep) (m := m) (d := 1) fun a => slip_complete_fun m a.1 a.2.1
/-! ### signalbench/slip.Step -/
noncomputable def Ψ_slip_Step (m : Nat) : Known C := fun f => match f with
  | 10 => some (K_slip_Check m)
  | 29 => some (K_event_Valid m)
  | 30 => some (K_slip_anew m)
  | 31 => some (K_slip_given m)
  | 32 => some (K_slip_take m)
  | 33 => some (K_slip_complete m)
  | _ => none
theorem Ψ_slip_Step_ok (m : Nat) : KnownOk C Try.prog (Ψ_slip_Step m) := by
  intro f φ h
  unfold Ψ_slip_Step at h
  split at h
  · injection h with h; subst h; exact K_slip_Check_ok m
  · injection h with h; subst h; exact K_event_Valid_ok m
  · injection h with h; subst h; exact K_slip_anew_ok m
  · injection h with h; subst h; exact K_slip_given_ok m
  · injection h with h; subst h; exact K_slip_take_ok m
  · injection h with h; subst h; exact K_slip_complete_ok m
  · cases h
def w_slip_Step (b : State × List Event) : List (RV C) := [(dS of_State cells_State of_State_ok).e b.1, (dRow 27).e b.2]
noncomputable def b_slip_Step {R : Type} (m : Nat) (ret : State → List Event → Option R) (c_0 : Slip) (s_1 : State) (e_2 : Event) : Option R :=
 (slip_Check m c_0).bind fun r0 =>
 bif r0 != 0 then
 ret s_1 []
 else
 (event_Valid m e_2).bind fun r1 =>
 bif !r1 then
 ret s_1 []
 else
 bif e_2.Kind != 3 then
 ret s_1 []
 else
 bif decide (e_2.Value < 0) then
 ret s_1 []
 else
 bif decide (e_2.Value > 255) then
 ret s_1 []
 else
 bif decide (e_2.From < s_1.Prev) then
 ret s_1 []
 else
 bif e_2.Fault != 0 then
 ((slip_given m (State.mk s_1.Phase e_2.To s_1.From s_1.Count s_1.Acc s_1.Aux e_2.From s_1.Data) e_2.From).bind fun r2 =>
 ret (State.mk 0 e_2.To 0 0 0 0 e_2.From (bs [])) r2)
 else
 bif e_2.Value != 192 then
 ((slip_take m c_0 (State.mk s_1.Phase e_2.To s_1.From s_1.Count s_1.Acc s_1.Aux e_2.From s_1.Data) e_2.From (IntKind.u8.wrap e_2.Value)).bind fun r3 =>
 ret r3 [])
 else
 bif s_1.Phase == 0 then
 ret { s_1 with At := e_2.To, Prev := e_2.From } []
 else
 bif s_1.Phase == 2 then
 ret (State.mk 0 e_2.To 0 0 0 0 e_2.From (bs [])) ([Event.mk 6 s_1.From e_2.To 0 0 s_1.Data 5])
 else
 (slip_complete m (State.mk s_1.Phase e_2.To s_1.From s_1.Count s_1.Acc s_1.Aux e_2.From s_1.Data) e_2.To).bind fun r4 =>
 ret (State.mk 0 e_2.To 0 0 0 0 e_2.From (bs [])) [r4]
theorem slip_Step_pre (m : Nat) (c_0 : Slip) (s_1 : State) (e_2 : Event) : funK Try.prog (Ψ_slip_Step m) keep m 1 13 [(dS of_Slip cells_Slip of_Slip_ok).e c_0, (dS of_State cells_State of_State_ok).e s_1, (dS of_Event cells_Event of_Event_ok).e e_2] = b_slip_Step m (fun x0 x1 => some (w_slip_Step (x0, x1))) c_0 s_1 e_2 := by kernel_rfl
theorem b_slip_Step_map (m : Nat) (c_0 : Slip) (s_1 : State) (e_2 : Event) : b_slip_Step m (fun x0 x1 => some (w_slip_Step (x0, x1))) c_0 s_1 e_2 = (b_slip_Step m (fun x0 x1 => some (x0, x1)) c_0 s_1 e_2).map w_slip_Step := by
  simp only [b_slip_Step, cond_map, bind_map, map_none, map_some]
noncomputable def slip_Step (m : Nat) (c_0 : Slip) (s_1 : State) (e_2 : Event) : Option (State × List Event) := b_slip_Step m (fun x0 x1 => some (x0, x1)) c_0 s_1 e_2
theorem slip_Step_fun (m : Nat) (c_0 : Slip) (s_1 : State) (e_2 : Event) : funK Try.prog (Ψ_slip_Step m) keep m 1 13 [(dS of_Slip cells_Slip of_Slip_ok).e c_0, (dS of_State cells_State of_State_ok).e s_1, (dS of_Event cells_Event of_Event_ok).e e_2] = (slip_Step m c_0 s_1 e_2).map w_slip_Step := by
  rw [slip_Step_pre]
  exact b_slip_Step_map m c_0 s_1 e_2
noncomputable def K_slip_Step (m : Nat) : KnownF C := mkK (dCons (dS of_Slip cells_Slip of_Slip_ok) (dCons (dS of_State cells_State of_State_ok) (dCons (dS of_Event cells_Event of_Event_ok) dNil))) (fun a => slip_Step m a.1 a.2.1 a.2.2.1) w_slip_Step
theorem K_slip_Step_ok (m : Nat) : KnownAt C Try.prog 13 fun l => (K_slip_Step m).run _ l some :=
  mkK_known good fit (Ψ_slip_Step_ok m) (keep := keep) (m := m) (d := 1) fun a => slip_Step_fun m a.1 a.2.1 a.2.2.1
/-! ### signalbench/slip.End -/
noncomputable def Ψ_slip_End (m : Nat) : Known C := fun f => match f with
  | 10 => some (K_slip_Check m)
  | 31 => some (K_slip_given m)
  | _ => none
theorem Ψ_slip_End_ok (m : Nat) : KnownOk C Try.prog (Ψ_slip_End m) := by
  intro f φ h
  unfold Ψ_slip_End at h
  split at h
  · injection h with h; subst h; exact K_slip_Check_ok m
  · injection h with h; subst h; exact K_slip_given_ok m
  · cases h
def w_slip_End (b : List Event) : List (RV C) := [(dRow 27).e b]
noncomputable def b_slip_End {R : Type} (m : Nat) (ret : List Event → Option R) (c_0 : Slip) (s_1 : State) : Option R :=
 (slip_Check m c_0).bind fun r0 =>
 bif r0 != 0 then
 ret []
 else
 (slip_given m s_1 s_1.At).bind fun r1 =>
 ret r1
theorem slip_End_pre (m : Nat) (c_0 : Slip) (s_1 : State) : funK Try.prog (Ψ_slip_End m) keep m 1 16 [(dS of_Slip cells_Slip of_Slip_ok).e c_0, (dS of_State cells_State of_State_ok).e s_1] = b_slip_End m (fun x0 => some (w_slip_End x0)) c_0 s_1 := by kernel_rfl
theorem b_slip_End_map (m : Nat) (c_0 : Slip) (s_1 : State) : b_slip_End m (fun x0 => some (w_slip_End x0)) c_0 s_1 = (b_slip_End m (fun x0 => some x0) c_0 s_1).map w_slip_End := by
  simp only [b_slip_End, cond_map, bind_map, map_none, map_some]
noncomputable def slip_End (m : Nat) (c_0 : Slip) (s_1 : State) : Option (List Event) := b_slip_End m (fun x0 => some x0) c_0 s_1
theorem slip_End_fun (m : Nat) (c_0 : Slip) (s_1 : State) : funK Try.prog (Ψ_slip_End m) keep m 1 16 [(dS of_Slip cells_Slip of_Slip_ok).e c_0, (dS of_State cells_State of_State_ok).e s_1] = (slip_End m c_0 s_1).map w_slip_End := by
  rw [slip_End_pre]
  exact b_slip_End_map m c_0 s_1
noncomputable def K_slip_End (m : Nat) : KnownF C := mkK (dCons (dS of_Slip cells_Slip of_Slip_ok) (dCons (dS of_State cells_State of_State_ok) dNil)) (fun a => slip_End m a.1 a.2.1) w_slip_End
theorem K_slip_End_ok (m : Nat) : KnownAt C Try.prog 16 fun l => (K_slip_End m).run _ l some :=
  mkK_known good fit (Ψ_slip_End_ok m) (keep := keep) (m := m) (d := 1) fun a => slip_End_fun m a.1 a.2.1
/-! ### signalbench/slip.Decode -/
noncomputable def Ψ_slip_Decode (m : Nat) : Known C := fun f => match f with
  | 15 => some (K_slip_Start m)
  | 13 => some (K_slip_Step m)
  | 16 => some (K_slip_End m)
  | _ => none
theorem Ψ_slip_Decode_ok (m : Nat) : KnownOk C Try.prog (Ψ_slip_Decode m) := by
  intro f φ h
  unfold Ψ_slip_Decode at h
  split at h
  · injection h with h; subst h; exact K_slip_Start_ok m
  · injection h with h; subst h; exact K_slip_Step_ok m
  · injection h with h; subst h; exact K_slip_End_ok m
  · cases h
def w_slip_Decode (b : List Event) : List (RV C) := [(dRow 27).e b]
noncomputable def Q_slip_Decode_4 (m : Nat) : St C → (Exit → St C → Option (List (RV C))) → Option (List (RV C)) := fun σ k => codeK Try.prog (Ψ_slip_Decode m) (callK Try.prog (Ψ_slip_Decode m) keep m 0) (keep 17) m (subC body17 [.r, .r, .r, .l, .r, .b, .o]) σ k
noncomputable def KL_slip_Decode_4 (m : Nat) : Exit → St C → Option (List (RV C)) := contK Try.prog (Ψ_slip_Decode m) (callK Try.prog (Ψ_slip_Decode m) keep m 0) (keep 17) m body17 [.r, .r, .r, .l, .r, .b, .o] (leaveK Try.prog Try.f17.results.toList (finK Try.prog Try.f17.resultTypes.toList))
noncomputable def L_slip_Decode_l4 (m n : Nat) (t14 : Int) (t15 : Int) (c0 : Slip) (c1 : State) (out_6 : List Event) (t13 : List Event) : Option (List (RV C)) := iterK (Q_slip_Decode_4 m) (St.norm (keep 17 4)) n ({ T := [.dead, .dead, .fl (.one (.ptr 0 0)), .dead, .dead, .fl (.one (.ptr 1 0)), .fl (.one (.sl 2)), .dead, .dead, .dead, .dead, .dead, .dead, .fl (.one (.sl 3)), .fl (.one (.int .i64 t14)), .fl (.one (.int .i64 t15))] ++ List.replicate 20 .dead, F := [[]], H := [.box 23 (cells_Slip c0), .box 25 (cells_State c1), .row 27 true out_6, .row 27 false t13] } : St C) (KL_slip_Decode_4 m)
noncomputable def b_slip_Decode_l4 {R : Type} (m : Nat) (ret : List Event → Option R) (k_l4 : Int → Int → Slip → State → List Event → List Event → Option R) (t14 : Int) (t15 : Int) (c0 : Slip) (c1 : State) (out_6 : List Event) (t13 : List Event) : Option R :=
 bif decide (t15 < t14) then
 (bif decide (0 ≤ t15) then
 (bif decide (t15 < (t13.length : Int)) then
 ((slip_Step m c0 c1 (t13.getD t15.toNat dflt_Event)).bind fun r0 =>
 bif decide ((out_6.length + r0.snd.length) * 64 ≤ 140737488355328) then
 k_l4 t14 (IntKind.i64.wrap (t15 + 1)) c0 r0.fst (out_6 ++ r0.snd) t13
 else
 none)
 else
 none)
 else
 none)
 else
 (slip_End m c0 c1).bind fun r1 =>
 bif decide ((out_6.length + r1.length) * 64 ≤ 140737488355328) then
 ret (out_6 ++ r1)
 else
 none
theorem L_slip_Decode_l4_step (m n : Nat) (t14 : Int) (t15 : Int) (c0 : Slip) (c1 : State) (out_6 : List Event) (t13 : List Event) : L_slip_Decode_l4 m (n + 1) t14 t15 c0 c1 out_6 t13 = b_slip_Decode_l4 m (fun x0 => some (w_slip_Decode x0)) (fun t14 t15 c0 c1 out_6 t13 => L_slip_Decode_l4 m n t14 t15 c0 c1 out_6 t13) t14 t15 c0 c1 out_6 t13 := by kernel_rfl
theorem b_slip_Decode_l4_map (m : Nat) {k_l4 : Int → Int → Slip → State → List Event → List Event → Option (List (RV C))} {q_l4 : Int → Int → Slip → State → List Event → List Event → Option (List Event)} (h_l4 : ∀ t14 t15 c0 c1 out_6 t13, k_l4 t14 t15 c0 c1 out_6 t13 = (q_l4 t14 t15 c0 c1 out_6 t13).map w_slip_Decode) (t14 : Int) (t15 : Int) (c0 : Slip) (c1 : State) (out_6 : List Event) (t13 : List Event) : b_slip_Decode_l4 m (fun x0 => some (w_slip_Decode x0)) k_l4 t14 t15 c0 c1 out_6 t13 = (b_slip_Decode_l4 m (fun x0 => some x0) q_l4 t14 t15 c0 c1 out_6 t13).map w_slip_Decode := by
  simp only [b_slip_Decode_l4, cond_map, bind_map, map_none, map_some, h_l4]
noncomputable def slip_Decode_l4 (m : Nat) : Nat → Int → Int → Slip → State → List Event → List Event → Option (List Event)
  | 0, _, _, _, _, _, _ => none
  | n + 1, t14, t15, c0, c1, out_6, t13 => b_slip_Decode_l4 m (fun x0 => some x0) (fun t14 t15 c0 c1 out_6 t13 => slip_Decode_l4 m n t14 t15 c0 c1 out_6 t13) t14 t15 c0 c1 out_6 t13
theorem L_slip_Decode_l4_eq (m : Nat) : ∀ (n : Nat) (t14 : Int) (t15 : Int) (c0 : Slip) (c1 : State) (out_6 : List Event) (t13 : List Event), L_slip_Decode_l4 m n t14 t15 c0 c1 out_6 t13 = (slip_Decode_l4 m n t14 t15 c0 c1 out_6 t13).map w_slip_Decode
  | 0, t14, t15, c0, c1, out_6, t13 => by kernel_rfl
  | n + 1, t14, t15, c0, c1, out_6, t13 => by
    rw [L_slip_Decode_l4_step]
    exact b_slip_Decode_l4_map m (fun t14 t15 c0 c1 out_6 t13 => L_slip_Decode_l4_eq m n t14 t15 c0 c1 out_6 t13) t14 t15 c0 c1 out_6 t13
noncomputable def b_slip_Decode {R : Type} (m : Nat) (ret : List Event → Option R) (k_l4 : Int → Int → Slip → State → List Event → List Event → Option R) (c_0 : Slip) (l_1 : List Event) : Option R :=
 k_l4 (l_1.length : Int) 0 c_0 (State.mk 0 0 0 0 0 0 0 (bs [])) [] l_1
theorem slip_Decode_pre (m : Nat) (c_0 : Slip) (l_1 : List Event) : funK Try.prog (Ψ_slip_Decode m) keep m 1 17 [(dS of_Slip cells_Slip of_Slip_ok).e c_0, (dRow 27).e l_1] = b_slip_Decode m (fun x0 => some (w_slip_Decode x0)) (fun t14 t15 c0 c1 out_6 t13 => L_slip_Decode_l4 m m t14 t15 c0 c1 out_6 t13) c_0 l_1 := by kernel_rfl
theorem b_slip_Decode_map (m : Nat) {k_l4 : Int → Int → Slip → State → List Event → List Event → Option (List (RV C))} {q_l4 : Int → Int → Slip → State → List Event → List Event → Option (List Event)} (h_l4 : ∀ t14 t15 c0 c1 out_6 t13, k_l4 t14 t15 c0 c1 out_6 t13 = (q_l4 t14 t15 c0 c1 out_6 t13).map w_slip_Decode) (c_0 : Slip) (l_1 : List Event) : b_slip_Decode m (fun x0 => some (w_slip_Decode x0)) k_l4 c_0 l_1 = (b_slip_Decode m (fun x0 => some x0) q_l4 c_0 l_1).map w_slip_Decode := by
  simp only [b_slip_Decode, cond_map, bind_map, map_none, map_some, h_l4]
noncomputable def slip_Decode (m : Nat) (c_0 : Slip) (l_1 : List Event) : Option (List Event) := b_slip_Decode m (fun x0 => some x0) (fun t14 t15 c0 c1 out_6 t13 => slip_Decode_l4 m m t14 t15 c0 c1 out_6 t13) c_0 l_1
theorem slip_Decode_fun (m : Nat) (c_0 : Slip) (l_1 : List Event) : funK Try.prog (Ψ_slip_Decode m) keep m 1 17 [(dS of_Slip cells_Slip of_Slip_ok).e c_0, (dRow 27).e l_1] = (slip_Decode m c_0 l_1).map w_slip_Decode := by
  rw [slip_Decode_pre]
  exact b_slip_Decode_map m (fun t14 t15 c0 c1 out_6 t13 => L_slip_Decode_l4_eq m m t14 t15 c0 c1 out_6 t13) c_0 l_1
noncomputable def K_slip_Decode (m : Nat) : KnownF C := mkK (dCons (dS of_Slip cells_Slip of_Slip_ok) (dCons (dRow 27) dNil)) (fun a => slip_Decode m a.1 a.2.1) w_slip_Decode
theorem K_slip_Decode_ok (m : Nat) : KnownAt C Try.prog 17 fun l => (K_slip_Decode m).run _ l some :=
  mkK_known good fit (Ψ_slip_Decode_ok m) (keep := keep) (m := m) (d := 1) fun a => slip_Decode_fun m a.1 a.2.1
/-! ### signalbench/signalbenchlaw29.packet -/
def w_law29_packet (b : Event) : List (RV C) := [(dS of_Event cells_Event of_Event_ok).e b]
noncomputable def b_law29_packet {R : Type} (m : Nat) (ret : Event → Option R) (from_0 : Int) (to_1 : Int) (data_2 : ByteArray) (fault_3 : Int) : Option R :=
 ret (Event.mk 6 from_0 to_1 0 0 data_2 fault_3)
theorem law29_packet_pre (m : Nat) (from_0 : Int) (to_1 : Int) (data_2 : ByteArray) (fault_3 : Int) : funK Try.prog Ψ0 keep m 1 27 [(dInt .i64).e from_0, (dInt .i64).e to_1, dStr.e data_2, (dInt .i64).e fault_3] = b_law29_packet m (fun x0 => some (w_law29_packet x0)) from_0 to_1 data_2 fault_3 := by kernel_rfl
theorem b_law29_packet_map (m : Nat) (from_0 : Int) (to_1 : Int) (data_2 : ByteArray) (fault_3 : Int) : b_law29_packet m (fun x0 => some (w_law29_packet x0)) from_0 to_1 data_2 fault_3 = (b_law29_packet m (fun x0 => some x0) from_0 to_1 data_2 fault_3).map w_law29_packet := by
  simp only [b_law29_packet, cond_map, bind_map, map_none, map_some]
noncomputable def law29_packet (m : Nat) (from_0 : Int) (to_1 : Int) (data_2 : ByteArray) (fault_3 : Int) : Option (Event) := b_law29_packet m (fun x0 => some x0) from_0 to_1 data_2 fault_3
theorem law29_packet_fun (m : Nat) (from_0 : Int) (to_1 : Int) (data_2 : ByteArray) (fault_3 : Int) : funK Try.prog Ψ0 keep m 1 27 [(dInt .i64).e from_0, (dInt .i64).e to_1, dStr.e data_2, (dInt .i64).e fault_3] = (law29_packet m from_0 to_1 data_2 fault_3).map w_law29_packet := by
  rw [law29_packet_pre]
  exact b_law29_packet_map m from_0 to_1 data_2 fault_3
noncomputable def K_law29_packet (m : Nat) : KnownF C := mkK (dCons (dInt .i64) (dCons (dInt .i64) (dCons dStr (dCons (dInt .i64) dNil)))) (fun a => law29_packet m a.1 a.2.1 a.2.2.1 a.2.2.2.1) w_law29_packet
theorem K_law29_packet_ok (m : Nat) : KnownAt C Try.prog 27 fun l => (K_law29_packet m).run _ l some :=
  mkK_known good fit Ψ0_ok (keep := keep) (m := m) (d := 1) fun a => law29_packet_fun m a.1 a.2.1 a.2.2.1 a.2.2.2.1
/-! ### signalbench/signalbenchref07.Same -/
def w_ref07_Same (b : Bool) : List (RV C) := [dBool.e b]
noncomputable def Q_ref07_Same_4 (m : Nat) : St C → (Exit → St C → Option (List (RV C))) → Option (List (RV C)) := fun σ k => codeK Try.prog Ψ0 (callK Try.prog Ψ0 keep m 0) (keep 20) m (subC body20 [.r, .r, .l, .r, .b, .o]) σ k
noncomputable def KL_ref07_Same_4 (m : Nat) : Exit → St C → Option (List (RV C)) := contK Try.prog Ψ0 (callK Try.prog Ψ0 keep m 0) (keep 20) m body20 [.r, .r, .l, .r, .b, .o] (leaveK Try.prog Try.f20.results.toList (finK Try.prog Try.f20.resultTypes.toList))
noncomputable def L_ref07_Same_l4 (m n : Nat) (i_5 : Int) (a_0 : List Event) (b_1 : List Event) : Option (List (RV C)) := iterK (Q_ref07_Same_4 m) (St.norm (keep 20 4)) n ({ T := [.fl (.one (.sl 0)), .fl (.one (.sl 1)), .dead, .dead, .dead, .fl (.one (.int .i64 i_5))] ++ List.replicate 20 .dead, F := [[]], H := [.row 27 false a_0, .row 27 false b_1] } : St C) (KL_ref07_Same_4 m)
noncomputable def b_ref07_Same_l4 {R : Type} (m : Nat) (ret : Bool → Option R) (k_l4 : Int → List Event → List Event → Option R) (i_5 : Int) (a_0 : List Event) (b_1 : List Event) : Option R :=
 bif decide (i_5 < (a_0.length : Int)) then
 bif decide (0 ≤ i_5) then
 bif decide (i_5 < (a_0.length : Int)) then
 bif decide (0 ≤ i_5) then
 bif decide (i_5 < (b_1.length : Int)) then
 bif !((a_0.getD i_5.toNat dflt_Event).Kind == (b_1.getD i_5.toNat dflt_Event).Kind && ((a_0.getD i_5.toNat dflt_Event).From == (b_1.getD i_5.toNat dflt_Event).From && ((a_0.getD i_5.toNat dflt_Event).To == (b_1.getD i_5.toNat dflt_Event).To && ((a_0.getD i_5.toNat dflt_Event).Value == (b_1.getD i_5.toNat dflt_Event).Value && ((a_0.getD i_5.toNat dflt_Event).Aux == (b_1.getD i_5.toNat dflt_Event).Aux && ((a_0.getD i_5.toNat dflt_Event).Data == (b_1.getD i_5.toNat dflt_Event).Data && ((a_0.getD i_5.toNat dflt_Event).Fault == (b_1.getD i_5.toNat dflt_Event).Fault && true))))))) then
 ret false
 else
 k_l4 (IntKind.i64.wrap (i_5 + 1)) a_0 b_1
 else
 none
 else
 none
 else
 none
 else
 none
 else
 ret true
theorem L_ref07_Same_l4_step (m n : Nat) (i_5 : Int) (a_0 : List Event) (b_1 : List Event) : L_ref07_Same_l4 m (n + 1) i_5 a_0 b_1 = b_ref07_Same_l4 m (fun x0 => some (w_ref07_Same x0)) (fun i_5 a_0 b_1 => L_ref07_Same_l4 m n i_5 a_0 b_1) i_5 a_0 b_1 := by kernel_rfl
theorem b_ref07_Same_l4_map (m : Nat) {k_l4 : Int → List Event → List Event → Option (List (RV C))} {q_l4 : Int → List Event → List Event → Option (Bool)} (h_l4 : ∀ i_5 a_0 b_1, k_l4 i_5 a_0 b_1 = (q_l4 i_5 a_0 b_1).map w_ref07_Same) (i_5 : Int) (a_0 : List Event) (b_1 : List Event) : b_ref07_Same_l4 m (fun x0 => some (w_ref07_Same x0)) k_l4 i_5 a_0 b_1 = (b_ref07_Same_l4 m (fun x0 => some x0) q_l4 i_5 a_0 b_1).map w_ref07_Same := by
  simp only [b_ref07_Same_l4, cond_map, bind_map, map_none, map_some, h_l4]
noncomputable def ref07_Same_l4 (m : Nat) : Nat → Int → List Event → List Event → Option (Bool)
  | 0, _, _, _ => none
  | n + 1, i_5, a_0, b_1 => b_ref07_Same_l4 m (fun x0 => some x0) (fun i_5 a_0 b_1 => ref07_Same_l4 m n i_5 a_0 b_1) i_5 a_0 b_1
theorem L_ref07_Same_l4_eq (m : Nat) : ∀ (n : Nat) (i_5 : Int) (a_0 : List Event) (b_1 : List Event), L_ref07_Same_l4 m n i_5 a_0 b_1 = (ref07_Same_l4 m n i_5 a_0 b_1).map w_ref07_Same
  | 0, i_5, a_0, b_1 => by kernel_rfl
  | n + 1, i_5, a_0, b_1 => by
    rw [L_ref07_Same_l4_step]
    exact b_ref07_Same_l4_map m (fun i_5 a_0 b_1 => L_ref07_Same_l4_eq m n i_5 a_0 b_1) i_5 a_0 b_1
noncomputable def b_ref07_Same {R : Type} (m : Nat) (ret : Bool → Option R) (k_l4 : Int → List Event → List Event → Option R) (a_0 : List Event) (b_1 : List Event) : Option R :=
 bif (a_0.length : Int) != (b_1.length : Int) then
 ret false
 else
 k_l4 0 a_0 b_1
theorem ref07_Same_pre (m : Nat) (a_0 : List Event) (b_1 : List Event) : funK Try.prog Ψ0 keep m 1 20 [(dRow 27).e a_0, (dRow 27).e b_1] = b_ref07_Same m (fun x0 => some (w_ref07_Same x0)) (fun i_5 a_0 b_1 => L_ref07_Same_l4 m m i_5 a_0 b_1) a_0 b_1 := by kernel_rfl
theorem b_ref07_Same_map (m : Nat) {k_l4 : Int → List Event → List Event → Option (List (RV C))} {q_l4 : Int → List Event → List Event → Option (Bool)} (h_l4 : ∀ i_5 a_0 b_1, k_l4 i_5 a_0 b_1 = (q_l4 i_5 a_0 b_1).map w_ref07_Same) (a_0 : List Event) (b_1 : List Event) : b_ref07_Same m (fun x0 => some (w_ref07_Same x0)) k_l4 a_0 b_1 = (b_ref07_Same m (fun x0 => some x0) q_l4 a_0 b_1).map w_ref07_Same := by
  simp only [b_ref07_Same, cond_map, bind_map, map_none, map_some, h_l4]
noncomputable def ref07_Same (m : Nat) (a_0 : List Event) (b_1 : List Event) : Option (Bool) := b_ref07_Same m (fun x0 => some x0) (fun i_5 a_0 b_1 => ref07_Same_l4 m m i_5 a_0 b_1) a_0 b_1
theorem ref07_Same_fun (m : Nat) (a_0 : List Event) (b_1 : List Event) : funK Try.prog Ψ0 keep m 1 20 [(dRow 27).e a_0, (dRow 27).e b_1] = (ref07_Same m a_0 b_1).map w_ref07_Same := by
  rw [ref07_Same_pre]
  exact b_ref07_Same_map m (fun i_5 a_0 b_1 => L_ref07_Same_l4_eq m m i_5 a_0 b_1) a_0 b_1
noncomputable def K_ref07_Same (m : Nat) : KnownF C := mkK (dCons (dRow 27) (dCons (dRow 27) dNil)) (fun a => ref07_Same m a.1 a.2.1) w_ref07_Same
theorem K_ref07_Same_ok (m : Nat) : KnownAt C Try.prog 20 fun l => (K_ref07_Same m).run _ l some :=
  mkK_known good fit Ψ0_ok (keep := keep) (m := m) (d := 1) fun a => ref07_Same_fun m a.1 a.2.1
/-! ### signalbench/signalbenchlaw29.awake -/
noncomputable def Ψ_law29_awake (m : Nat) : Known C := fun f => match f with
  | 28 => some (K_law29_Example m)
  | 14 => some (K_slip_Encode m)
  | 26 => some (K_law29_sent m)
  | 25 => some (K_law29_Bytes m)
  | 17 => some (K_slip_Decode m)
  | 27 => some (K_law29_packet m)
  | 20 => some (K_ref07_Same m)
  | 10 => some (K_slip_Check m)
  | _ => none
theorem Ψ_law29_awake_ok (m : Nat) : KnownOk C Try.prog (Ψ_law29_awake m) := by
  intro f φ h
  unfold Ψ_law29_awake at h
  split at h
  · injection h with h; subst h; exact K_law29_Example_ok m
  · injection h with h; subst h; exact K_slip_Encode_ok m
  · injection h with h; subst h; exact K_law29_sent_ok m
  · injection h with h; subst h; exact K_law29_Bytes_ok m
  · injection h with h; subst h; exact K_slip_Decode_ok m
  · injection h with h; subst h; exact K_law29_packet_ok m
  · injection h with h; subst h; exact K_ref07_Same_ok m
  · injection h with h; subst h; exact K_slip_Check_ok m
  · cases h
def w_law29_awake (b : Bool) : List (RV C) := [dBool.e b]
noncomputable def b_law29_awake {R : Type} (m : Nat) (ret : Bool → Option R) : Option R :=
 (slip_Encode m (Slip.mk 4) [Item.mk 5 0 0 (bs [97, 219]) 0]).bind fun r0 =>
 bif r0.snd == 0 then
 ((law29_sent m r0.fst).bind fun r1 =>
 bif r1.toList == (bs [192, 97, 219, 221, 192]).toList then
 (bif decide (0 < (r0.fst.length : Int)) then
 (bif (r0.fst.getD 0 dflt_Item).Gap == 5 then
 ((law29_Bytes m (bs [192, 97, 219, 220, 192, 97, 219, 98, 99, 192]) 0).bind fun r2 =>
 (slip_Decode m (Slip.mk 4) r2).bind fun r3 =>
 (ref07_Same m r3 [Event.mk 6 1 5 0 0 (bs [97, 192]) 0, Event.mk 6 5 10 0 0 (bs [97, 99]) 5]).bind fun r4 =>
 bif r4 then
 ret true
 else
 ret false)
 else
 ret false)
 else
 none)
 else
 ret false)
 else
 ret false
theorem law29_awake_pre (m : Nat) : funK Try.prog (Ψ_law29_awake m) keep m 1 12 [] = b_law29_awake m (fun x0 => some (w_law29_awake x0)) := by kernel_rfl
theorem b_law29_awake_map (m : Nat) : b_law29_awake m (fun x0 => some (w_law29_awake x0)) = (b_law29_awake m (fun x0 => some x0)).map w_law29_awake := by
  simp only [b_law29_awake, cond_map, bind_map, map_none, map_some]
noncomputable def law29_awake (m : Nat) : Option (Bool) := b_law29_awake m (fun x0 => some x0)
theorem law29_awake_fun (m : Nat) : funK Try.prog (Ψ_law29_awake m) keep m 1 12 [] = (law29_awake m).map w_law29_awake := by
  rw [law29_awake_pre]
  exact b_law29_awake_map m
noncomputable def K_law29_awake (m : Nat) : KnownF C := mkK dNil (fun a => law29_awake m) w_law29_awake
theorem K_law29_awake_ok (m : Nat) : KnownAt C Try.prog 12 fun l => (K_law29_awake m).run _ l some :=
  mkK_known good fit (Ψ_law29_awake_ok m) (keep := keep) (m := m) (d := 1) fun a => law29_awake_fun m
/-! ### signalbench/signalbenchlaw29.SlipChecks -/
noncomputable def Ψ_law29_SlipChecks (m : Nat) : Known C := fun f => match f with
  | 10 => some (K_slip_Check m)
  | 11 => some (K_ref29_Check m)
  | 12 => some (K_law29_awake m)
  | 13 => some (K_slip_Step m)
  | 14 => some (K_slip_Encode m)
  | 15 => some (K_slip_Start m)
  | 16 => some (K_slip_End m)
  | 17 => some (K_slip_Decode m)
  | _ => none
theorem Ψ_law29_SlipChecks_ok (m : Nat) : KnownOk C Try.prog (Ψ_law29_SlipChecks m) := by
  intro f φ h
  unfold Ψ_law29_SlipChecks at h
  split at h
  · injection h with h; subst h; exact K_slip_Check_ok m
  · injection h with h; subst h; exact K_ref29_Check_ok m
  · injection h with h; subst h; exact K_law29_awake_ok m
  · injection h with h; subst h; exact K_slip_Step_ok m
  · injection h with h; subst h; exact K_slip_Encode_ok m
  · injection h with h; subst h; exact K_slip_Start_ok m
  · injection h with h; subst h; exact K_slip_End_ok m
  · injection h with h; subst h; exact K_slip_Decode_ok m
  · cases h
def w_law29_SlipChecks (b : Bool) : List (RV C) := [dBool.e b]
noncomputable def b_law29_SlipChecks {R : Type} (m : Nat) (ret : Bool → Option R) (c_0 : Slip) (s_1 : State) (x_2 : Event) : Option R :=
 (slip_Check m c_0).bind fun r0 =>
 (ref29_Check m c_0).bind fun r1 =>
 bif r0 != r1 then
 ret false
 else
 bif r0 == 0 then
 ((law29_awake m).bind fun r2 =>
 ret r2)
 else
 (slip_Step m c_0 s_1 x_2).bind fun r3 =>
 (slip_Encode m c_0 []).bind fun r4 =>
 bif r3.fst.Phase == s_1.Phase && (r3.fst.At == s_1.At && (r3.fst.From == s_1.From && (r3.fst.Count == s_1.Count && (r3.fst.Acc == s_1.Acc && (r3.fst.Aux == s_1.Aux && (r3.fst.Prev == s_1.Prev && (r3.fst.Data == s_1.Data && true))))))) then
 (bif (r3.snd.length : Int) == 0 then
 ((slip_End m c_0 s_1).bind fun r5 =>
 bif (r5.length : Int) == 0 then
 ((slip_Decode m c_0 [x_2]).bind fun r6 =>
 bif (r6.length : Int) == 0 then
 (bif (r4.fst.length : Int) == 0 then
 (bif r4.snd == r0 then
 ((law29_awake m).bind fun r7 =>
 ret r7)
 else
 ret false)
 else
 ret false)
 else
 ret false)
 else
 ret false)
 else
 ret false)
 else
 ret false
theorem law29_SlipChecks_pre (m : Nat) (c_0 : Slip) (s_1 : State) (x_2 : Event) : funK Try.prog (Ψ_law29_SlipChecks m) keep m 1 3 [(dS of_Slip cells_Slip of_Slip_ok).e c_0, (dS of_State cells_State of_State_ok).e s_1, (dS of_Event cells_Event of_Event_ok).e x_2] = b_law29_SlipChecks m (fun x0 => some (w_law29_SlipChecks x0)) c_0 s_1 x_2 := by kernel_rfl
theorem b_law29_SlipChecks_map (m : Nat) (c_0 : Slip) (s_1 : State) (x_2 : Event) : b_law29_SlipChecks m (fun x0 => some (w_law29_SlipChecks x0)) c_0 s_1 x_2 = (b_law29_SlipChecks m (fun x0 => some x0) c_0 s_1 x_2).map w_law29_SlipChecks := by
  simp only [b_law29_SlipChecks, cond_map, bind_map, map_none, map_some]
noncomputable def law29_SlipChecks (m : Nat) (c_0 : Slip) (s_1 : State) (x_2 : Event) : Option (Bool) := b_law29_SlipChecks m (fun x0 => some x0) c_0 s_1 x_2
theorem law29_SlipChecks_fun (m : Nat) (c_0 : Slip) (s_1 : State) (x_2 : Event) : funK Try.prog (Ψ_law29_SlipChecks m) keep m 1 3 [(dS of_Slip cells_Slip of_Slip_ok).e c_0, (dS of_State cells_State of_State_ok).e s_1, (dS of_Event cells_Event of_Event_ok).e x_2] = (law29_SlipChecks m c_0 s_1 x_2).map w_law29_SlipChecks := by
  rw [law29_SlipChecks_pre]
  exact b_law29_SlipChecks_map m c_0 s_1 x_2
noncomputable def K_law29_SlipChecks (m : Nat) : KnownF C := mkK (dCons (dS of_Slip cells_Slip of_Slip_ok) (dCons (dS of_State cells_State of_State_ok) (dCons (dS of_Event cells_Event of_Event_ok) dNil))) (fun a => law29_SlipChecks m a.1 a.2.1 a.2.2.1) w_law29_SlipChecks
theorem K_law29_SlipChecks_ok (m : Nat) : KnownAt C Try.prog 3 fun l => (K_law29_SlipChecks m).run _ l some :=
  mkK_known good fit (Ψ_law29_SlipChecks_ok m) (keep := keep) (m := m) (d := 1) fun a => law29_SlipChecks_fun m a.1 a.2.1 a.2.2.1
/-! ### signalbench/signalbenchref29.Start -/
def w_ref29_Start (b : State) : List (RV C) := [(dS of_State cells_State of_State_ok).e b]
noncomputable def b_ref29_Start {R : Type} (m : Nat) (ret : State → Option R) (c_0 : Slip) : Option R :=
 ret (State.mk 0 0 0 0 0 0 0 (bs []))
theorem ref29_Start_pre (m : Nat) (c_0 : Slip) : funK Try.prog Ψ0 keep m 1 18 [(dS of_Slip cells_Slip of_Slip_ok).e c_0] = b_ref29_Start m (fun x0 => some (w_ref29_Start x0)) c_0 := by kernel_rfl
theorem b_ref29_Start_map (m : Nat) (c_0 : Slip) : b_ref29_Start m (fun x0 => some (w_ref29_Start x0)) c_0 = (b_ref29_Start m (fun x0 => some x0) c_0).map w_ref29_Start := by
  simp only [b_ref29_Start, cond_map, bind_map, map_none, map_some]
noncomputable def ref29_Start (m : Nat) (c_0 : Slip) : Option (State) := b_ref29_Start m (fun x0 => some x0) c_0
theorem ref29_Start_fun (m : Nat) (c_0 : Slip) : funK Try.prog Ψ0 keep m 1 18 [(dS of_Slip cells_Slip of_Slip_ok).e c_0] = (ref29_Start m c_0).map w_ref29_Start := by
  rw [ref29_Start_pre]
  exact b_ref29_Start_map m c_0
noncomputable def K_ref29_Start (m : Nat) : KnownF C := mkK (dCons (dS of_Slip cells_Slip of_Slip_ok) dNil) (fun a => ref29_Start m a.1) w_ref29_Start
theorem K_ref29_Start_ok (m : Nat) : KnownAt C Try.prog 18 fun l => (K_ref29_Start m).run _ l some :=
  mkK_known good fit Ψ0_ok (keep := keep) (m := m) (d := 1) fun a => ref29_Start_fun m a.1
/-! ### signalbench/signalbenchref07.Valid -/
def w_ref07_Valid (b : Bool) : List (RV C) := [dBool.e b]
noncomputable def b_ref07_Valid {R : Type} (m : Nat) (ret : Bool → Option R) (e_0 : Event) : Option R :=
 bif decide (e_0.Kind < 1) then
 ret false
 else
 bif decide (e_0.Kind > 8) then
 ret false
 else
 bif decide (e_0.From < 0) then
 ret false
 else
 bif decide (e_0.From > e_0.To) then
 ret false
 else
 bif decide (e_0.To > 1099511627776) then
 ret false
 else
 bif decide ((e_0.Data.size : Int) > 4096) then
 ret false
 else
 bif decide (e_0.Fault < 0) then
 ret false
 else
 bif decide (e_0.Fault > 12) then
 ret false
 else
 bif decide (e_0.Value ≥ -9007199254740992) then
 bif decide (e_0.Value ≤ 9007199254740992) then
 bif decide (e_0.Aux ≥ -9007199254740992) then
 ret (decide (e_0.Aux ≤ 9007199254740992))
 else
 ret false
 else
 ret false
 else
 ret false
theorem ref07_Valid_pre (m : Nat) (e_0 : Event) : funK Try.prog Ψ0 keep m 1 36 [(dS of_Event cells_Event of_Event_ok).e e_0] = b_ref07_Valid m (fun x0 => some (w_ref07_Valid x0)) e_0 := by kernel_rfl
theorem b_ref07_Valid_map (m : Nat) (e_0 : Event) : b_ref07_Valid m (fun x0 => some (w_ref07_Valid x0)) e_0 = (b_ref07_Valid m (fun x0 => some x0) e_0).map w_ref07_Valid := by
  simp only [b_ref07_Valid, cond_map, bind_map, map_none, map_some]
noncomputable def ref07_Valid (m : Nat) (e_0 : Event) : Option (Bool) := b_ref07_Valid m (fun x0 => some x0) e_0
theorem ref07_Valid_fun (m : Nat) (e_0 : Event) : funK Try.prog Ψ0 keep m 1 36 [(dS of_Event cells_Event of_Event_ok).e e_0] = (ref07_Valid m e_0).map w_ref07_Valid := by
  rw [ref07_Valid_pre]
  exact b_ref07_Valid_map m e_0
noncomputable def K_ref07_Valid (m : Nat) : KnownF C := mkK (dCons (dS of_Event cells_Event of_Event_ok) dNil) (fun a => ref07_Valid m a.1) w_ref07_Valid
theorem K_ref07_Valid_ok (m : Nat) : KnownAt C Try.prog 36 fun l => (K_ref07_Valid m).run _ l some :=
  mkK_known good fit Ψ0_ok (keep := keep) (m := m) (d := 1) fun a => ref07_Valid_fun m a.1
/-! ### signalbench/signalbenchref29.empty -/
def w_ref29_empty (b : State) : List (RV C) := [(dS of_State cells_State of_State_ok).e b]
noncomputable def b_ref29_empty {R : Type} (m : Nat) (ret : State → Option R) (s_0 : State) : Option R :=
 ret (State.mk s_0.Phase s_0.At 0 0 0 0 s_0.Prev (bs []))
theorem ref29_empty_pre (m : Nat) (s_0 : State) : funK Try.prog Ψ0 keep m 1 37 [(dS of_State cells_State of_State_ok).e s_0] = b_ref29_empty m (fun x0 => some (w_ref29_empty x0)) s_0 := by kernel_rfl
theorem b_ref29_empty_map (m : Nat) (s_0 : State) : b_ref29_empty m (fun x0 => some (w_ref29_empty x0)) s_0 = (b_ref29_empty m (fun x0 => some x0) s_0).map w_ref29_empty := by
  simp only [b_ref29_empty, cond_map, bind_map, map_none, map_some]
noncomputable def ref29_empty (m : Nat) (s_0 : State) : Option (State) := b_ref29_empty m (fun x0 => some x0) s_0
theorem ref29_empty_fun (m : Nat) (s_0 : State) : funK Try.prog Ψ0 keep m 1 37 [(dS of_State cells_State of_State_ok).e s_0] = (ref29_empty m s_0).map w_ref29_empty := by
  rw [ref29_empty_pre]
  exact b_ref29_empty_map m s_0
noncomputable def K_ref29_empty (m : Nat) : KnownF C := mkK (dCons (dS of_State cells_State of_State_ok) dNil) (fun a => ref29_empty m a.1) w_ref29_empty
theorem K_ref29_empty_ok (m : Nat) : KnownAt C Try.prog 37 fun l => (K_ref29_empty m).run _ l some :=
  mkK_known good fit Ψ0_ok (keep := keep) (m := m) (d := 1) fun a => ref29_empty_fun m a.1
/-! ### signalbench/signalbenchref29.greater -/
def w_ref29_greater (b : Int) : List (RV C) := [(dInt .i64).e b]
noncomputable def b_ref29_greater {R : Type} (m : Nat) (ret : Int → Option R) (a_0 : Int) (b_1 : Int) : Option R :=
 bif decide (a_0 > b_1) then
 ret a_0
 else
 ret b_1
theorem ref29_greater_pre (m : Nat) (a_0 : Int) (b_1 : Int) : funK Try.prog Ψ0 keep m 1 43 [(dInt .i64).e a_0, (dInt .i64).e b_1] = b_ref29_greater m (fun x0 => some (w_ref29_greater x0)) a_0 b_1 := by kernel_rfl
theorem b_ref29_greater_map (m : Nat) (a_0 : Int) (b_1 : Int) : b_ref29_greater m (fun x0 => some (w_ref29_greater x0)) a_0 b_1 = (b_ref29_greater m (fun x0 => some x0) a_0 b_1).map w_ref29_greater := by
  simp only [b_ref29_greater, cond_map, bind_map, map_none, map_some]
noncomputable def ref29_greater (m : Nat) (a_0 : Int) (b_1 : Int) : Option (Int) := b_ref29_greater m (fun x0 => some x0) a_0 b_1
theorem ref29_greater_fun (m : Nat) (a_0 : Int) (b_1 : Int) : funK Try.prog Ψ0 keep m 1 43 [(dInt .i64).e a_0, (dInt .i64).e b_1] = (ref29_greater m a_0 b_1).map w_ref29_greater := by
  rw [ref29_greater_pre]
  exact b_ref29_greater_map m a_0 b_1
noncomputable def K_ref29_greater (m : Nat) : KnownF C := mkK (dCons (dInt .i64) (dCons (dInt .i64) dNil)) (fun a => ref29_greater m a.1 a.2.1) w_ref29_greater
theorem K_ref29_greater_ok (m : Nat) : KnownAt C Try.prog 43 fun l => (K_ref29_greater m).run _ l some :=
  mkK_known good fit Ψ0_ok (keep := keep) (m := m) (d := 1) fun a => ref29_greater_fun m a.1 a.2.1
/-! ### signalbench/signalbenchref29.aborted -/
noncomputable def Ψ_ref29_aborted (m : Nat) : Known C := fun f => match f with
  | 43 => some (K_ref29_greater m)
  | _ => none
theorem Ψ_ref29_aborted_ok (m : Nat) : KnownOk C Try.prog (Ψ_ref29_aborted m) := by
  intro f φ h
  unfold Ψ_ref29_aborted at h
  split at h
  · injection h with h; subst h; exact K_ref29_greater_ok m
  · cases h
def w_ref29_aborted (b : List Event) : List (RV C) := [(dRow 27).e b]
noncomputable def b_ref29_aborted {R : Type} (m : Nat) (ret : List Event → Option R) (s_0 : State) (to_1 : Int) : Option R :=
 bif s_0.Count == 0 then
 ret []
 else
 (ref29_greater m s_0.From to_1).bind fun r0 =>
 ret ([Event.mk 6 s_0.From r0 0 0 (bs []) 7])
theorem ref29_aborted_pre (m : Nat) (s_0 : State) (to_1 : Int) : funK Try.prog (Ψ_ref29_aborted m) keep m 1 38 [(dS of_State cells_State of_State_ok).e s_0, (dInt .i64).e to_1] = b_ref29_aborted m (fun x0 => some (w_ref29_aborted x0)) s_0 to_1 := by kernel_rfl
theorem b_ref29_aborted_map (m : Nat) (s_0 : State) (to_1 : Int) : b_ref29_aborted m (fun x0 => some (w_ref29_aborted x0)) s_0 to_1 = (b_ref29_aborted m (fun x0 => some x0) s_0 to_1).map w_ref29_aborted := by
  simp only [b_ref29_aborted, cond_map, bind_map, map_none, map_some]
noncomputable def ref29_aborted (m : Nat) (s_0 : State) (to_1 : Int) : Option (List Event) := b_ref29_aborted m (fun x0 => some x0) s_0 to_1
theorem ref29_aborted_fun (m : Nat) (s_0 : State) (to_1 : Int) : funK Try.prog (Ψ_ref29_aborted m) keep m 1 38 [(dS of_State cells_State of_State_ok).e s_0, (dInt .i64).e to_1] = (ref29_aborted m s_0 to_1).map w_ref29_aborted := by
  rw [ref29_aborted_pre]
  exact b_ref29_aborted_map m s_0 to_1
noncomputable def K_ref29_aborted (m : Nat) : KnownF C := mkK (dCons (dS of_State cells_State of_State_ok) (dCons (dInt .i64) dNil)) (fun a => ref29_aborted m a.1 a.2.1) w_ref29_aborted
theorem K_ref29_aborted_ok (m : Nat) : KnownAt C Try.prog 38 fun l => (K_ref29_aborted m).run _ l some :=
  mkK_known good fit (Ψ_ref29_aborted_ok m) (keep := keep) (m := m) (d := 1) fun a => ref29_aborted_fun m a.1 a.2.1
/-! ### signalbench/signalbenchref29.add -/
def w_ref29_add (b : State) : List (RV C) := [(dS of_State cells_State of_State_ok).e b]
noncomputable def b_ref29_add {R : Type} (m : Nat) (ret : State → Option R) (c_0 : Slip) (s_1 : State) (b_2 : Int) : Option R :=
 bif decide ((s_1.Data.size : Int) ≥ c_0.Most) then
 ret { s_1 with Acc := 1 }
 else
 bif decide (((s_1.Data.size + (toBytes [IntKind.u8.wrap b_2]).size) : Int) > 9223372036854775807) then
 none
 else
 ret { s_1 with Data := s_1.Data ++ toBytes [IntKind.u8.wrap b_2] }
theorem ref29_add_pre (m : Nat) (c_0 : Slip) (s_1 : State) (b_2 : Int) : funK Try.prog Ψ0 keep m 1 44 [(dS of_Slip cells_Slip of_Slip_ok).e c_0, (dS of_State cells_State of_State_ok).e s_1, (dInt .i64).e b_2] = b_ref29_add m (fun x0 => some (w_ref29_add x0)) c_0 s_1 b_2 := by kernel_rfl
theorem b_ref29_add_map (m : Nat) (c_0 : Slip) (s_1 : State) (b_2 : Int) : b_ref29_add m (fun x0 => some (w_ref29_add x0)) c_0 s_1 b_2 = (b_ref29_add m (fun x0 => some x0) c_0 s_1 b_2).map w_ref29_add := by
  simp only [b_ref29_add, cond_map, bind_map, map_none, map_some]
noncomputable def ref29_add (m : Nat) (c_0 : Slip) (s_1 : State) (b_2 : Int) : Option (State) := b_ref29_add m (fun x0 => some x0) c_0 s_1 b_2
theorem ref29_add_fun (m : Nat) (c_0 : Slip) (s_1 : State) (b_2 : Int) : funK Try.prog Ψ0 keep m 1 44 [(dS of_Slip cells_Slip of_Slip_ok).e c_0, (dS of_State cells_State of_State_ok).e s_1, (dInt .i64).e b_2] = (ref29_add m c_0 s_1 b_2).map w_ref29_add := by
  rw [ref29_add_pre]
  exact b_ref29_add_map m c_0 s_1 b_2
noncomputable def K_ref29_add (m : Nat) : KnownF C := mkK (dCons (dS of_Slip cells_Slip of_Slip_ok) (dCons (dS of_State cells_State of_State_ok) (dCons (dInt .i64) dNil))) (fun a => ref29_add m a.1 a.2.1 a.2.2.1) w_ref29_add
theorem K_ref29_add_ok (m : Nat) : KnownAt C Try.prog 44 fun l => (K_ref29_add m).run _ l some :=
  mkK_known good fit Ψ0_ok (keep := keep) (m := m) (d := 1) fun a => ref29_add_fun m a.1 a.2.1 a.2.2.1
/-! ### signalbench/signalbenchref29.collect -/
noncomputable def Ψ_ref29_collect (m : Nat) : Known C := fun f => match f with
  | 44 => some (K_ref29_add m)
  | _ => none
theorem Ψ_ref29_collect_ok (m : Nat) : KnownOk C Try.prog (Ψ_ref29_collect m) := by
  intro f φ h
  unfold Ψ_ref29_collect at h
  split at h
  · injection h with h; subst h; exact K_ref29_add_ok m
  · cases h
def w_ref29_collect (b : State) : List (RV C) := [(dS of_State cells_State of_State_ok).e b]
noncomputable def b_ref29_collect {R : Type} (m : Nat) (ret : State → Option R) (c_0 : Slip) (s_1 : State) (e_2 : Event) : Option R :=
 bif s_1.Count == 0 then
 (bif decide (s_1.Aux ≥ 2) then
 (bif e_2.Value == 220 then
 ((ref29_add m c_0 (State.mk s_1.Phase s_1.At e_2.From 1 s_1.Acc (IntKind.i64.wrap (s_1.Aux - 2)) s_1.Prev s_1.Data) 192).bind fun r0 =>
 ret r0)
 else
 bif e_2.Value == 221 then
 ((ref29_add m c_0 (State.mk s_1.Phase s_1.At e_2.From 1 s_1.Acc (IntKind.i64.wrap (s_1.Aux - 2)) s_1.Prev s_1.Data) 219).bind fun r1 =>
 ret r1)
 else
 ret { s_1 with From := e_2.From, Count := 1, Aux := 1 })
 else
 bif e_2.Value == 219 then
 ret { s_1 with From := e_2.From, Count := 1, Aux := IntKind.i64.wrap (s_1.Aux + 2) }
 else
 (ref29_add m c_0 (State.mk s_1.Phase s_1.At e_2.From 1 s_1.Acc s_1.Aux s_1.Prev s_1.Data) e_2.Value).bind fun r2 =>
 ret r2)
 else
 bif decide (s_1.Aux ≥ 2) then
 (bif e_2.Value == 220 then
 ((ref29_add m c_0 (State.mk s_1.Phase s_1.At s_1.From s_1.Count s_1.Acc (IntKind.i64.wrap (s_1.Aux - 2)) s_1.Prev s_1.Data) 192).bind fun r3 =>
 ret r3)
 else
 bif e_2.Value == 221 then
 ((ref29_add m c_0 (State.mk s_1.Phase s_1.At s_1.From s_1.Count s_1.Acc (IntKind.i64.wrap (s_1.Aux - 2)) s_1.Prev s_1.Data) 219).bind fun r4 =>
 ret r4)
 else
 ret { s_1 with Aux := 1 })
 else
 bif e_2.Value == 219 then
 ret { s_1 with Aux := IntKind.i64.wrap (s_1.Aux + 2) }
 else
 (ref29_add m c_0 s_1 e_2.Value).bind fun r5 =>
 ret r5
theorem ref29_collect_pre (m : Nat) (c_0 : Slip) (s_1 : State) (e_2 : Event) : funK Try.prog (Ψ_ref29_collect m) keep m 1 39 [(dS of_Slip cells_Slip of_Slip_ok).e c_0, (dS of_State cells_State of_State_ok).e s_1, (dS of_Event cells_Event of_Event_ok).e e_2] = b_ref29_collect m (fun x0 => some (w_ref29_collect x0)) c_0 s_1 e_2 := by kernel_rfl
theorem b_ref29_collect_map (m : Nat) (c_0 : Slip) (s_1 : State) (e_2 : Event) : b_ref29_collect m (fun x0 => some (w_ref29_collect x0)) c_0 s_1 e_2 = (b_ref29_collect m (fun x0 => some x0) c_0 s_1 e_2).map w_ref29_collect := by
  simp only [b_ref29_collect, cond_map, bind_map, map_none, map_some]
noncomputable def ref29_collect (m : Nat) (c_0 : Slip) (s_1 : State) (e_2 : Event) : Option (State) := b_ref29_collect m (fun x0 => some x0) c_0 s_1 e_2
theorem ref29_collect_fun (m : Nat) (c_0 : Slip) (s_1 : State) (e_2 : Event) : funK Try.prog (Ψ_ref29_collect m) keep m 1 39 [(dS of_Slip cells_Slip of_Slip_ok).e c_0, (dS of_State cells_State of_State_ok).e s_1, (dS of_Event cells_Event of_Event_ok).e e_2] = (ref29_collect m c_0 s_1 e_2).map w_ref29_collect := by
  rw [ref29_collect_pre]
  exact b_ref29_collect_map m c_0 s_1 e_2
noncomputable def K_ref29_collect (m : Nat) : KnownF C := mkK (dCons (dS of_Slip cells_Slip of_Slip_ok) (dCons (dS of_State cells_State of_State_ok) (dCons (dS of_Event cells_Event of_Event_ok) dNil))) (fun a => ref29_collect m a.1 a.2.1 a.2.2.1) w_ref29_collect
theorem K_ref29_collect_ok (m : Nat) : KnownAt C Try.prog 39 fun l => (K_ref29_collect m).run _ l some :=
  mkK_known good fit (Ψ_ref29_collect_ok m) (keep := keep) (m := m) (d := 1) fun a => ref29_collect_fun m a.1 a.2.1 a.2.2.1
/-! ### signalbench/signalbenchref29.Step -/
noncomputable def Ψ_ref29_Step (m : Nat) : Known C := fun f => match f with
  | 11 => some (K_ref29_Check m)
  | 36 => some (K_ref07_Valid m)
  | 37 => some (K_ref29_empty m)
  | 38 => some (K_ref29_aborted m)
  | 39 => some (K_ref29_collect m)
  | _ => none
theorem Ψ_ref29_Step_ok (m : Nat) : KnownOk C Try.prog (Ψ_ref29_Step m) := by
  intro f φ h
  unfold Ψ_ref29_Step at h
  split at h
  · injection h with h; subst h; exact K_ref29_Check_ok m
  · injection h with h; subst h; exact K_ref07_Valid_ok m
  · injection h with h; subst h; exact K_ref29_empty_ok m
  · injection h with h; subst h; exact K_ref29_aborted_ok m
  · injection h with h; subst h; exact K_ref29_collect_ok m
  · cases h
def w_ref29_Step (b : State × List Event) : List (RV C) := [(dS of_State cells_State of_State_ok).e b.1, (dRow 27).e b.2]
noncomputable def b_ref29_Step {R : Type} (m : Nat) (ret : State → List Event → Option R) (c_0 : Slip) (s_1 : State) (e_2 : Event) : Option R :=
 (ref29_Check m c_0).bind fun r0 =>
 bif r0 != 0 then
 ret s_1 []
 else
 (ref07_Valid m e_2).bind fun r1 =>
 bif !r1 then
 ret s_1 []
 else
 bif e_2.Kind != 3 then
 ret s_1 []
 else
 bif decide (e_2.Value < 0) then
 ret s_1 []
 else
 bif decide (e_2.Value > 255) then
 ret s_1 []
 else
 bif s_1.Phase == 1 then
 (bif decide (e_2.From < s_1.Prev) then
 ret s_1 []
 else
 bif e_2.Fault != 0 then
 ((ref29_aborted m s_1 e_2.From).bind fun r2 =>
 ret (State.mk 1 e_2.To 0 0 0 0 e_2.From (bs [])) r2)
 else
 bif e_2.Value != 192 then
 ((ref29_collect m c_0 (State.mk 1 e_2.To s_1.From s_1.Count s_1.Acc s_1.Aux e_2.From s_1.Data) e_2).bind fun r3 =>
 ret r3 [])
 else
 bif s_1.Count == 0 then
 ret (State.mk 1 e_2.To 0 0 0 0 e_2.From (bs [])) []
 else
 bif s_1.Acc == 1 then
 bif decide (s_1.Aux > 0) then
 ret (State.mk 1 e_2.To 0 0 0 0 e_2.From (bs [])) ([Event.mk 6 s_1.From e_2.To 0 0 s_1.Data 5])
 else
 ret (State.mk 1 e_2.To 0 0 0 0 e_2.From (bs [])) ([Event.mk 6 s_1.From e_2.To 0 0 s_1.Data 8])
 else
 bif decide (s_1.Aux > 0) then
 ret (State.mk 1 e_2.To 0 0 0 0 e_2.From (bs [])) ([Event.mk 6 s_1.From e_2.To 0 0 s_1.Data 5])
 else
 ret (State.mk 1 e_2.To 0 0 0 0 e_2.From (bs [])) ([Event.mk 6 s_1.From e_2.To 0 0 s_1.Data 0]))
 else
 bif e_2.Fault != 0 then
 ((ref29_aborted m s_1 e_2.From).bind fun r4 =>
 ret (State.mk 1 e_2.To 0 0 0 0 e_2.From (bs [])) r4)
 else
 bif e_2.Value != 192 then
 ((ref29_collect m c_0 (State.mk 1 e_2.To s_1.From s_1.Count s_1.Acc s_1.Aux e_2.From s_1.Data) e_2).bind fun r5 =>
 ret r5 [])
 else
 bif s_1.Count == 0 then
 ret (State.mk 1 e_2.To 0 0 0 0 e_2.From (bs [])) []
 else
 bif s_1.Acc == 1 then
 bif decide (s_1.Aux > 0) then
 ret (State.mk 1 e_2.To 0 0 0 0 e_2.From (bs [])) ([Event.mk 6 s_1.From e_2.To 0 0 s_1.Data 5])
 else
 ret (State.mk 1 e_2.To 0 0 0 0 e_2.From (bs [])) ([Event.mk 6 s_1.From e_2.To 0 0 s_1.Data 8])
 else
 bif decide (s_1.Aux > 0) then
 ret (State.mk 1 e_2.To 0 0 0 0 e_2.From (bs [])) ([Event.mk 6 s_1.From e_2.To 0 0 s_1.Data 5])
 else
 ret (State.mk 1 e_2.To 0 0 0 0 e_2.From (bs [])) ([Event.mk 6 s_1.From e_2.To 0 0 s_1.Data 0])
theorem ref29_Step_pre (m : Nat) (c_0 : Slip) (s_1 : State) (e_2 : Event) : funK Try.prog (Ψ_ref29_Step m) keep m 1 19 [(dS of_Slip cells_Slip of_Slip_ok).e c_0, (dS of_State cells_State of_State_ok).e s_1, (dS of_Event cells_Event of_Event_ok).e e_2] = b_ref29_Step m (fun x0 x1 => some (w_ref29_Step (x0, x1))) c_0 s_1 e_2 := by kernel_rfl
theorem b_ref29_Step_map (m : Nat) (c_0 : Slip) (s_1 : State) (e_2 : Event) : b_ref29_Step m (fun x0 x1 => some (w_ref29_Step (x0, x1))) c_0 s_1 e_2 = (b_ref29_Step m (fun x0 x1 => some (x0, x1)) c_0 s_1 e_2).map w_ref29_Step := by
  simp only [b_ref29_Step, cond_map, bind_map, map_none, map_some]
noncomputable def ref29_Step (m : Nat) (c_0 : Slip) (s_1 : State) (e_2 : Event) : Option (State × List Event) := b_ref29_Step m (fun x0 x1 => some (x0, x1)) c_0 s_1 e_2
theorem ref29_Step_fun (m : Nat) (c_0 : Slip) (s_1 : State) (e_2 : Event) : funK Try.prog (Ψ_ref29_Step m) keep m 1 19 [(dS of_Slip cells_Slip of_Slip_ok).e c_0, (dS of_State cells_State of_State_ok).e s_1, (dS of_Event cells_Event of_Event_ok).e e_2] = (ref29_Step m c_0 s_1 e_2).map w_ref29_Step := by
  rw [ref29_Step_pre]
  exact b_ref29_Step_map m c_0 s_1 e_2
noncomputable def K_ref29_Step (m : Nat) : KnownF C := mkK (dCons (dS of_Slip cells_Slip of_Slip_ok) (dCons (dS of_State cells_State of_State_ok) (dCons (dS of_Event cells_Event of_Event_ok) dNil))) (fun a => ref29_Step m a.1 a.2.1 a.2.2.1) w_ref29_Step
theorem K_ref29_Step_ok (m : Nat) : KnownAt C Try.prog 19 fun l => (K_ref29_Step m).run _ l some :=
  mkK_known good fit (Ψ_ref29_Step_ok m) (keep := keep) (m := m) (d := 1) fun a => ref29_Step_fun m a.1 a.2.1 a.2.2.1
/-! ### signalbench/signalbenchref29.End -/
noncomputable def Ψ_ref29_End (m : Nat) : Known C := fun f => match f with
  | 11 => some (K_ref29_Check m)
  | 38 => some (K_ref29_aborted m)
  | _ => none
theorem Ψ_ref29_End_ok (m : Nat) : KnownOk C Try.prog (Ψ_ref29_End m) := by
  intro f φ h
  unfold Ψ_ref29_End at h
  split at h
  · injection h with h; subst h; exact K_ref29_Check_ok m
  · injection h with h; subst h; exact K_ref29_aborted_ok m
  · cases h
def w_ref29_End (b : List Event) : List (RV C) := [(dRow 27).e b]
noncomputable def b_ref29_End {R : Type} (m : Nat) (ret : List Event → Option R) (c_0 : Slip) (s_1 : State) : Option R :=
 (ref29_Check m c_0).bind fun r0 =>
 bif r0 != 0 then
 ret []
 else
 (ref29_aborted m s_1 s_1.At).bind fun r1 =>
 ret r1
theorem ref29_End_pre (m : Nat) (c_0 : Slip) (s_1 : State) : funK Try.prog (Ψ_ref29_End m) keep m 1 21 [(dS of_Slip cells_Slip of_Slip_ok).e c_0, (dS of_State cells_State of_State_ok).e s_1] = b_ref29_End m (fun x0 => some (w_ref29_End x0)) c_0 s_1 := by kernel_rfl
theorem b_ref29_End_map (m : Nat) (c_0 : Slip) (s_1 : State) : b_ref29_End m (fun x0 => some (w_ref29_End x0)) c_0 s_1 = (b_ref29_End m (fun x0 => some x0) c_0 s_1).map w_ref29_End := by
  simp only [b_ref29_End, cond_map, bind_map, map_none, map_some]
noncomputable def ref29_End (m : Nat) (c_0 : Slip) (s_1 : State) : Option (List Event) := b_ref29_End m (fun x0 => some x0) c_0 s_1
theorem ref29_End_fun (m : Nat) (c_0 : Slip) (s_1 : State) : funK Try.prog (Ψ_ref29_End m) keep m 1 21 [(dS of_Slip cells_Slip of_Slip_ok).e c_0, (dS of_State cells_State of_State_ok).e s_1] = (ref29_End m c_0 s_1).map w_ref29_End := by
  rw [ref29_End_pre]
  exact b_ref29_End_map m c_0 s_1
noncomputable def K_ref29_End (m : Nat) : KnownF C := mkK (dCons (dS of_Slip cells_Slip of_Slip_ok) (dCons (dS of_State cells_State of_State_ok) dNil)) (fun a => ref29_End m a.1 a.2.1) w_ref29_End
theorem K_ref29_End_ok (m : Nat) : KnownAt C Try.prog 21 fun l => (K_ref29_End m).run _ l some :=
  mkK_known good fit (Ψ_ref29_End_ok m) (keep := keep) (m := m) (d := 1) fun a => ref29_End_fun m a.1 a.2.1
/-! ### signalbench/signalbenchref29.Decode -/
noncomputable def Ψ_ref29_Decode (m : Nat) : Known C := fun f => match f with
  | 18 => some (K_ref29_Start m)
  | 19 => some (K_ref29_Step m)
  | 21 => some (K_ref29_End m)
  | _ => none
theorem Ψ_ref29_Decode_ok (m : Nat) : KnownOk C Try.prog (Ψ_ref29_Decode m) := by
  intro f φ h
  unfold Ψ_ref29_Decode at h
  split at h
  · injection h with h; subst h; exact K_ref29_Start_ok m
  · injection h with h; subst h; exact K_ref29_Step_ok m
  · injection h with h; subst h; exact K_ref29_End_ok m
  · cases h
def w_ref29_Decode (b : List Event) : List (RV C) := [(dRow 27).e b]
noncomputable def Q_ref29_Decode_4 (m : Nat) : St C → (Exit → St C → Option (List (RV C))) → Option (List (RV C)) := fun σ k => codeK Try.prog (Ψ_ref29_Decode m) (callK Try.prog (Ψ_ref29_Decode m) keep m 0) (keep 22) m (subC body22 [.r, .r, .r, .l, .r, .b, .o]) σ k
noncomputable def KL_ref29_Decode_4 (m : Nat) : Exit → St C → Option (List (RV C)) := contK Try.prog (Ψ_ref29_Decode m) (callK Try.prog (Ψ_ref29_Decode m) keep m 0) (keep 22) m body22 [.r, .r, .r, .l, .r, .b, .o] (leaveK Try.prog Try.f22.results.toList (finK Try.prog Try.f22.resultTypes.toList))
noncomputable def L_ref29_Decode_l4 (m n : Nat) (i_7 : Int) (l_1 : List Event) (c1 : Slip) (out_5 : List Event) (c3 : State) : Option (List (RV C)) := iterK (Q_ref29_Decode_4 m) (St.norm (keep 22 4)) n ({ T := [.dead, .fl (.one (.sl 0)), .fl (.one (.ptr 1 0)), .dead, .dead, .fl (.one (.sl 2)), .fl (.one (.ptr 3 0)), .fl (.one (.int .i64 i_7))] ++ List.replicate 30 .dead, F := [[]], H := [.row 27 false l_1, .box 23 (cells_Slip c1), .row 27 true out_5, .box 25 (cells_State c3)] } : St C) (KL_ref29_Decode_4 m)
noncomputable def b_ref29_Decode_l4 {R : Type} (m : Nat) (ret : List Event → Option R) (k_l4 : Int → List Event → Slip → List Event → State → Option R) (i_7 : Int) (l_1 : List Event) (c1 : Slip) (out_5 : List Event) (c3 : State) : Option R :=
 bif decide (i_7 < (l_1.length : Int)) then
 (bif decide (0 ≤ i_7) then
 (bif decide (i_7 < (l_1.length : Int)) then
 ((ref29_Step m c1 c3 (l_1.getD i_7.toNat dflt_Event)).bind fun r0 =>
 bif decide ((out_5.length + r0.snd.length) * 64 ≤ 140737488355328) then
 k_l4 (IntKind.i64.wrap (i_7 + 1)) l_1 c1 (out_5 ++ r0.snd) r0.fst
 else
 none)
 else
 none)
 else
 none)
 else
 (ref29_End m c1 c3).bind fun r1 =>
 bif decide ((out_5.length + r1.length) * 64 ≤ 140737488355328) then
 ret (out_5 ++ r1)
 else
 none
theorem L_ref29_Decode_l4_step (m n : Nat) (i_7 : Int) (l_1 : List Event) (c1 : Slip) (out_5 : List Event) (c3 : State) : L_ref29_Decode_l4 m (n + 1) i_7 l_1 c1 out_5 c3 = b_ref29_Decode_l4 m (fun x0 => some (w_ref29_Decode x0)) (fun i_7 l_1 c1 out_5 c3 => L_ref29_Decode_l4 m n i_7 l_1 c1 out_5 c3) i_7 l_1 c1 out_5 c3 := by kernel_rfl
theorem b_ref29_Decode_l4_map (m : Nat) {k_l4 : Int → List Event → Slip → List Event → State → Option (List (RV C))} {q_l4 : Int → List Event → Slip → List Event → State → Option (List Event)} (h_l4 : ∀ i_7 l_1 c1 out_5 c3, k_l4 i_7 l_1 c1 out_5 c3 = (q_l4 i_7 l_1 c1 out_5 c3).map w_ref29_Decode) (i_7 : Int) (l_1 : List Event) (c1 : Slip) (out_5 : List Event) (c3 : State) : b_ref29_Decode_l4 m (fun x0 => some (w_ref29_Decode x0)) k_l4 i_7 l_1 c1 out_5 c3 = (b_ref29_Decode_l4 m (fun x0 => some x0) q_l4 i_7 l_1 c1 out_5 c3).map w_ref29_Decode := by
  simp only [b_ref29_Decode_l4, cond_map, bind_map, map_none, map_some, h_l4]
noncomputable def ref29_Decode_l4 (m : Nat) : Nat → Int → List Event → Slip → List Event → State → Option (List Event)
  | 0, _, _, _, _, _ => none
  | n + 1, i_7, l_1, c1, out_5, c3 => b_ref29_Decode_l4 m (fun x0 => some x0) (fun i_7 l_1 c1 out_5 c3 => ref29_Decode_l4 m n i_7 l_1 c1 out_5 c3) i_7 l_1 c1 out_5 c3
theorem L_ref29_Decode_l4_eq (m : Nat) : ∀ (n : Nat) (i_7 : Int) (l_1 : List Event) (c1 : Slip) (out_5 : List Event) (c3 : State), L_ref29_Decode_l4 m n i_7 l_1 c1 out_5 c3 = (ref29_Decode_l4 m n i_7 l_1 c1 out_5 c3).map w_ref29_Decode
  | 0, i_7, l_1, c1, out_5, c3 => by kernel_rfl
  | n + 1, i_7, l_1, c1, out_5, c3 => by
    rw [L_ref29_Decode_l4_step]
    exact b_ref29_Decode_l4_map m (fun i_7 l_1 c1 out_5 c3 => L_ref29_Decode_l4_eq m n i_7 l_1 c1 out_5 c3) i_7 l_1 c1 out_5 c3
noncomputable def b_ref29_Decode {R : Type} (m : Nat) (ret : List Event → Option R) (k_l4 : Int → List Event → Slip → List Event → State → Option R) (c_0 : Slip) (l_1 : List Event) : Option R :=
 k_l4 0 l_1 c_0 [] (State.mk 0 0 0 0 0 0 0 (bs []))
theorem ref29_Decode_pre (m : Nat) (c_0 : Slip) (l_1 : List Event) : funK Try.prog (Ψ_ref29_Decode m) keep m 1 22 [(dS of_Slip cells_Slip of_Slip_ok).e c_0, (dRow 27).e l_1] = b_ref29_Decode m (fun x0 => some (w_ref29_Decode x0)) (fun i_7 l_1 c1 out_5 c3 => L_ref29_Decode_l4 m m i_7 l_1 c1 out_5 c3) c_0 l_1 := by kernel_rfl
theorem b_ref29_Decode_map (m : Nat) {k_l4 : Int → List Event → Slip → List Event → State → Option (List (RV C))} {q_l4 : Int → List Event → Slip → List Event → State → Option (List Event)} (h_l4 : ∀ i_7 l_1 c1 out_5 c3, k_l4 i_7 l_1 c1 out_5 c3 = (q_l4 i_7 l_1 c1 out_5 c3).map w_ref29_Decode) (c_0 : Slip) (l_1 : List Event) : b_ref29_Decode m (fun x0 => some (w_ref29_Decode x0)) k_l4 c_0 l_1 = (b_ref29_Decode m (fun x0 => some x0) q_l4 c_0 l_1).map w_ref29_Decode := by
  simp only [b_ref29_Decode, cond_map, bind_map, map_none, map_some, h_l4]
noncomputable def ref29_Decode (m : Nat) (c_0 : Slip) (l_1 : List Event) : Option (List Event) := b_ref29_Decode m (fun x0 => some x0) (fun i_7 l_1 c1 out_5 c3 => ref29_Decode_l4 m m i_7 l_1 c1 out_5 c3) c_0 l_1
theorem ref29_Decode_fun (m : Nat) (c_0 : Slip) (l_1 : List Event) : funK Try.prog (Ψ_ref29_Decode m) keep m 1 22 [(dS of_Slip cells_Slip of_Slip_ok).e c_0, (dRow 27).e l_1] = (ref29_Decode m c_0 l_1).map w_ref29_Decode := by
  rw [ref29_Decode_pre]
  exact b_ref29_Decode_map m (fun i_7 l_1 c1 out_5 c3 => L_ref29_Decode_l4_eq m m i_7 l_1 c1 out_5 c3) c_0 l_1
noncomputable def K_ref29_Decode (m : Nat) : KnownF C := mkK (dCons (dS of_Slip cells_Slip of_Slip_ok) (dCons (dRow 27) dNil)) (fun a => ref29_Decode m a.1 a.2.1) w_ref29_Decode
theorem K_ref29_Decode_ok (m : Nat) : KnownAt C Try.prog 22 fun l => (K_ref29_Decode m).run _ l some :=
  mkK_known good fit (Ψ_ref29_Decode_ok m) (keep := keep) (m := m) (d := 1) fun a => ref29_Decode_fun m a.1 a.2.1
/-! ### signalbench/signalbenchlaw29.SlipDecodes -/
noncomputable def Ψ_law29_SlipDecodes (m : Nat) : Known C := fun f => match f with
  | 12 => some (K_law29_awake m)
  | 15 => some (K_slip_Start m)
  | 18 => some (K_ref29_Start m)
  | 13 => some (K_slip_Step m)
  | 19 => some (K_ref29_Step m)
  | 20 => some (K_ref07_Same m)
  | 16 => some (K_slip_End m)
  | 21 => some (K_ref29_End m)
  | 17 => some (K_slip_Decode m)
  | 22 => some (K_ref29_Decode m)
  | _ => none
theorem Ψ_law29_SlipDecodes_ok (m : Nat) : KnownOk C Try.prog (Ψ_law29_SlipDecodes m) := by
  intro f φ h
  unfold Ψ_law29_SlipDecodes at h
  split at h
  · injection h with h; subst h; exact K_law29_awake_ok m
  · injection h with h; subst h; exact K_slip_Start_ok m
  · injection h with h; subst h; exact K_ref29_Start_ok m
  · injection h with h; subst h; exact K_slip_Step_ok m
  · injection h with h; subst h; exact K_ref29_Step_ok m
  · injection h with h; subst h; exact K_ref07_Same_ok m
  · injection h with h; subst h; exact K_slip_End_ok m
  · injection h with h; subst h; exact K_ref29_End_ok m
  · injection h with h; subst h; exact K_slip_Decode_ok m
  · injection h with h; subst h; exact K_ref29_Decode_ok m
  · cases h
def w_law29_SlipDecodes (b : Bool) : List (RV C) := [dBool.e b]
noncomputable def Q_law29_SlipDecodes_6 (m : Nat) : St C → (Exit → St C → Option (List (RV C))) → Option (List (RV C)) := fun σ k => codeK Try.prog (Ψ_law29_SlipDecodes m) (callK Try.prog (Ψ_law29_SlipDecodes m) keep m 0) (keep 4) m (subC body4 [.r, .r, .r, .r, .l, .r, .b, .o]) σ k
noncomputable def KL_law29_SlipDecodes_6 (m : Nat) : Exit → St C → Option (List (RV C)) := contK Try.prog (Ψ_law29_SlipDecodes m) (callK Try.prog (Ψ_law29_SlipDecodes m) keep m 0) (keep 4) m body4 [.r, .r, .r, .r, .l, .r, .b, .o] (leaveK Try.prog Try.f4.results.toList (finK Try.prog Try.f4.resultTypes.toList))
noncomputable def L_law29_SlipDecodes_l6 (m n : Nat) (i_7 : Int) (l_1 : List Event) (c1 : Slip) (c2 : State) (c3 : State) : Option (List (RV C)) := iterK (Q_law29_SlipDecodes_6 m) (St.norm (keep 4 6)) n ({ T := [.dead, .fl (.one (.sl 0)), .fl (.one (.ptr 1 0)), .dead, .dead, .fl (.one (.ptr 2 0)), .fl (.one (.ptr 3 0)), .fl (.one (.int .i64 i_7))] ++ List.replicate 63 .dead, F := [[]], H := [.row 27 false l_1, .box 23 (cells_Slip c1), .box 25 (cells_State c2), .box 25 (cells_State c3)] } : St C) (KL_law29_SlipDecodes_6 m)
noncomputable def b_law29_SlipDecodes_l6 {R : Type} (m : Nat) (ret : Bool → Option R) (k_l6 : Int → List Event → Slip → State → State → Option R) (i_7 : Int) (l_1 : List Event) (c1 : Slip) (c2 : State) (c3 : State) : Option R :=
 bif decide (i_7 < (l_1.length : Int)) then
 (bif decide (0 ≤ i_7) then
 (bif decide (i_7 < (l_1.length : Int)) then
 ((slip_Step m c1 c2 (l_1.getD i_7.toNat dflt_Event)).bind fun r0 =>
 bif decide (0 ≤ i_7) then
 (bif decide (i_7 < (l_1.length : Int)) then
 ((ref29_Step m c1 c3 (l_1.getD i_7.toNat dflt_Event)).bind fun r1 =>
 (ref07_Same m r0.snd r1.snd).bind fun r2 =>
 bif !r2 then
 ret false
 else
 k_l6 (IntKind.i64.wrap (i_7 + 1)) l_1 c1 r0.fst r1.fst)
 else
 none)
 else
 none)
 else
 none)
 else
 none)
 else
 (slip_End m c1 c2).bind fun r3 =>
 (ref29_End m c1 c3).bind fun r4 =>
 (ref07_Same m r3 r4).bind fun r5 =>
 bif r5 then
 ((slip_Decode m c1 l_1).bind fun r6 =>
 (ref29_Decode m c1 l_1).bind fun r7 =>
 (ref07_Same m r6 r7).bind fun r8 =>
 bif r8 then
 ((law29_awake m).bind fun r9 =>
 ret r9)
 else
 ret false)
 else
 ret false
theorem L_law29_SlipDecodes_l6_step (m n : Nat) (i_7 : Int) (l_1 : List Event) (c1 : Slip) (c2 : State) (c3 : State) : L_law29_SlipDecodes_l6 m (n + 1) i_7 l_1 c1 c2 c3 = b_law29_SlipDecodes_l6 m (fun x0 => some (w_law29_SlipDecodes x0)) (fun i_7 l_1 c1 c2 c3 => L_law29_SlipDecodes_l6 m n i_7 l_1 c1 c2 c3) i_7 l_1 c1 c2 c3 := by kernel_rfl
theorem b_law29_SlipDecodes_l6_map (m : Nat) {k_l6 : Int → List Event → Slip → State → State → Option (List (RV C))} {q_l6 : Int → List Event → Slip → State → State → Option (Bool)} (h_l6 : ∀ i_7 l_1 c1 c2 c3, k_l6 i_7 l_1 c1 c2 c3 = (q_l6 i_7 l_1 c1 c2 c3).map w_law29_SlipDecodes) (i_7 : Int) (l_1 : List Event) (c1 : Slip) (c2 : State) (c3 : State) : b_law29_SlipDecodes_l6 m (fun x0 => some (w_law29_SlipDecodes x0)) k_l6 i_7 l_1 c1 c2 c3 = (b_law29_SlipDecodes_l6 m (fun x0 => some x0) q_l6 i_7 l_1 c1 c2 c3).map w_law29_SlipDecodes := by
  simp only [b_law29_SlipDecodes_l6, cond_map, bind_map, map_none, map_some, h_l6]
noncomputable def law29_SlipDecodes_l6 (m : Nat) : Nat → Int → List Event → Slip → State → State → Option (Bool)
  | 0, _, _, _, _, _ => none
  | n + 1, i_7, l_1, c1, c2, c3 => b_law29_SlipDecodes_l6 m (fun x0 => some x0) (fun i_7 l_1 c1 c2 c3 => law29_SlipDecodes_l6 m n i_7 l_1 c1 c2 c3) i_7 l_1 c1 c2 c3
theorem L_law29_SlipDecodes_l6_eq (m : Nat) : ∀ (n : Nat) (i_7 : Int) (l_1 : List Event) (c1 : Slip) (c2 : State) (c3 : State), L_law29_SlipDecodes_l6 m n i_7 l_1 c1 c2 c3 = (law29_SlipDecodes_l6 m n i_7 l_1 c1 c2 c3).map w_law29_SlipDecodes
  | 0, i_7, l_1, c1, c2, c3 => by kernel_rfl
  | n + 1, i_7, l_1, c1, c2, c3 => by
    rw [L_law29_SlipDecodes_l6_step]
    exact b_law29_SlipDecodes_l6_map m (fun i_7 l_1 c1 c2 c3 => L_law29_SlipDecodes_l6_eq m n i_7 l_1 c1 c2 c3) i_7 l_1 c1 c2 c3
noncomputable def b_law29_SlipDecodes {R : Type} (m : Nat) (ret : Bool → Option R) (k_l6 : Int → List Event → Slip → State → State → Option R) (c_0 : Slip) (l_1 : List Event) : Option R :=
 bif decide ((l_1.length : Int) > 2000) then
 ((law29_awake m).bind fun r0 =>
 ret r0)
 else
 k_l6 0 l_1 c_0 (State.mk 0 0 0 0 0 0 0 (bs [])) (State.mk 0 0 0 0 0 0 0 (bs []))
theorem law29_SlipDecodes_pre (m : Nat) (c_0 : Slip) (l_1 : List Event) : funK Try.prog (Ψ_law29_SlipDecodes m) keep m 1 4 [(dS of_Slip cells_Slip of_Slip_ok).e c_0, (dRow 27).e l_1] = b_law29_SlipDecodes m (fun x0 => some (w_law29_SlipDecodes x0)) (fun i_7 l_1 c1 c2 c3 => L_law29_SlipDecodes_l6 m m i_7 l_1 c1 c2 c3) c_0 l_1 := by kernel_rfl
theorem b_law29_SlipDecodes_map (m : Nat) {k_l6 : Int → List Event → Slip → State → State → Option (List (RV C))} {q_l6 : Int → List Event → Slip → State → State → Option (Bool)} (h_l6 : ∀ i_7 l_1 c1 c2 c3, k_l6 i_7 l_1 c1 c2 c3 = (q_l6 i_7 l_1 c1 c2 c3).map w_law29_SlipDecodes) (c_0 : Slip) (l_1 : List Event) : b_law29_SlipDecodes m (fun x0 => some (w_law29_SlipDecodes x0)) k_l6 c_0 l_1 = (b_law29_SlipDecodes m (fun x0 => some x0) q_l6 c_0 l_1).map w_law29_SlipDecodes := by
  simp only [b_law29_SlipDecodes, cond_map, bind_map, map_none, map_some, h_l6]
noncomputable def law29_SlipDecodes (m : Nat) (c_0 : Slip) (l_1 : List Event) : Option (Bool) := b_law29_SlipDecodes m (fun x0 => some x0) (fun i_7 l_1 c1 c2 c3 => law29_SlipDecodes_l6 m m i_7 l_1 c1 c2 c3) c_0 l_1
theorem law29_SlipDecodes_fun (m : Nat) (c_0 : Slip) (l_1 : List Event) : funK Try.prog (Ψ_law29_SlipDecodes m) keep m 1 4 [(dS of_Slip cells_Slip of_Slip_ok).e c_0, (dRow 27).e l_1] = (law29_SlipDecodes m c_0 l_1).map w_law29_SlipDecodes := by
  rw [law29_SlipDecodes_pre]
  exact b_law29_SlipDecodes_map m (fun i_7 l_1 c1 c2 c3 => L_law29_SlipDecodes_l6_eq m m i_7 l_1 c1 c2 c3) c_0 l_1
noncomputable def K_law29_SlipDecodes (m : Nat) : KnownF C := mkK (dCons (dS of_Slip cells_Slip of_Slip_ok) (dCons (dRow 27) dNil)) (fun a => law29_SlipDecodes m a.1 a.2.1) w_law29_SlipDecodes
theorem K_law29_SlipDecodes_ok (m : Nat) : KnownAt C Try.prog 4 fun l => (K_law29_SlipDecodes m).run _ l some :=
  mkK_known good fit (Ψ_law29_SlipDecodes_ok m) (keep := keep) (m := m) (d := 1) fun a => law29_SlipDecodes_fun m a.1 a.2.1
/-! ### signalbench/signalbenchref29.right -/
def w_ref29_right (b : Int) : List (RV C) := [(dInt .i64).e b]
noncomputable def b_ref29_right {R : Type} (m : Nat) (ret : Int → Option R) (c_0 : Slip) (x_1 : Item) : Option R :=
 bif decide (x_1.Gap < 0) then
 ret 1
 else
 bif decide (x_1.Gap > 1048576) then
 ret 1
 else
 bif decide ((x_1.Data.size : Int) > 4096) then
 ret 6
 else
 bif decide ((x_1.Data.size : Int) < 1) then
 ret 2
 else
 bif decide ((x_1.Data.size : Int) > c_0.Most) then
 ret 2
 else
 bif x_1.Fault != 0 then
 bif x_1.Fault != 5 then
 ret 1
 else
 bif x_1.Value != 0 then
 ret 1
 else
 bif x_1.Aux != 0 then
 ret 1
 else
 ret 0
 else
 bif x_1.Value != 0 then
 ret 1
 else
 bif x_1.Aux != 0 then
 ret 1
 else
 ret 0
theorem ref29_right_pre (m : Nat) (c_0 : Slip) (x_1 : Item) : funK Try.prog Ψ0 keep m 1 40 [(dS of_Slip cells_Slip of_Slip_ok).e c_0, (dS of_Item cells_Item of_Item_ok).e x_1] = b_ref29_right m (fun x0 => some (w_ref29_right x0)) c_0 x_1 := by kernel_rfl
theorem b_ref29_right_map (m : Nat) (c_0 : Slip) (x_1 : Item) : b_ref29_right m (fun x0 => some (w_ref29_right x0)) c_0 x_1 = (b_ref29_right m (fun x0 => some x0) c_0 x_1).map w_ref29_right := by
  simp only [b_ref29_right, cond_map, bind_map, map_none, map_some]
noncomputable def ref29_right (m : Nat) (c_0 : Slip) (x_1 : Item) : Option (Int) := b_ref29_right m (fun x0 => some x0) c_0 x_1
theorem ref29_right_fun (m : Nat) (c_0 : Slip) (x_1 : Item) : funK Try.prog Ψ0 keep m 1 40 [(dS of_Slip cells_Slip of_Slip_ok).e c_0, (dS of_Item cells_Item of_Item_ok).e x_1] = (ref29_right m c_0 x_1).map w_ref29_right := by
  rw [ref29_right_pre]
  exact b_ref29_right_map m c_0 x_1
noncomputable def K_ref29_right (m : Nat) : KnownF C := mkK (dCons (dS of_Slip cells_Slip of_Slip_ok) (dCons (dS of_Item cells_Item of_Item_ok) dNil)) (fun a => ref29_right m a.1 a.2.1) w_ref29_right
theorem K_ref29_right_ok (m : Nat) : KnownAt C Try.prog 40 fun l => (K_ref29_right m).run _ l some :=
  mkK_known good fit Ψ0_ok (keep := keep) (m := m) (d := 1) fun a => ref29_right_fun m a.1 a.2.1
/-! ### signalbench/signalbenchref29.send -/
def w_ref29_send (b : List Int) : List (RV C) := [(dRow 5).e b]
noncomputable def Q_ref29_send_5 (m : Nat) : St C → (Exit → St C → Option (List (RV C))) → Option (List (RV C)) := fun σ k => codeK Try.prog Ψ0 (callK Try.prog Ψ0 keep m 0) (keep 41) m (subC body41 [.r, .r, .r, .l, .r, .b, .o]) σ k
noncomputable def KL_ref29_send_5 (m : Nat) : Exit → St C → Option (List (RV C)) := contK Try.prog Ψ0 (callK Try.prog Ψ0 keep m 0) (keep 41) m body41 [.r, .r, .r, .l, .r, .b, .o] (leaveK Try.prog Try.f41.results.toList (finK Try.prog Try.f41.resultTypes.toList))
noncomputable def L_ref29_send_l5 (m n : Nat) (i_4 : Int) (c0 : Item) (out_3 : List Int) : Option (List (RV C)) := iterK (Q_ref29_send_5 m) (St.norm (keep 41 5)) n ({ T := [.dead, .fl (.one (.ptr 0 0)), .dead, .fl (.one (.sl 1)), .fl (.one (.int .i64 i_4))] ++ List.replicate 36 .dead, F := [[]], H := [.box 46 (cells_Item c0), .row 5 true out_3] } : St C) (KL_ref29_send_5 m)
noncomputable def b_ref29_send_l5 {R : Type} (m : Nat) (ret : List Int → Option R) (k_l5 : Int → Item → List Int → Option R) (i_4 : Int) (c0 : Item) (out_3 : List Int) : Option R :=
 bif decide (i_4 < (c0.Data.size : Int)) then
 bif decide (0 ≤ i_4) then
 bif decide (i_4 < (c0.Data.size : Int)) then
 bif byteAt c0.Data i_4 == 192 then
 bif decide ((out_3.length + 2) * 1 ≤ 140737488355328) then
 k_l5 (IntKind.i64.wrap (i_4 + 1)) c0 (out_3 ++ [219, 220])
 else
 none
 else
 bif byteAt c0.Data i_4 == 219 then
 bif decide ((out_3.length + 2) * 1 ≤ 140737488355328) then
 k_l5 (IntKind.i64.wrap (i_4 + 1)) c0 (out_3 ++ [219, 221])
 else
 none
 else
 bif decide ((out_3.length + 1) * 1 ≤ 140737488355328) then
 k_l5 (IntKind.i64.wrap (i_4 + 1)) c0 (out_3 ++ [byteAt c0.Data i_4])
 else
 none
 else
 none
 else
 none
 else
 bif decide ((out_3.length + 1) * 1 ≤ 140737488355328) then
 ret (out_3 ++ [192])
 else
 none
theorem L_ref29_send_l5_step (m n : Nat) (i_4 : Int) (c0 : Item) (out_3 : List Int) : L_ref29_send_l5 m (n + 1) i_4 c0 out_3 = b_ref29_send_l5 m (fun x0 => some (w_ref29_send x0)) (fun i_4 c0 out_3 => L_ref29_send_l5 m n i_4 c0 out_3) i_4 c0 out_3 := by kernel_rfl
theorem b_ref29_send_l5_map (m : Nat) {k_l5 : Int → Item → List Int → Option (List (RV C))} {q_l5 : Int → Item → List Int → Option (List Int)} (h_l5 : ∀ i_4 c0 out_3, k_l5 i_4 c0 out_3 = (q_l5 i_4 c0 out_3).map w_ref29_send) (i_4 : Int) (c0 : Item) (out_3 : List Int) : b_ref29_send_l5 m (fun x0 => some (w_ref29_send x0)) k_l5 i_4 c0 out_3 = (b_ref29_send_l5 m (fun x0 => some x0) q_l5 i_4 c0 out_3).map w_ref29_send := by
  simp only [b_ref29_send_l5, cond_map, bind_map, map_none, map_some, h_l5]
noncomputable def ref29_send_l5 (m : Nat) : Nat → Int → Item → List Int → Option (List Int)
  | 0, _, _, _ => none
  | n + 1, i_4, c0, out_3 => b_ref29_send_l5 m (fun x0 => some x0) (fun i_4 c0 out_3 => ref29_send_l5 m n i_4 c0 out_3) i_4 c0 out_3
theorem L_ref29_send_l5_eq (m : Nat) : ∀ (n : Nat) (i_4 : Int) (c0 : Item) (out_3 : List Int), L_ref29_send_l5 m n i_4 c0 out_3 = (ref29_send_l5 m n i_4 c0 out_3).map w_ref29_send
  | 0, i_4, c0, out_3 => by kernel_rfl
  | n + 1, i_4, c0, out_3 => by
    rw [L_ref29_send_l5_step]
    exact b_ref29_send_l5_map m (fun i_4 c0 out_3 => L_ref29_send_l5_eq m n i_4 c0 out_3) i_4 c0 out_3
noncomputable def b_ref29_send {R : Type} (m : Nat) (ret : List Int → Option R) (k_l5 : Int → Item → List Int → Option R) (x_0 : Item) : Option R :=
 bif x_0.Fault == 5 then
 k_l5 0 x_0 ([192] ++ [219, 0])
 else
 k_l5 0 x_0 [192]
theorem ref29_send_pre (m : Nat) (x_0 : Item) : funK Try.prog Ψ0 keep m 1 41 [(dS of_Item cells_Item of_Item_ok).e x_0] = b_ref29_send m (fun x0 => some (w_ref29_send x0)) (fun i_4 c0 out_3 => L_ref29_send_l5 m m i_4 c0 out_3) x_0 := by kernel_rfl
theorem b_ref29_send_map (m : Nat) {k_l5 : Int → Item → List Int → Option (List (RV C))} {q_l5 : Int → Item → List Int → Option (List Int)} (h_l5 : ∀ i_4 c0 out_3, k_l5 i_4 c0 out_3 = (q_l5 i_4 c0 out_3).map w_ref29_send) (x_0 : Item) : b_ref29_send m (fun x0 => some (w_ref29_send x0)) k_l5 x_0 = (b_ref29_send m (fun x0 => some x0) q_l5 x_0).map w_ref29_send := by
  simp only [b_ref29_send, cond_map, bind_map, map_none, map_some, h_l5]
noncomputable def ref29_send (m : Nat) (x_0 : Item) : Option (List Int) := b_ref29_send m (fun x0 => some x0) (fun i_4 c0 out_3 => ref29_send_l5 m m i_4 c0 out_3) x_0
theorem ref29_send_fun (m : Nat) (x_0 : Item) : funK Try.prog Ψ0 keep m 1 41 [(dS of_Item cells_Item of_Item_ok).e x_0] = (ref29_send m x_0).map w_ref29_send := by
  rw [ref29_send_pre]
  exact b_ref29_send_map m (fun i_4 c0 out_3 => L_ref29_send_l5_eq m m i_4 c0 out_3) x_0
noncomputable def K_ref29_send (m : Nat) : KnownF C := mkK (dCons (dS of_Item cells_Item of_Item_ok) dNil) (fun a => ref29_send m a.1) w_ref29_send
theorem K_ref29_send_ok (m : Nat) : KnownAt C Try.prog 41 fun l => (K_ref29_send m).run _ l some :=
  mkK_known good fit Ψ0_ok (keep := keep) (m := m) (d := 1) fun a => ref29_send_fun m a.1
/-! ### signalbench/signalbenchref29.Encode -/
noncomputable def Ψ_ref29_Encode (m : Nat) : Known C := fun f => match f with
  | 11 => some (K_ref29_Check m)
  | 40 => some (K_ref29_right m)
  | 41 => some (K_ref29_send m)
  | _ => none
theorem Ψ_ref29_Encode_ok (m : Nat) : KnownOk C Try.prog (Ψ_ref29_Encode m) := by
  intro f φ h
  unfold Ψ_ref29_Encode at h
  split at h
  · injection h with h; subst h; exact K_ref29_Check_ok m
  · injection h with h; subst h; exact K_ref29_right_ok m
  · injection h with h; subst h; exact K_ref29_send_ok m
  · cases h
def w_ref29_Encode (b : List Item × Int) : List (RV C) := [(dRow 46).e b.1, (dInt .i64).e b.2]
noncomputable def Q_ref29_Encode_7 (m : Nat) : St C → (Exit → St C → Option (List (RV C))) → Option (List (RV C)) := fun σ k => codeK Try.prog (Ψ_ref29_Encode m) (callK Try.prog (Ψ_ref29_Encode m) keep m 0) (keep 23) m (subC body23 [.r, .r, .r, .l, .r, .b, .o]) σ k
noncomputable def KL_ref29_Encode_7 (m : Nat) : Exit → St C → Option (List (RV C)) := contK Try.prog (Ψ_ref29_Encode m) (callK Try.prog (Ψ_ref29_Encode m) keep m 0) (keep 23) m body23 [.r, .r, .r, .l, .r, .b, .o] (leaveK Try.prog Try.f23.results.toList (finK Try.prog Try.f23.resultTypes.toList))
noncomputable def Q_ref29_Encode_14 (m : Nat) : St C → (Exit → St C → Option (List (RV C))) → Option (List (RV C)) := fun σ k => codeK Try.prog (Ψ_ref29_Encode m) (callK Try.prog (Ψ_ref29_Encode m) keep m 0) (keep 23) m (subC body23 [.r, .r, .r, .r, .r, .l, .r, .b, .o]) σ k
noncomputable def KL_ref29_Encode_14 (m : Nat) : Exit → St C → Option (List (RV C)) := contK Try.prog (Ψ_ref29_Encode m) (callK Try.prog (Ψ_ref29_Encode m) keep m 0) (keep 23) m body23 [.r, .r, .r, .r, .r, .l, .r, .b, .o] (leaveK Try.prog Try.f23.results.toList (finK Try.prog Try.f23.resultTypes.toList))
noncomputable def Q_ref29_Encode_18 (m : Nat) : St C → (Exit → St C → Option (List (RV C))) → Option (List (RV C)) := fun σ k => codeK Try.prog (Ψ_ref29_Encode m) (callK Try.prog (Ψ_ref29_Encode m) keep m 0) (keep 23) m (subC (subC body23 [.r, .r, .r, .r, .r, .l, .r, .b, .o]) [.r, .l, .b, .r, .r, .b, .o]) σ k
noncomputable def KL_ref29_Encode_18 (m : Nat) (n14 : Nat) : Exit → St C → Option (List (RV C)) := contK Try.prog (Ψ_ref29_Encode m) (callK Try.prog (Ψ_ref29_Encode m) keep m 0) (keep 23) m (subC body23 [.r, .r, .r, .r, .r, .l, .r, .b, .o]) [.r, .l, .b, .r, .r, .b, .o] (rndK (Q_ref29_Encode_14 m) (St.norm (keep 23 14)) n14 (KL_ref29_Encode_14 m))
noncomputable def L_ref29_Encode_l7 (m n : Nat) (i_7 : Int) (l_1 : List Item) (c1 : Slip) : Option (List (RV C)) := iterK (Q_ref29_Encode_7 m) (St.norm (keep 23 7)) n ({ T := [.dead, .fl (.one (.sl 0)), .fl (.one (.ptr 1 0)), .dead, .dead, .dead, .dead, .fl (.one (.int .i64 i_7))] ++ List.replicate 69 .dead, F := [[]], H := [.row 46 false l_1, .box 23 (cells_Slip c1)] } : St C) (KL_ref29_Encode_7 m)
noncomputable def L_ref29_Encode_l14 (m n : Nat) (i_10 : Int) (l_1 : List Item) (out_9 : List Item) : Option (List (RV C)) := iterK (Q_ref29_Encode_14 m) (St.norm (keep 23 14)) n ({ T := [.dead, .fl (.one (.sl 0)), .dead, .dead, .dead, .dead, .dead, .dead, .dead, .fl (.one (.sl 1)), .fl (.one (.int .i64 i_10))] ++ List.replicate 66 .dead, F := [[]], H := [.row 46 false l_1, .row 46 true out_9] } : St C) (KL_ref29_Encode_14 m)
noncomputable def L_ref29_Encode_l18 (m n14 n : Nat) (i_10 : Int) (k_12 : Int) (l_1 : List Item) (out_9 : List Item) (b_11 : List Int) : Option (List (RV C)) := iterK (Q_ref29_Encode_18 m) (St.norm (keep 23 18)) n ({ T := [.dead, .fl (.one (.sl 0)), .dead, .dead, .dead, .dead, .dead, .dead, .dead, .fl (.one (.sl 1)), .fl (.one (.int .i64 i_10)), .fl (.one (.sl 2)), .fl (.one (.int .i64 k_12))] ++ List.replicate 64 .dead, F := [[]], H := [.row 46 false l_1, .row 46 true out_9, .row 5 true b_11] } : St C) (KL_ref29_Encode_18 m n14)
noncomputable def b_ref29_Encode_l18 {R : Type} (m : Nat) (ret : List Item → Int → Option R) (k_l18 : Int → Int → List Item → List Item → List Int → Option R) (k_l14 : Int → List Item → List Item → Option R) (i_10 : Int) (k_12 : Int) (l_1 : List Item) (out_9 : List Item) (b_11 : List Int) : Option R :=
 bif decide (k_12 < (b_11.length : Int)) then
 bif decide (0 ≤ k_12) then
 bif decide (k_12 < (b_11.length : Int)) then
 bif k_12 == 0 then
 bif decide (0 ≤ i_10) then
 bif decide (i_10 < (l_1.length : Int)) then
 bif decide ((out_9.length + 1) * 48 ≤ 140737488355328) then
 k_l18 i_10 (IntKind.i64.wrap (k_12 + 1)) l_1 (out_9 ++ [Item.mk (l_1.getD i_10.toNat dflt_Item).Gap (IntKind.i64.wrap (b_11.getD k_12.toNat 0)) 0 (bs []) 0]) b_11
 else
 none
 else
 none
 else
 none
 else
 bif decide ((out_9.length + 1) * 48 ≤ 140737488355328) then
 k_l18 i_10 (IntKind.i64.wrap (k_12 + 1)) l_1 (out_9 ++ [Item.mk 0 (IntKind.i64.wrap (b_11.getD k_12.toNat 0)) 0 (bs []) 0]) b_11
 else
 none
 else
 none
 else
 none
 else
 k_l14 (IntKind.i64.wrap (i_10 + 1)) l_1 out_9
theorem L_ref29_Encode_l18_step (m n14 n : Nat) (i_10 : Int) (k_12 : Int) (l_1 : List Item) (out_9 : List Item) (b_11 : List Int) : L_ref29_Encode_l18 m n14 (n + 1) i_10 k_12 l_1 out_9 b_11 = b_ref29_Encode_l18 m (fun x0 x1 => some (w_ref29_Encode (x0, x1))) (fun i_10 k_12 l_1 out_9 b_11 => L_ref29_Encode_l18 m n14 n i_10 k_12 l_1 out_9 b_11) (fun i_10 l_1 out_9 => L_ref29_Encode_l14 m n14 i_10 l_1 out_9) i_10 k_12 l_1 out_9 b_11 := by kernel_rfl
theorem b_ref29_Encode_l18_map (m : Nat) {k_l18 : Int → Int → List Item → List Item → List Int → Option (List (RV C))} {q_l18 : Int → Int → List Item → List Item → List Int → Option (List Item × Int)} (h_l18 : ∀ i_10 k_12 l_1 out_9 b_11, k_l18 i_10 k_12 l_1 out_9 b_11 = (q_l18 i_10 k_12 l_1 out_9 b_11).map w_ref29_Encode) {k_l14 : Int → List Item → List Item → Option (List (RV C))} {q_l14 : Int → List Item → List Item → Option (List Item × Int)} (h_l14 : ∀ i_10 l_1 out_9, k_l14 i_10 l_1 out_9 = (q_l14 i_10 l_1 out_9).map w_ref29_Encode) (i_10 : Int) (k_12 : Int) (l_1 : List Item) (out_9 : List Item) (b_11 : List Int) : b_ref29_Encode_l18 m (fun x0 x1 => some (w_ref29_Encode (x0, x1))) k_l18 k_l14 i_10 k_12 l_1 out_9 b_11 = (b_ref29_Encode_l18 m (fun x0 x1 => some (x0, x1)) q_l18 q_l14 i_10 k_12 l_1 out_9 b_11).map w_ref29_Encode := by
  simp only [b_ref29_Encode_l18, cond_map, bind_map, map_none, map_some, h_l18, h_l14]
noncomputable def ref29_Encode_l18 (m : Nat) (q_l14 : Int → List Item → List Item → Option (List Item × Int)) : Nat → Int → Int → List Item → List Item → List Int → Option (List Item × Int)
  | 0, _, _, _, _, _ => none
  | n + 1, i_10, k_12, l_1, out_9, b_11 => b_ref29_Encode_l18 m (fun x0 x1 => some (x0, x1)) (fun i_10 k_12 l_1 out_9 b_11 => ref29_Encode_l18 m q_l14 n i_10 k_12 l_1 out_9 b_11) q_l14 i_10 k_12 l_1 out_9 b_11
theorem L_ref29_Encode_l18_eq (m n14 : Nat) (q_l14 : Int → List Item → List Item → Option (List Item × Int)) (h_l14 : ∀ i_10 l_1 out_9, L_ref29_Encode_l14 m n14 i_10 l_1 out_9 = (q_l14 i_10 l_1 out_9).map w_ref29_Encode) : ∀ (n : Nat) (i_10 : Int) (k_12 : Int) (l_1 : List Item) (out_9 : List Item) (b_11 : List Int), L_ref29_Encode_l18 m n14 n i_10 k_12 l_1 out_9 b_11 = (ref29_Encode_l18 m q_l14 n i_10 k_12 l_1 out_9 b_11).map w_ref29_Encode
  | 0, i_10, k_12, l_1, out_9, b_11 => by kernel_rfl
  | n + 1, i_10, k_12, l_1, out_9, b_11 => by
    rw [L_ref29_Encode_l18_step]
    exact b_ref29_Encode_l18_map m (fun i_10 k_12 l_1 out_9 b_11 => L_ref29_Encode_l18_eq m n14 q_l14 h_l14 n i_10 k_12 l_1 out_9 b_11) h_l14 i_10 k_12 l_1 out_9 b_11
noncomputable def b_ref29_Encode_l14 {R : Type} (m : Nat) (ret : List Item → Int → Option R) (k_l18 : Int → Int → List Item → List Item → List Int → Option R) (i_10 : Int) (l_1 : List Item) (out_9 : List Item) : Option R :=
 bif decide (i_10 < (l_1.length : Int)) then
 (bif decide (0 ≤ i_10) then
 (bif decide (i_10 < (l_1.length : Int)) then
 ((ref29_send m (l_1.getD i_10.toNat dflt_Item)).bind fun r0 =>
 k_l18 i_10 0 l_1 out_9 r0)
 else
 none)
 else
 none)
 else
 bif decide ((out_9.length : Int) > 262144) then
 ret [] 6
 else
 ret out_9 0
theorem L_ref29_Encode_l14_step (m n : Nat) (i_10 : Int) (l_1 : List Item) (out_9 : List Item) : L_ref29_Encode_l14 m (n + 1) i_10 l_1 out_9 = b_ref29_Encode_l14 m (fun x0 x1 => some (w_ref29_Encode (x0, x1))) (fun i_10 k_12 l_1 out_9 b_11 => L_ref29_Encode_l18 m n m i_10 k_12 l_1 out_9 b_11) i_10 l_1 out_9 := by kernel_rfl
theorem b_ref29_Encode_l14_map (m : Nat) {k_l18 : Int → Int → List Item → List Item → List Int → Option (List (RV C))} {q_l18 : Int → Int → List Item → List Item → List Int → Option (List Item × Int)} (h_l18 : ∀ i_10 k_12 l_1 out_9 b_11, k_l18 i_10 k_12 l_1 out_9 b_11 = (q_l18 i_10 k_12 l_1 out_9 b_11).map w_ref29_Encode) (i_10 : Int) (l_1 : List Item) (out_9 : List Item) : b_ref29_Encode_l14 m (fun x0 x1 => some (w_ref29_Encode (x0, x1))) k_l18 i_10 l_1 out_9 = (b_ref29_Encode_l14 m (fun x0 x1 => some (x0, x1)) q_l18 i_10 l_1 out_9).map w_ref29_Encode := by
  simp only [b_ref29_Encode_l14, cond_map, bind_map, map_none, map_some, h_l18]
noncomputable def ref29_Encode_l14 (m : Nat) : Nat → Int → List Item → List Item → Option (List Item × Int)
  | 0, _, _, _ => none
  | n + 1, i_10, l_1, out_9 => b_ref29_Encode_l14 m (fun x0 x1 => some (x0, x1)) (fun i_10 k_12 l_1 out_9 b_11 => ref29_Encode_l18 m (fun i_10 l_1 out_9 => ref29_Encode_l14 m n i_10 l_1 out_9) m i_10 k_12 l_1 out_9 b_11) i_10 l_1 out_9
theorem L_ref29_Encode_l14_eq (m : Nat) : ∀ (n : Nat) (i_10 : Int) (l_1 : List Item) (out_9 : List Item), L_ref29_Encode_l14 m n i_10 l_1 out_9 = (ref29_Encode_l14 m n i_10 l_1 out_9).map w_ref29_Encode
  | 0, i_10, l_1, out_9 => by kernel_rfl
  | n + 1, i_10, l_1, out_9 => by
    rw [L_ref29_Encode_l14_step]
    exact b_ref29_Encode_l14_map m (fun i_10 k_12 l_1 out_9 b_11 => L_ref29_Encode_l18_eq m n (fun i_10 l_1 out_9 => ref29_Encode_l14 m n i_10 l_1 out_9) (fun i_10 l_1 out_9 => L_ref29_Encode_l14_eq m n i_10 l_1 out_9) m i_10 k_12 l_1 out_9 b_11) i_10 l_1 out_9
noncomputable def b_ref29_Encode_l7 {R : Type} (m : Nat) (ret : List Item → Int → Option R) (k_l7 : Int → List Item → Slip → Option R) (k_l14 : Int → List Item → List Item → Option R) (i_7 : Int) (l_1 : List Item) (c1 : Slip) : Option R :=
 bif decide (i_7 < (l_1.length : Int)) then
 (bif decide (0 ≤ i_7) then
 (bif decide (i_7 < (l_1.length : Int)) then
 ((ref29_right m c1 (l_1.getD i_7.toNat dflt_Item)).bind fun r0 =>
 bif r0 != 0 then
 ret [] r0
 else
 k_l7 (IntKind.i64.wrap (i_7 + 1)) l_1 c1)
 else
 none)
 else
 none)
 else
 k_l14 0 l_1 []
theorem L_ref29_Encode_l7_step (m n : Nat) (i_7 : Int) (l_1 : List Item) (c1 : Slip) : L_ref29_Encode_l7 m (n + 1) i_7 l_1 c1 = b_ref29_Encode_l7 m (fun x0 x1 => some (w_ref29_Encode (x0, x1))) (fun i_7 l_1 c1 => L_ref29_Encode_l7 m n i_7 l_1 c1) (fun i_10 l_1 out_9 => L_ref29_Encode_l14 m m i_10 l_1 out_9) i_7 l_1 c1 := by kernel_rfl
theorem b_ref29_Encode_l7_map (m : Nat) {k_l7 : Int → List Item → Slip → Option (List (RV C))} {q_l7 : Int → List Item → Slip → Option (List Item × Int)} (h_l7 : ∀ i_7 l_1 c1, k_l7 i_7 l_1 c1 = (q_l7 i_7 l_1 c1).map w_ref29_Encode) {k_l14 : Int → List Item → List Item → Option (List (RV C))} {q_l14 : Int → List Item → List Item → Option (List Item × Int)} (h_l14 : ∀ i_10 l_1 out_9, k_l14 i_10 l_1 out_9 = (q_l14 i_10 l_1 out_9).map w_ref29_Encode) (i_7 : Int) (l_1 : List Item) (c1 : Slip) : b_ref29_Encode_l7 m (fun x0 x1 => some (w_ref29_Encode (x0, x1))) k_l7 k_l14 i_7 l_1 c1 = (b_ref29_Encode_l7 m (fun x0 x1 => some (x0, x1)) q_l7 q_l14 i_7 l_1 c1).map w_ref29_Encode := by
  simp only [b_ref29_Encode_l7, cond_map, bind_map, map_none, map_some, h_l7, h_l14]
noncomputable def ref29_Encode_l7 (m : Nat) : Nat → Int → List Item → Slip → Option (List Item × Int)
  | 0, _, _, _ => none
  | n + 1, i_7, l_1, c1 => b_ref29_Encode_l7 m (fun x0 x1 => some (x0, x1)) (fun i_7 l_1 c1 => ref29_Encode_l7 m n i_7 l_1 c1) (fun i_10 l_1 out_9 => ref29_Encode_l14 m m i_10 l_1 out_9) i_7 l_1 c1
theorem L_ref29_Encode_l7_eq (m : Nat) : ∀ (n : Nat) (i_7 : Int) (l_1 : List Item) (c1 : Slip), L_ref29_Encode_l7 m n i_7 l_1 c1 = (ref29_Encode_l7 m n i_7 l_1 c1).map w_ref29_Encode
  | 0, i_7, l_1, c1 => by kernel_rfl
  | n + 1, i_7, l_1, c1 => by
    rw [L_ref29_Encode_l7_step]
    exact b_ref29_Encode_l7_map m (fun i_7 l_1 c1 => L_ref29_Encode_l7_eq m n i_7 l_1 c1) (fun i_10 l_1 out_9 => L_ref29_Encode_l14_eq m m i_10 l_1 out_9) i_7 l_1 c1
noncomputable def b_ref29_Encode {R : Type} (m : Nat) (ret : List Item → Int → Option R) (k_l7 : Int → List Item → Slip → Option R) (c_0 : Slip) (l_1 : List Item) : Option R :=
 (ref29_Check m c_0).bind fun r0 =>
 bif r0 != 0 then
 ret [] r0
 else
 bif decide ((l_1.length : Int) > 1024) then
 ret [] 6
 else
 k_l7 0 l_1 c_0
theorem ref29_Encode_pre (m : Nat) (c_0 : Slip) (l_1 : List Item) : funK Try.prog (Ψ_ref29_Encode m) keep m 1 23 [(dS of_Slip cells_Slip of_Slip_ok).e c_0, (dRow 46).e l_1] = b_ref29_Encode m (fun x0 x1 => some (w_ref29_Encode (x0, x1))) (fun i_7 l_1 c1 => L_ref29_Encode_l7 m m i_7 l_1 c1) c_0 l_1 := by kernel_rfl
theorem b_ref29_Encode_map (m : Nat) {k_l7 : Int → List Item → Slip → Option (List (RV C))} {q_l7 : Int → List Item → Slip → Option (List Item × Int)} (h_l7 : ∀ i_7 l_1 c1, k_l7 i_7 l_1 c1 = (q_l7 i_7 l_1 c1).map w_ref29_Encode) (c_0 : Slip) (l_1 : List Item) : b_ref29_Encode m (fun x0 x1 => some (w_ref29_Encode (x0, x1))) k_l7 c_0 l_1 = (b_ref29_Encode m (fun x0 x1 => some (x0, x1)) q_l7 c_0 l_1).map w_ref29_Encode := by
  simp only [b_ref29_Encode, cond_map, bind_map, map_none, map_some, h_l7]
noncomputable def ref29_Encode (m : Nat) (c_0 : Slip) (l_1 : List Item) : Option (List Item × Int) := b_ref29_Encode m (fun x0 x1 => some (x0, x1)) (fun i_7 l_1 c1 => ref29_Encode_l7 m m i_7 l_1 c1) c_0 l_1
theorem ref29_Encode_fun (m : Nat) (c_0 : Slip) (l_1 : List Item) : funK Try.prog (Ψ_ref29_Encode m) keep m 1 23 [(dS of_Slip cells_Slip of_Slip_ok).e c_0, (dRow 46).e l_1] = (ref29_Encode m c_0 l_1).map w_ref29_Encode := by
  rw [ref29_Encode_pre]
  exact b_ref29_Encode_map m (fun i_7 l_1 c1 => L_ref29_Encode_l7_eq m m i_7 l_1 c1) c_0 l_1
noncomputable def K_ref29_Encode (m : Nat) : KnownF C := mkK (dCons (dS of_Slip cells_Slip of_Slip_ok) (dCons (dRow 46) dNil)) (fun a => ref29_Encode m a.1 a.2.1) w_ref29_Encode
theorem K_ref29_Encode_ok (m : Nat) : KnownAt C Try.prog 23 fun l => (K_ref29_Encode m).run _ l some :=
  mkK_known good fit (Ψ_ref29_Encode_ok m) (keep := keep) (m := m) (d := 1) fun a => ref29_Encode_fun m a.1 a.2.1
/-! ### signalbench/signalbenchref29.Same -/
def w_ref29_Same (b : Bool) : List (RV C) := [dBool.e b]
noncomputable def Q_ref29_Same_4 (m : Nat) : St C → (Exit → St C → Option (List (RV C))) → Option (List (RV C)) := fun σ k => codeK Try.prog Ψ0 (callK Try.prog Ψ0 keep m 0) (keep 24) m (subC body24 [.r, .r, .l, .r, .b, .o]) σ k
noncomputable def KL_ref29_Same_4 (m : Nat) : Exit → St C → Option (List (RV C)) := contK Try.prog Ψ0 (callK Try.prog Ψ0 keep m 0) (keep 24) m body24 [.r, .r, .l, .r, .b, .o] (leaveK Try.prog Try.f24.results.toList (finK Try.prog Try.f24.resultTypes.toList))
noncomputable def L_ref29_Same_l4 (m n : Nat) (i_5 : Int) (a_0 : List Item) (b_1 : List Item) : Option (List (RV C)) := iterK (Q_ref29_Same_4 m) (St.norm (keep 24 4)) n ({ T := [.fl (.one (.sl 0)), .fl (.one (.sl 1)), .dead, .dead, .dead, .fl (.one (.int .i64 i_5))] ++ List.replicate 20 .dead, F := [[]], H := [.row 46 false a_0, .row 46 false b_1] } : St C) (KL_ref29_Same_4 m)
noncomputable def b_ref29_Same_l4 {R : Type} (m : Nat) (ret : Bool → Option R) (k_l4 : Int → List Item → List Item → Option R) (i_5 : Int) (a_0 : List Item) (b_1 : List Item) : Option R :=
 bif decide (i_5 < (a_0.length : Int)) then
 bif decide (0 ≤ i_5) then
 bif decide (i_5 < (a_0.length : Int)) then
 bif decide (0 ≤ i_5) then
 bif decide (i_5 < (b_1.length : Int)) then
 bif !((a_0.getD i_5.toNat dflt_Item).Gap == (b_1.getD i_5.toNat dflt_Item).Gap && ((a_0.getD i_5.toNat dflt_Item).Value == (b_1.getD i_5.toNat dflt_Item).Value && ((a_0.getD i_5.toNat dflt_Item).Aux == (b_1.getD i_5.toNat dflt_Item).Aux && ((a_0.getD i_5.toNat dflt_Item).Data == (b_1.getD i_5.toNat dflt_Item).Data && ((a_0.getD i_5.toNat dflt_Item).Fault == (b_1.getD i_5.toNat dflt_Item).Fault && true))))) then
 ret false
 else
 k_l4 (IntKind.i64.wrap (i_5 + 1)) a_0 b_1
 else
 none
 else
 none
 else
 none
 else
 none
 else
 ret true
theorem L_ref29_Same_l4_step (m n : Nat) (i_5 : Int) (a_0 : List Item) (b_1 : List Item) : L_ref29_Same_l4 m (n + 1) i_5 a_0 b_1 = b_ref29_Same_l4 m (fun x0 => some (w_ref29_Same x0)) (fun i_5 a_0 b_1 => L_ref29_Same_l4 m n i_5 a_0 b_1) i_5 a_0 b_1 := by kernel_rfl
theorem b_ref29_Same_l4_map (m : Nat) {k_l4 : Int → List Item → List Item → Option (List (RV C))} {q_l4 : Int → List Item → List Item → Option (Bool)} (h_l4 : ∀ i_5 a_0 b_1, k_l4 i_5 a_0 b_1 = (q_l4 i_5 a_0 b_1).map w_ref29_Same) (i_5 : Int) (a_0 : List Item) (b_1 : List Item) : b_ref29_Same_l4 m (fun x0 => some (w_ref29_Same x0)) k_l4 i_5 a_0 b_1 = (b_ref29_Same_l4 m (fun x0 => some x0) q_l4 i_5 a_0 b_1).map w_ref29_Same := by
  simp only [b_ref29_Same_l4, cond_map, bind_map, map_none, map_some, h_l4]
noncomputable def ref29_Same_l4 (m : Nat) : Nat → Int → List Item → List Item → Option (Bool)
  | 0, _, _, _ => none
  | n + 1, i_5, a_0, b_1 => b_ref29_Same_l4 m (fun x0 => some x0) (fun i_5 a_0 b_1 => ref29_Same_l4 m n i_5 a_0 b_1) i_5 a_0 b_1
theorem L_ref29_Same_l4_eq (m : Nat) : ∀ (n : Nat) (i_5 : Int) (a_0 : List Item) (b_1 : List Item), L_ref29_Same_l4 m n i_5 a_0 b_1 = (ref29_Same_l4 m n i_5 a_0 b_1).map w_ref29_Same
  | 0, i_5, a_0, b_1 => by kernel_rfl
  | n + 1, i_5, a_0, b_1 => by
    rw [L_ref29_Same_l4_step]
    exact b_ref29_Same_l4_map m (fun i_5 a_0 b_1 => L_ref29_Same_l4_eq m n i_5 a_0 b_1) i_5 a_0 b_1
noncomputable def b_ref29_Same {R : Type} (m : Nat) (ret : Bool → Option R) (k_l4 : Int → List Item → List Item → Option R) (a_0 : List Item) (b_1 : List Item) : Option R :=
 bif (a_0.length : Int) != (b_1.length : Int) then
 ret false
 else
 k_l4 0 a_0 b_1
theorem ref29_Same_pre (m : Nat) (a_0 : List Item) (b_1 : List Item) : funK Try.prog Ψ0 keep m 1 24 [(dRow 46).e a_0, (dRow 46).e b_1] = b_ref29_Same m (fun x0 => some (w_ref29_Same x0)) (fun i_5 a_0 b_1 => L_ref29_Same_l4 m m i_5 a_0 b_1) a_0 b_1 := by kernel_rfl
theorem b_ref29_Same_map (m : Nat) {k_l4 : Int → List Item → List Item → Option (List (RV C))} {q_l4 : Int → List Item → List Item → Option (Bool)} (h_l4 : ∀ i_5 a_0 b_1, k_l4 i_5 a_0 b_1 = (q_l4 i_5 a_0 b_1).map w_ref29_Same) (a_0 : List Item) (b_1 : List Item) : b_ref29_Same m (fun x0 => some (w_ref29_Same x0)) k_l4 a_0 b_1 = (b_ref29_Same m (fun x0 => some x0) q_l4 a_0 b_1).map w_ref29_Same := by
  simp only [b_ref29_Same, cond_map, bind_map, map_none, map_some, h_l4]
noncomputable def ref29_Same (m : Nat) (a_0 : List Item) (b_1 : List Item) : Option (Bool) := b_ref29_Same m (fun x0 => some x0) (fun i_5 a_0 b_1 => ref29_Same_l4 m m i_5 a_0 b_1) a_0 b_1
theorem ref29_Same_fun (m : Nat) (a_0 : List Item) (b_1 : List Item) : funK Try.prog Ψ0 keep m 1 24 [(dRow 46).e a_0, (dRow 46).e b_1] = (ref29_Same m a_0 b_1).map w_ref29_Same := by
  rw [ref29_Same_pre]
  exact b_ref29_Same_map m (fun i_5 a_0 b_1 => L_ref29_Same_l4_eq m m i_5 a_0 b_1) a_0 b_1
noncomputable def K_ref29_Same (m : Nat) : KnownF C := mkK (dCons (dRow 46) (dCons (dRow 46) dNil)) (fun a => ref29_Same m a.1 a.2.1) w_ref29_Same
theorem K_ref29_Same_ok (m : Nat) : KnownAt C Try.prog 24 fun l => (K_ref29_Same m).run _ l some :=
  mkK_known good fit Ψ0_ok (keep := keep) (m := m) (d := 1) fun a => ref29_Same_fun m a.1 a.2.1
/-! ### signalbench/signalbenchlaw29.SlipEncodes -/
noncomputable def Ψ_law29_SlipEncodes (m : Nat) : Known C := fun f => match f with
  | 14 => some (K_slip_Encode m)
  | 23 => some (K_ref29_Encode m)
  | 24 => some (K_ref29_Same m)
  | 12 => some (K_law29_awake m)
  | _ => none
theorem Ψ_law29_SlipEncodes_ok (m : Nat) : KnownOk C Try.prog (Ψ_law29_SlipEncodes m) := by
  intro f φ h
  unfold Ψ_law29_SlipEncodes at h
  split at h
  · injection h with h; subst h; exact K_slip_Encode_ok m
  · injection h with h; subst h; exact K_ref29_Encode_ok m
  · injection h with h; subst h; exact K_ref29_Same_ok m
  · injection h with h; subst h; exact K_law29_awake_ok m
  · cases h
def w_law29_SlipEncodes (b : Bool) : List (RV C) := [dBool.e b]
noncomputable def b_law29_SlipEncodes {R : Type} (m : Nat) (ret : Bool → Option R) (c_0 : Slip) (l_1 : List Item) : Option R :=
 (slip_Encode m c_0 l_1).bind fun r0 =>
 (ref29_Encode m c_0 l_1).bind fun r1 =>
 bif r0.snd == r1.snd then
 ((ref29_Same m r0.fst r1.fst).bind fun r2 =>
 bif r2 then
 ((law29_awake m).bind fun r3 =>
 ret r3)
 else
 ret false)
 else
 ret false
theorem law29_SlipEncodes_pre (m : Nat) (c_0 : Slip) (l_1 : List Item) : funK Try.prog (Ψ_law29_SlipEncodes m) keep m 1 5 [(dS of_Slip cells_Slip of_Slip_ok).e c_0, (dRow 46).e l_1] = b_law29_SlipEncodes m (fun x0 => some (w_law29_SlipEncodes x0)) c_0 l_1 := by kernel_rfl
theorem b_law29_SlipEncodes_map (m : Nat) (c_0 : Slip) (l_1 : List Item) : b_law29_SlipEncodes m (fun x0 => some (w_law29_SlipEncodes x0)) c_0 l_1 = (b_law29_SlipEncodes m (fun x0 => some x0) c_0 l_1).map w_law29_SlipEncodes := by
  simp only [b_law29_SlipEncodes, cond_map, bind_map, map_none, map_some]
noncomputable def law29_SlipEncodes (m : Nat) (c_0 : Slip) (l_1 : List Item) : Option (Bool) := b_law29_SlipEncodes m (fun x0 => some x0) c_0 l_1
theorem law29_SlipEncodes_fun (m : Nat) (c_0 : Slip) (l_1 : List Item) : funK Try.prog (Ψ_law29_SlipEncodes m) keep m 1 5 [(dS of_Slip cells_Slip of_Slip_ok).e c_0, (dRow 46).e l_1] = (law29_SlipEncodes m c_0 l_1).map w_law29_SlipEncodes := by
  rw [law29_SlipEncodes_pre]
  exact b_law29_SlipEncodes_map m c_0 l_1
noncomputable def K_law29_SlipEncodes (m : Nat) : KnownF C := mkK (dCons (dS of_Slip cells_Slip of_Slip_ok) (dCons (dRow 46) dNil)) (fun a => law29_SlipEncodes m a.1 a.2.1) w_law29_SlipEncodes
theorem K_law29_SlipEncodes_ok (m : Nat) : KnownAt C Try.prog 5 fun l => (K_law29_SlipEncodes m).run _ l some :=
  mkK_known good fit (Ψ_law29_SlipEncodes_ok m) (keep := keep) (m := m) (d := 1) fun a => law29_SlipEncodes_fun m a.1 a.2.1
/-! ### signalbench/signalbenchlaw29.SlipRoundTrips -/
noncomputable def Ψ_law29_SlipRoundTrips (m : Nat) : Known C := fun f => match f with
  | 14 => some (K_slip_Encode m)
  | 12 => some (K_law29_awake m)
  | 26 => some (K_law29_sent m)
  | 25 => some (K_law29_Bytes m)
  | 17 => some (K_slip_Decode m)
  | _ => none
theorem Ψ_law29_SlipRoundTrips_ok (m : Nat) : KnownOk C Try.prog (Ψ_law29_SlipRoundTrips m) := by
  intro f φ h
  unfold Ψ_law29_SlipRoundTrips at h
  split at h
  · injection h with h; subst h; exact K_slip_Encode_ok m
  · injection h with h; subst h; exact K_law29_awake_ok m
  · injection h with h; subst h; exact K_law29_sent_ok m
  · injection h with h; subst h; exact K_law29_Bytes_ok m
  · injection h with h; subst h; exact K_slip_Decode_ok m
  · cases h
def w_law29_SlipRoundTrips (b : Bool) : List (RV C) := [dBool.e b]
noncomputable def Q_law29_SlipRoundTrips_7 (m : Nat) : St C → (Exit → St C → Option (List (RV C))) → Option (List (RV C)) := fun σ k => codeK Try.prog (Ψ_law29_SlipRoundTrips m) (callK Try.prog (Ψ_law29_SlipRoundTrips m) keep m 0) (keep 6) m (subC body6 [.r, .r, .r, .r, .r, .l, .r, .b, .o]) σ k
noncomputable def KL_law29_SlipRoundTrips_7 (m : Nat) : Exit → St C → Option (List (RV C)) := contK Try.prog (Ψ_law29_SlipRoundTrips m) (callK Try.prog (Ψ_law29_SlipRoundTrips m) keep m 0) (keep 6) m body6 [.r, .r, .r, .r, .r, .l, .r, .b, .o] (leaveK Try.prog Try.f6.results.toList (finK Try.prog Try.f6.resultTypes.toList))
noncomputable def Q_law29_SlipRoundTrips_16 (m : Nat) : St C → (Exit → St C → Option (List (RV C))) → Option (List (RV C)) := fun σ k => codeK Try.prog (Ψ_law29_SlipRoundTrips m) (callK Try.prog (Ψ_law29_SlipRoundTrips m) keep m 0) (keep 6) m (subC body6 [.r, .r, .r, .r, .r, .r, .r, .r, .l, .r, .b, .o]) σ k
noncomputable def KL_law29_SlipRoundTrips_16 (m : Nat) : Exit → St C → Option (List (RV C)) := contK Try.prog (Ψ_law29_SlipRoundTrips m) (callK Try.prog (Ψ_law29_SlipRoundTrips m) keep m 0) (keep 6) m body6 [.r, .r, .r, .r, .r, .r, .r, .r, .l, .r, .b, .o] (leaveK Try.prog Try.f6.results.toList (finK Try.prog Try.f6.resultTypes.toList))
noncomputable def L_law29_SlipRoundTrips_l7 (m n : Nat) (gaps_7 : Int) (want_8 : Int) (i_9 : Int) (l_1 : List Item) (c1 : Slip) (m_5 : List Item) : Option (List (RV C)) := iterK (Q_law29_SlipRoundTrips_7 m) (St.norm (keep 6 7)) n ({ T := [.dead, .fl (.one (.sl 0)), .fl (.one (.ptr 1 0)), .dead, .dead, .fl (.one (.sl 2)), .dead, .fl (.one (.int .i64 gaps_7)), .fl (.one (.int .i64 want_8)), .fl (.one (.int .i64 i_9))] ++ List.replicate 157 .dead, F := [[]], H := [.row 46 false l_1, .box 23 (cells_Slip c1), .row 46 true m_5] } : St C) (KL_law29_SlipRoundTrips_7 m)
noncomputable def L_law29_SlipRoundTrips_l16 (m n : Nat) (gaps_7 : Int) (want_8 : Int) (i_11 : Int) (l_1 : List Item) (got_10 : List Event) : Option (List (RV C)) := iterK (Q_law29_SlipRoundTrips_16 m) (St.norm (keep 6 16)) n ({ T := [.dead, .fl (.one (.sl 0)), .dead, .dead, .dead, .dead, .dead, .fl (.one (.int .i64 gaps_7)), .fl (.one (.int .i64 want_8)), .dead, .fl (.one (.sl 1)), .fl (.one (.int .i64 i_11))] ++ List.replicate 155 .dead, F := [[]], H := [.row 46 false l_1, .row 27 true got_10] } : St C) (KL_law29_SlipRoundTrips_16 m)
noncomputable def b_law29_SlipRoundTrips_l16 {R : Type} (m : Nat) (ret : Bool → Option R) (k_l16 : Int → Int → Int → List Item → List Event → Option R) (gaps_7 : Int) (want_8 : Int) (i_11 : Int) (l_1 : List Item) (got_10 : List Event) : Option R :=
 bif decide (i_11 < (l_1.length : Int)) then
 bif decide (0 ≤ i_11) then
 bif decide (i_11 < (l_1.length : Int)) then
 bif decide (0 ≤ i_11) then
 bif decide (i_11 < (got_10.length : Int)) then
 bif (got_10.getD i_11.toNat dflt_Event).Kind != 6 then
 ret false
 else
 bif decide (0 ≤ i_11) then
 bif decide (i_11 < (got_10.length : Int)) then
 bif (got_10.getD i_11.toNat dflt_Event).Value != 0 then
 ret false
 else
 bif decide (0 ≤ i_11) then
 bif decide (i_11 < (got_10.length : Int)) then
 bif (got_10.getD i_11.toNat dflt_Event).Aux != 0 then
 ret false
 else
 bif decide (0 ≤ i_11) then
 bif decide (i_11 < (got_10.length : Int)) then
 bif decide (0 ≤ i_11) then
 bif decide (i_11 < (l_1.length : Int)) then
 bif !(got_10.getD i_11.toNat dflt_Event).Data.toList == (l_1.getD i_11.toNat dflt_Item).Data.toList then
 ret false
 else
 bif decide (0 ≤ i_11) then
 bif decide (i_11 < (got_10.length : Int)) then
 bif decide (0 ≤ i_11) then
 bif decide (i_11 < (l_1.length : Int)) then
 bif (got_10.getD i_11.toNat dflt_Event).Fault != (l_1.getD i_11.toNat dflt_Item).Fault then
 ret false
 else
 bif decide (0 ≤ i_11) then
 bif decide (i_11 < (got_10.length : Int)) then
 bif decide (0 ≤ i_11) then
 bif decide (i_11 < (got_10.length : Int)) then
 bif decide ((got_10.getD i_11.toNat dflt_Event).From ≥ (got_10.getD i_11.toNat dflt_Event).To) then
 ret false
 else
 k_l16 gaps_7 (IntKind.i64.wrap (want_8 + (l_1.getD i_11.toNat dflt_Item).Gap)) (IntKind.i64.wrap (i_11 + 1)) l_1 got_10
 else
 none
 else
 none
 else
 none
 else
 none
 else
 none
 else
 none
 else
 none
 else
 none
 else
 none
 else
 none
 else
 none
 else
 none
 else
 none
 else
 none
 else
 none
 else
 none
 else
 none
 else
 none
 else
 none
 else
 none
 else
 bif gaps_7 == want_8 then
 ((law29_awake m).bind fun r0 =>
 ret r0)
 else
 ret false
theorem L_law29_SlipRoundTrips_l16_step (m n : Nat) (gaps_7 : Int) (want_8 : Int) (i_11 : Int) (l_1 : List Item) (got_10 : List Event) : L_law29_SlipRoundTrips_l16 m (n + 1) gaps_7 want_8 i_11 l_1 got_10 = b_law29_SlipRoundTrips_l16 m (fun x0 => some (w_law29_SlipRoundTrips x0)) (fun gaps_7 want_8 i_11 l_1 got_10 => L_law29_SlipRoundTrips_l16 m n gaps_7 want_8 i_11 l_1 got_10) gaps_7 want_8 i_11 l_1 got_10 := by kernel_rfl
theorem b_law29_SlipRoundTrips_l16_map (m : Nat) {k_l16 : Int → Int → Int → List Item → List Event → Option (List (RV C))} {q_l16 : Int → Int → Int → List Item → List Event → Option (Bool)} (h_l16 : ∀ gaps_7 want_8 i_11 l_1 got_10, k_l16 gaps_7 want_8 i_11 l_1 got_10 = (q_l16 gaps_7 want_8 i_11 l_1 got_10).map w_law29_SlipRoundTrips) (gaps_7 : Int) (want_8 : Int) (i_11 : Int) (l_1 : List Item) (got_10 : List Event) : b_law29_SlipRoundTrips_l16 m (fun x0 => some (w_law29_SlipRoundTrips x0)) k_l16 gaps_7 want_8 i_11 l_1 got_10 = (b_law29_SlipRoundTrips_l16 m (fun x0 => some x0) q_l16 gaps_7 want_8 i_11 l_1 got_10).map w_law29_SlipRoundTrips := by
  simp only [b_law29_SlipRoundTrips_l16, cond_map, bind_map, map_none, map_some, h_l16]
noncomputable def law29_SlipRoundTrips_l16 (m : Nat) : Nat → Int → Int → Int → List Item → List Event → Option (Bool)
  | 0, _, _, _, _, _ => none
  | n + 1, gaps_7, want_8, i_11, l_1, got_10 => b_law29_SlipRoundTrips_l16 m (fun x0 => some x0) (fun gaps_7 want_8 i_11 l_1 got_10 => law29_SlipRoundTrips_l16 m n gaps_7 want_8 i_11 l_1 got_10) gaps_7 want_8 i_11 l_1 got_10
theorem L_law29_SlipRoundTrips_l16_eq (m : Nat) : ∀ (n : Nat) (gaps_7 : Int) (want_8 : Int) (i_11 : Int) (l_1 : List Item) (got_10 : List Event), L_law29_SlipRoundTrips_l16 m n gaps_7 want_8 i_11 l_1 got_10 = (law29_SlipRoundTrips_l16 m n gaps_7 want_8 i_11 l_1 got_10).map w_law29_SlipRoundTrips
  | 0, gaps_7, want_8, i_11, l_1, got_10 => by kernel_rfl
  | n + 1, gaps_7, want_8, i_11, l_1, got_10 => by
    rw [L_law29_SlipRoundTrips_l16_step]
    exact b_law29_SlipRoundTrips_l16_map m (fun gaps_7 want_8 i_11 l_1 got_10 => L_law29_SlipRoundTrips_l16_eq m n gaps_7 want_8 i_11 l_1 got_10) gaps_7 want_8 i_11 l_1 got_10
noncomputable def b_law29_SlipRoundTrips_l7 {R : Type} (m : Nat) (ret : Bool → Option R) (k_l7 : Int → Int → Int → List Item → Slip → List Item → Option R) (k_l16 : Int → Int → Int → List Item → List Event → Option R) (gaps_7 : Int) (want_8 : Int) (i_9 : Int) (l_1 : List Item) (c1 : Slip) (m_5 : List Item) : Option R :=
 bif decide (i_9 < (m_5.length : Int)) then
 bif decide (0 ≤ i_9) then
 bif decide (i_9 < (m_5.length : Int)) then
 bif decide ((m_5.getD i_9.toNat dflt_Item).Value < 0) then
 ret false
 else
 bif decide (0 ≤ i_9) then
 bif decide (i_9 < (m_5.length : Int)) then
 bif decide ((m_5.getD i_9.toNat dflt_Item).Value > 255) then
 ret false
 else
 bif decide (0 ≤ i_9) then
 bif decide (i_9 < (m_5.length : Int)) then
 bif (m_5.getD i_9.toNat dflt_Item).Aux != 0 then
 ret false
 else
 bif decide (0 ≤ i_9) then
 bif decide (i_9 < (m_5.length : Int)) then
 bif !(m_5.getD i_9.toNat dflt_Item).Data.toList == (bs []).toList then
 ret false
 else
 bif decide (0 ≤ i_9) then
 bif decide (i_9 < (m_5.length : Int)) then
 bif (m_5.getD i_9.toNat dflt_Item).Fault != 0 then
 ret false
 else
 bif decide (0 ≤ i_9) then
 bif decide (i_9 < (m_5.length : Int)) then
 k_l7 (IntKind.i64.wrap (gaps_7 + (m_5.getD i_9.toNat dflt_Item).Gap)) want_8 (IntKind.i64.wrap (i_9 + 1)) l_1 c1 m_5
 else
 none
 else
 none
 else
 none
 else
 none
 else
 none
 else
 none
 else
 none
 else
 none
 else
 none
 else
 none
 else
 none
 else
 none
 else
 (law29_sent m m_5).bind fun r0 =>
 (law29_Bytes m r0 0).bind fun r1 =>
 (slip_Decode m c1 r1).bind fun r2 =>
 bif (r2.length : Int) != (l_1.length : Int) then
 ret false
 else
 k_l16 gaps_7 want_8 0 l_1 r2
theorem L_law29_SlipRoundTrips_l7_step (m n : Nat) (gaps_7 : Int) (want_8 : Int) (i_9 : Int) (l_1 : List Item) (c1 : Slip) (m_5 : List Item) : L_law29_SlipRoundTrips_l7 m (n + 1) gaps_7 want_8 i_9 l_1 c1 m_5 = b_law29_SlipRoundTrips_l7 m (fun x0 => some (w_law29_SlipRoundTrips x0)) (fun gaps_7 want_8 i_9 l_1 c1 m_5 => L_law29_SlipRoundTrips_l7 m n gaps_7 want_8 i_9 l_1 c1 m_5) (fun gaps_7 want_8 i_11 l_1 got_10 => L_law29_SlipRoundTrips_l16 m m gaps_7 want_8 i_11 l_1 got_10) gaps_7 want_8 i_9 l_1 c1 m_5 := by kernel_rfl
theorem b_law29_SlipRoundTrips_l7_map (m : Nat) {k_l7 : Int → Int → Int → List Item → Slip → List Item → Option (List (RV C))} {q_l7 : Int → Int → Int → List Item → Slip → List Item → Option (Bool)} (h_l7 : ∀ gaps_7 want_8 i_9 l_1 c1 m_5, k_l7 gaps_7 want_8 i_9 l_1 c1 m_5 = (q_l7 gaps_7 want_8 i_9 l_1 c1 m_5).map w_law29_SlipRoundTrips) {k_l16 : Int → Int → Int → List Item → List Event → Option (List (RV C))} {q_l16 : Int → Int → Int → List Item → List Event → Option (Bool)} (h_l16 : ∀ gaps_7 want_8 i_11 l_1 got_10, k_l16 gaps_7 want_8 i_11 l_1 got_10 = (q_l16 gaps_7 want_8 i_11 l_1 got_10).map w_law29_SlipRoundTrips) (gaps_7 : Int) (want_8 : Int) (i_9 : Int) (l_1 : List Item) (c1 : Slip) (m_5 : List Item) : b_law29_SlipRoundTrips_l7 m (fun x0 => some (w_law29_SlipRoundTrips x0)) k_l7 k_l16 gaps_7 want_8 i_9 l_1 c1 m_5 = (b_law29_SlipRoundTrips_l7 m (fun x0 => some x0) q_l7 q_l16 gaps_7 want_8 i_9 l_1 c1 m_5).map w_law29_SlipRoundTrips := by
  simp only [b_law29_SlipRoundTrips_l7, cond_map, bind_map, map_none, map_some, h_l7, h_l16]
noncomputable def law29_SlipRoundTrips_l7 (m : Nat) : Nat → Int → Int → Int → List Item → Slip → List Item → Option (Bool)
  | 0, _, _, _, _, _, _ => none
  | n + 1, gaps_7, want_8, i_9, l_1, c1, m_5 => b_law29_SlipRoundTrips_l7 m (fun x0 => some x0) (fun gaps_7 want_8 i_9 l_1 c1 m_5 => law29_SlipRoundTrips_l7 m n gaps_7 want_8 i_9 l_1 c1 m_5) (fun gaps_7 want_8 i_11 l_1 got_10 => law29_SlipRoundTrips_l16 m m gaps_7 want_8 i_11 l_1 got_10) gaps_7 want_8 i_9 l_1 c1 m_5
theorem L_law29_SlipRoundTrips_l7_eq (m : Nat) : ∀ (n : Nat) (gaps_7 : Int) (want_8 : Int) (i_9 : Int) (l_1 : List Item) (c1 : Slip) (m_5 : List Item), L_law29_SlipRoundTrips_l7 m n gaps_7 want_8 i_9 l_1 c1 m_5 = (law29_SlipRoundTrips_l7 m n gaps_7 want_8 i_9 l_1 c1 m_5).map w_law29_SlipRoundTrips
  | 0, gaps_7, want_8, i_9, l_1, c1, m_5 => by kernel_rfl
  | n + 1, gaps_7, want_8, i_9, l_1, c1, m_5 => by
    rw [L_law29_SlipRoundTrips_l7_step]
    exact b_law29_SlipRoundTrips_l7_map m (fun gaps_7 want_8 i_9 l_1 c1 m_5 => L_law29_SlipRoundTrips_l7_eq m n gaps_7 want_8 i_9 l_1 c1 m_5) (fun gaps_7 want_8 i_11 l_1 got_10 => L_law29_SlipRoundTrips_l16_eq m m gaps_7 want_8 i_11 l_1 got_10) gaps_7 want_8 i_9 l_1 c1 m_5
noncomputable def b_law29_SlipRoundTrips {R : Type} (m : Nat) (ret : Bool → Option R) (k_l7 : Int → Int → Int → List Item → Slip → List Item → Option R) (c_0 : Slip) (l_1 : List Item) : Option R :=
 (slip_Encode m c_0 l_1).bind fun r0 =>
 bif r0.snd != 0 then
 (bif (r0.fst.length : Int) == 0 then
 ((law29_awake m).bind fun r1 =>
 ret r1)
 else
 ret false)
 else
 k_l7 0 0 0 l_1 c_0 r0.fst
theorem law29_SlipRoundTrips_pre (m : Nat) (c_0 : Slip) (l_1 : List Item) : funK Try.prog (Ψ_law29_SlipRoundTrips m) keep m 1 6 [(dS of_Slip cells_Slip of_Slip_ok).e c_0, (dRow 46).e l_1] = b_law29_SlipRoundTrips m (fun x0 => some (w_law29_SlipRoundTrips x0)) (fun gaps_7 want_8 i_9 l_1 c1 m_5 => L_law29_SlipRoundTrips_l7 m m gaps_7 want_8 i_9 l_1 c1 m_5) c_0 l_1 := by kernel_rfl
theorem b_law29_SlipRoundTrips_map (m : Nat) {k_l7 : Int → Int → Int → List Item → Slip → List Item → Option (List (RV C))} {q_l7 : Int → Int → Int → List Item → Slip → List Item → Option (Bool)} (h_l7 : ∀ gaps_7 want_8 i_9 l_1 c1 m_5, k_l7 gaps_7 want_8 i_9 l_1 c1 m_5 = (q_l7 gaps_7 want_8 i_9 l_1 c1 m_5).map w_law29_SlipRoundTrips) (c_0 : Slip) (l_1 : List Item) : b_law29_SlipRoundTrips m (fun x0 => some (w_law29_SlipRoundTrips x0)) k_l7 c_0 l_1 = (b_law29_SlipRoundTrips m (fun x0 => some x0) q_l7 c_0 l_1).map w_law29_SlipRoundTrips := by
  simp only [b_law29_SlipRoundTrips, cond_map, bind_map, map_none, map_some, h_l7]
noncomputable def law29_SlipRoundTrips (m : Nat) (c_0 : Slip) (l_1 : List Item) : Option (Bool) := b_law29_SlipRoundTrips m (fun x0 => some x0) (fun gaps_7 want_8 i_9 l_1 c1 m_5 => law29_SlipRoundTrips_l7 m m gaps_7 want_8 i_9 l_1 c1 m_5) c_0 l_1
theorem law29_SlipRoundTrips_fun (m : Nat) (c_0 : Slip) (l_1 : List Item) : funK Try.prog (Ψ_law29_SlipRoundTrips m) keep m 1 6 [(dS of_Slip cells_Slip of_Slip_ok).e c_0, (dRow 46).e l_1] = (law29_SlipRoundTrips m c_0 l_1).map w_law29_SlipRoundTrips := by
  rw [law29_SlipRoundTrips_pre]
  exact b_law29_SlipRoundTrips_map m (fun gaps_7 want_8 i_9 l_1 c1 m_5 => L_law29_SlipRoundTrips_l7_eq m m gaps_7 want_8 i_9 l_1 c1 m_5) c_0 l_1
noncomputable def K_law29_SlipRoundTrips (m : Nat) : KnownF C := mkK (dCons (dS of_Slip cells_Slip of_Slip_ok) (dCons (dRow 46) dNil)) (fun a => law29_SlipRoundTrips m a.1 a.2.1) w_law29_SlipRoundTrips
theorem K_law29_SlipRoundTrips_ok (m : Nat) : KnownAt C Try.prog 6 fun l => (K_law29_SlipRoundTrips m).run _ l some :=
  mkK_known good fit (Ψ_law29_SlipRoundTrips_ok m) (keep := keep) (m := m) (d := 1) fun a => law29_SlipRoundTrips_fun m a.1 a.2.1
/-! ### signalbench/signalbenchlaw29.SlipResumes -/
noncomputable def Ψ_law29_SlipResumes (m : Nat) : Known C := fun f => match f with
  | 14 => some (K_slip_Encode m)
  | 12 => some (K_law29_awake m)
  | 26 => some (K_law29_sent m)
  | 25 => some (K_law29_Bytes m)
  | 17 => some (K_slip_Decode m)
  | _ => none
theorem Ψ_law29_SlipResumes_ok (m : Nat) : KnownOk C Try.prog (Ψ_law29_SlipResumes m) := by
  intro f φ h
  unfold Ψ_law29_SlipResumes at h
  split at h
  · injection h with h; subst h; exact K_slip_Encode_ok m
  · injection h with h; subst h; exact K_law29_awake_ok m
  · injection h with h; subst h; exact K_law29_sent_ok m
  · injection h with h; subst h; exact K_law29_Bytes_ok m
  · injection h with h; subst h; exact K_slip_Decode_ok m
  · cases h
def w_law29_SlipResumes (b : Bool) : List (RV C) := [dBool.e b]
noncomputable def b_law29_SlipResumes {R : Type} (m : Nat) (ret : Bool → Option R) (c_0 : Slip) (ahead_1 : ByteArray) (x_2 : Item) : Option R :=
 (slip_Encode m c_0 [x_2]).bind fun r0 =>
 bif r0.snd != 0 then
 ((law29_awake m).bind fun r1 =>
 ret r1)
 else
 bif decide ((ahead_1.size : Int) > 2000) then
 ((law29_awake m).bind fun r2 =>
 ret r2)
 else
 (law29_sent m r0.fst).bind fun r3 =>
 bif decide (((ahead_1.size + r3.size) : Int) > 9223372036854775807) then
 none
 else
 (law29_Bytes m (ahead_1 ++ r3) 0).bind fun r4 =>
 (slip_Decode m c_0 r4).bind fun r5 =>
 bif (r5.length : Int) == 0 then
 ret false
 else
 bif decide (0 ≤ IntKind.i64.wrap ((r5.length : Int) - 1)) then
 (bif decide (IntKind.i64.wrap ((r5.length : Int) - 1) < (r5.length : Int)) then
 (bif (r5.getD (IntKind.i64.wrap ((r5.length : Int) - 1)).toNat dflt_Event).Kind == 6 then
 (bif (r5.getD (IntKind.i64.wrap ((r5.length : Int) - 1)).toNat dflt_Event).Data.toList == x_2.Data.toList then
 (bif (r5.getD (IntKind.i64.wrap ((r5.length : Int) - 1)).toNat dflt_Event).Fault == x_2.Fault then
 (bif (r5.getD (IntKind.i64.wrap ((r5.length : Int) - 1)).toNat dflt_Event).To == IntKind.i64.wrap ((ahead_1.size : Int) + (r0.fst.length : Int)) then
 ((law29_awake m).bind fun r6 =>
 ret r6)
 else
 ret false)
 else
 ret false)
 else
 ret false)
 else
 ret false)
 else
 none)
 else
 none
theorem law29_SlipResumes_pre (m : Nat) (c_0 : Slip) (ahead_1 : ByteArray) (x_2 : Item) : funK Try.prog (Ψ_law29_SlipResumes m) keep m 1 7 [(dS of_Slip cells_Slip of_Slip_ok).e c_0, dStr.e ahead_1, (dS of_Item cells_Item of_Item_ok).e x_2] = b_law29_SlipResumes m (fun x0 => some (w_law29_SlipResumes x0)) c_0 ahead_1 x_2 := by kernel_rfl
theorem b_law29_SlipResumes_map (m : Nat) (c_0 : Slip) (ahead_1 : ByteArray) (x_2 : Item) : b_law29_SlipResumes m (fun x0 => some (w_law29_SlipResumes x0)) c_0 ahead_1 x_2 = (b_law29_SlipResumes m (fun x0 => some x0) c_0 ahead_1 x_2).map w_law29_SlipResumes := by
  simp only [b_law29_SlipResumes, cond_map, bind_map, map_none, map_some]
noncomputable def law29_SlipResumes (m : Nat) (c_0 : Slip) (ahead_1 : ByteArray) (x_2 : Item) : Option (Bool) := b_law29_SlipResumes m (fun x0 => some x0) c_0 ahead_1 x_2
theorem law29_SlipResumes_fun (m : Nat) (c_0 : Slip) (ahead_1 : ByteArray) (x_2 : Item) : funK Try.prog (Ψ_law29_SlipResumes m) keep m 1 7 [(dS of_Slip cells_Slip of_Slip_ok).e c_0, dStr.e ahead_1, (dS of_Item cells_Item of_Item_ok).e x_2] = (law29_SlipResumes m c_0 ahead_1 x_2).map w_law29_SlipResumes := by
  rw [law29_SlipResumes_pre]
  exact b_law29_SlipResumes_map m c_0 ahead_1 x_2
noncomputable def K_law29_SlipResumes (m : Nat) : KnownF C := mkK (dCons (dS of_Slip cells_Slip of_Slip_ok) (dCons dStr (dCons (dS of_Item cells_Item of_Item_ok) dNil))) (fun a => law29_SlipResumes m a.1 a.2.1 a.2.2.1) w_law29_SlipResumes
theorem K_law29_SlipResumes_ok (m : Nat) : KnownAt C Try.prog 7 fun l => (K_law29_SlipResumes m).run _ l some :=
  mkK_known good fit (Ψ_law29_SlipResumes_ok m) (keep := keep) (m := m) (d := 1) fun a => law29_SlipResumes_fun m a.1 a.2.1 a.2.2.1
/-! ### signalbench/signalbenchlaw29.SlipRestarts -/
noncomputable def Ψ_law29_SlipRestarts (m : Nat) : Known C := fun f => match f with
  | 10 => some (K_slip_Check m)
  | 12 => some (K_law29_awake m)
  | 25 => some (K_law29_Bytes m)
  | 17 => some (K_slip_Decode m)
  | 20 => some (K_ref07_Same m)
  | _ => none
theorem Ψ_law29_SlipRestarts_ok (m : Nat) : KnownOk C Try.prog (Ψ_law29_SlipRestarts m) := by
  intro f φ h
  unfold Ψ_law29_SlipRestarts at h
  split at h
  · injection h with h; subst h; exact K_slip_Check_ok m
  · injection h with h; subst h; exact K_law29_awake_ok m
  · injection h with h; subst h; exact K_law29_Bytes_ok m
  · injection h with h; subst h; exact K_slip_Decode_ok m
  · injection h with h; subst h; exact K_ref07_Same_ok m
  · cases h
def w_law29_SlipRestarts (b : Bool) : List (RV C) := [dBool.e b]
noncomputable def b_law29_SlipRestarts {R : Type} (m : Nat) (ret : Bool → Option R) (c_0 : Slip) (ahead_1 : ByteArray) (behind_2 : ByteArray) (fault_3 : Int) : Option R :=
 (slip_Check m c_0).bind fun r0 =>
 bif r0 != 0 then
 ((law29_awake m).bind fun r1 =>
 ret r1)
 else
 bif decide ((ahead_1.size : Int) > 2000) then
 ((law29_awake m).bind fun r2 =>
 ret r2)
 else
 bif decide ((behind_2.size : Int) > 2000) then
 ((law29_awake m).bind fun r3 =>
 ret r3)
 else
 bif decide (fault_3 < 1) then
 ((law29_awake m).bind fun r4 =>
 ret r4)
 else
 bif decide (fault_3 > 12) then
 ((law29_awake m).bind fun r5 =>
 ret r5)
 else
 (law29_Bytes m ahead_1 0).bind fun r6 =>
 bif decide ((r6.length + 1) * 64 ≤ 140737488355328) then
 ((law29_Bytes m behind_2 (IntKind.i64.wrap ((ahead_1.size : Int) + 1))).bind fun r7 =>
 bif decide (((r6 ++ [Event.mk 3 ((ahead_1.size : Int)) (IntKind.i64.wrap ((ahead_1.size : Int) + 1)) 97 0 (bs []) fault_3]).length + r7.length) * 64 ≤ 140737488355328) then
 ((law29_Bytes m ahead_1 0).bind fun r8 =>
 (slip_Decode m c_0 r8).bind fun r9 =>
 (law29_Bytes m behind_2 (IntKind.i64.wrap ((ahead_1.size : Int) + 1))).bind fun r10 =>
 (slip_Decode m c_0 r10).bind fun r11 =>
 (slip_Decode m c_0 (r6 ++ [Event.mk 3 ((ahead_1.size : Int)) (IntKind.i64.wrap ((ahead_1.size : Int) + 1)) 97 0 (bs []) fault_3] ++ r7)).bind fun r12 =>
 bif (r12.length : Int) != IntKind.i64.wrap ((r9.length : Int) + (r11.length : Int)) then
 ret false
 else
 bif decide ((r9.length : Int) ≤ (r12.length : Int)) then
 ((ref07_Same m (List.drop 0 (List.take ((r9.length : Int)).toNat r12)) r9).bind fun r13 =>
 bif r13 then
 (bif decide ((r12.length : Int) ≤ (r12.length : Int)) then
 (bif decide ((r9.length : Int) ≤ (r12.length : Int)) then
 ((ref07_Same m (List.drop ((r9.length : Int)).toNat (List.take ((r12.length : Int)).toNat r12)) r11).bind fun r14 =>
 bif r14 then
 ((law29_awake m).bind fun r15 =>
 ret r15)
 else
 ret false)
 else
 none)
 else
 none)
 else
 ret false)
 else
 none)
 else
 none)
 else
 none
theorem law29_SlipRestarts_pre (m : Nat) (c_0 : Slip) (ahead_1 : ByteArray) (behind_2 : ByteArray) (fault_3 : Int) : funK Try.prog (Ψ_law29_SlipRestarts m) keep m 1 8 [(dS of_Slip cells_Slip of_Slip_ok).e c_0, dStr.e ahead_1, dStr.e behind_2, (dInt .i64).e fault_3] = b_law29_SlipRestarts m (fun x0 => some (w_law29_SlipRestarts x0)) c_0 ahead_1 behind_2 fault_3 := by kernel_rfl
theorem b_law29_SlipRestarts_map (m : Nat) (c_0 : Slip) (ahead_1 : ByteArray) (behind_2 : ByteArray) (fault_3 : Int) : b_law29_SlipRestarts m (fun x0 => some (w_law29_SlipRestarts x0)) c_0 ahead_1 behind_2 fault_3 = (b_law29_SlipRestarts m (fun x0 => some x0) c_0 ahead_1 behind_2 fault_3).map w_law29_SlipRestarts := by
  simp only [b_law29_SlipRestarts, cond_map, bind_map, map_none, map_some]
noncomputable def law29_SlipRestarts (m : Nat) (c_0 : Slip) (ahead_1 : ByteArray) (behind_2 : ByteArray) (fault_3 : Int) : Option (Bool) := b_law29_SlipRestarts m (fun x0 => some x0) c_0 ahead_1 behind_2 fault_3
theorem law29_SlipRestarts_fun (m : Nat) (c_0 : Slip) (ahead_1 : ByteArray) (behind_2 : ByteArray) (fault_3 : Int) : funK Try.prog (Ψ_law29_SlipRestarts m) keep m 1 8 [(dS of_Slip cells_Slip of_Slip_ok).e c_0, dStr.e ahead_1, dStr.e behind_2, (dInt .i64).e fault_3] = (law29_SlipRestarts m c_0 ahead_1 behind_2 fault_3).map w_law29_SlipRestarts := by
  rw [law29_SlipRestarts_pre]
  exact b_law29_SlipRestarts_map m c_0 ahead_1 behind_2 fault_3
noncomputable def K_law29_SlipRestarts (m : Nat) : KnownF C := mkK (dCons (dS of_Slip cells_Slip of_Slip_ok) (dCons dStr (dCons dStr (dCons (dInt .i64) dNil)))) (fun a => law29_SlipRestarts m a.1 a.2.1 a.2.2.1 a.2.2.2.1) w_law29_SlipRestarts
theorem K_law29_SlipRestarts_ok (m : Nat) : KnownAt C Try.prog 8 fun l => (K_law29_SlipRestarts m).run _ l some :=
  mkK_known good fit (Ψ_law29_SlipRestarts_ok m) (keep := keep) (m := m) (d := 1) fun a => law29_SlipRestarts_fun m a.1 a.2.1 a.2.2.1 a.2.2.2.1
/-! ### signalbench/signalbenchlaw29.SlipWaits -/
noncomputable def Ψ_law29_SlipWaits (m : Nat) : Known C := fun f => match f with
  | 10 => some (K_slip_Check m)
  | 12 => some (K_law29_awake m)
  | 25 => some (K_law29_Bytes m)
  | 17 => some (K_slip_Decode m)
  | 27 => some (K_law29_packet m)
  | 20 => some (K_ref07_Same m)
  | _ => none
theorem Ψ_law29_SlipWaits_ok (m : Nat) : KnownOk C Try.prog (Ψ_law29_SlipWaits m) := by
  intro f φ h
  unfold Ψ_law29_SlipWaits at h
  split at h
  · injection h with h; subst h; exact K_slip_Check_ok m
  · injection h with h; subst h; exact K_law29_awake_ok m
  · injection h with h; subst h; exact K_law29_Bytes_ok m
  · injection h with h; subst h; exact K_slip_Decode_ok m
  · injection h with h; subst h; exact K_law29_packet_ok m
  · injection h with h; subst h; exact K_ref07_Same_ok m
  · cases h
def w_law29_SlipWaits (b : Bool) : List (RV C) := [dBool.e b]
noncomputable def Q_law29_SlipWaits_4 (m : Nat) : St C → (Exit → St C → Option (List (RV C))) → Option (List (RV C)) := fun σ k => codeK Try.prog (Ψ_law29_SlipWaits m) (callK Try.prog (Ψ_law29_SlipWaits m) keep m 0) (keep 9) m (subC body9 [.r, .r, .l, .r, .b, .o]) σ k
noncomputable def KL_law29_SlipWaits_4 (m : Nat) : Exit → St C → Option (List (RV C)) := contK Try.prog (Ψ_law29_SlipWaits m) (callK Try.prog (Ψ_law29_SlipWaits m) keep m 0) (keep 9) m body9 [.r, .r, .l, .r, .b, .o] (leaveK Try.prog Try.f9.results.toList (finK Try.prog Try.f9.resultTypes.toList))
noncomputable def L_law29_SlipWaits_l4 (m n : Nat) (s_1 : ByteArray) (i_5 : Int) (c0 : Slip) : Option (List (RV C)) := iterK (Q_law29_SlipWaits_4 m) (St.norm (keep 9 4)) n ({ T := [.dead, .fl (.one (.str s_1)), .fl (.one (.ptr 0 0)), .dead, .dead, .fl (.one (.int .i64 i_5))] ++ List.replicate 38 .dead, F := [[]], H := [.box 23 (cells_Slip c0)] } : St C) (KL_law29_SlipWaits_4 m)
noncomputable def b_law29_SlipWaits_l4 {R : Type} (m : Nat) (ret : Bool → Option R) (k_l4 : ByteArray → Int → Slip → Option R) (s_1 : ByteArray) (i_5 : Int) (c0 : Slip) : Option R :=
 bif decide (i_5 < (s_1.size : Int)) then
 (bif decide (0 ≤ i_5) then
 (bif decide (i_5 < (s_1.size : Int)) then
 (bif byteAt s_1 i_5 == 192 then
 ((law29_awake m).bind fun r0 =>
 ret r0)
 else
 k_l4 s_1 (IntKind.i64.wrap (i_5 + 1)) c0)
 else
 none)
 else
 none)
 else
 (law29_Bytes m s_1 3).bind fun r1 =>
 (slip_Decode m c0 r1).bind fun r2 =>
 (ref07_Same m r2 [Event.mk 6 3 (IntKind.i64.wrap (3 + (s_1.size : Int))) 0 0 (bs []) 7]).bind fun r3 =>
 bif r3 then
 ((law29_awake m).bind fun r4 =>
 ret r4)
 else
 ret false
theorem L_law29_SlipWaits_l4_step (m n : Nat) (s_1 : ByteArray) (i_5 : Int) (c0 : Slip) : L_law29_SlipWaits_l4 m (n + 1) s_1 i_5 c0 = b_law29_SlipWaits_l4 m (fun x0 => some (w_law29_SlipWaits x0)) (fun s_1 i_5 c0 => L_law29_SlipWaits_l4 m n s_1 i_5 c0) s_1 i_5 c0 := by kernel_rfl
theorem b_law29_SlipWaits_l4_map (m : Nat) {k_l4 : ByteArray → Int → Slip → Option (List (RV C))} {q_l4 : ByteArray → Int → Slip → Option (Bool)} (h_l4 : ∀ s_1 i_5 c0, k_l4 s_1 i_5 c0 = (q_l4 s_1 i_5 c0).map w_law29_SlipWaits) (s_1 : ByteArray) (i_5 : Int) (c0 : Slip) : b_law29_SlipWaits_l4 m (fun x0 => some (w_law29_SlipWaits x0)) k_l4 s_1 i_5 c0 = (b_law29_SlipWaits_l4 m (fun x0 => some x0) q_l4 s_1 i_5 c0).map w_law29_SlipWaits := by
  simp only [b_law29_SlipWaits_l4, cond_map, bind_map, map_none, map_some, h_l4]
noncomputable def law29_SlipWaits_l4 (m : Nat) : Nat → ByteArray → Int → Slip → Option (Bool)
  | 0, _, _, _ => none
  | n + 1, s_1, i_5, c0 => b_law29_SlipWaits_l4 m (fun x0 => some x0) (fun s_1 i_5 c0 => law29_SlipWaits_l4 m n s_1 i_5 c0) s_1 i_5 c0
theorem L_law29_SlipWaits_l4_eq (m : Nat) : ∀ (n : Nat) (s_1 : ByteArray) (i_5 : Int) (c0 : Slip), L_law29_SlipWaits_l4 m n s_1 i_5 c0 = (law29_SlipWaits_l4 m n s_1 i_5 c0).map w_law29_SlipWaits
  | 0, s_1, i_5, c0 => by kernel_rfl
  | n + 1, s_1, i_5, c0 => by
    rw [L_law29_SlipWaits_l4_step]
    exact b_law29_SlipWaits_l4_map m (fun s_1 i_5 c0 => L_law29_SlipWaits_l4_eq m n s_1 i_5 c0) s_1 i_5 c0
noncomputable def b_law29_SlipWaits {R : Type} (m : Nat) (ret : Bool → Option R) (k_l4 : ByteArray → Int → Slip → Option R) (c_0 : Slip) (s_1 : ByteArray) : Option R :=
 (slip_Check m c_0).bind fun r0 =>
 bif r0 != 0 then
 ((law29_awake m).bind fun r1 =>
 ret r1)
 else
 bif decide ((s_1.size : Int) < 1) then
 ((law29_awake m).bind fun r2 =>
 ret r2)
 else
 bif decide ((s_1.size : Int) > 2000) then
 ((law29_awake m).bind fun r3 =>
 ret r3)
 else
 k_l4 s_1 0 c_0
theorem law29_SlipWaits_pre (m : Nat) (c_0 : Slip) (s_1 : ByteArray) : funK Try.prog (Ψ_law29_SlipWaits m) keep m 1 9 [(dS of_Slip cells_Slip of_Slip_ok).e c_0, dStr.e s_1] = b_law29_SlipWaits m (fun x0 => some (w_law29_SlipWaits x0)) (fun s_1 i_5 c0 => L_law29_SlipWaits_l4 m m s_1 i_5 c0) c_0 s_1 := by kernel_rfl
theorem b_law29_SlipWaits_map (m : Nat) {k_l4 : ByteArray → Int → Slip → Option (List (RV C))} {q_l4 : ByteArray → Int → Slip → Option (Bool)} (h_l4 : ∀ s_1 i_5 c0, k_l4 s_1 i_5 c0 = (q_l4 s_1 i_5 c0).map w_law29_SlipWaits) (c_0 : Slip) (s_1 : ByteArray) : b_law29_SlipWaits m (fun x0 => some (w_law29_SlipWaits x0)) k_l4 c_0 s_1 = (b_law29_SlipWaits m (fun x0 => some x0) q_l4 c_0 s_1).map w_law29_SlipWaits := by
  simp only [b_law29_SlipWaits, cond_map, bind_map, map_none, map_some, h_l4]
noncomputable def law29_SlipWaits (m : Nat) (c_0 : Slip) (s_1 : ByteArray) : Option (Bool) := b_law29_SlipWaits m (fun x0 => some x0) (fun s_1 i_5 c0 => law29_SlipWaits_l4 m m s_1 i_5 c0) c_0 s_1
theorem law29_SlipWaits_fun (m : Nat) (c_0 : Slip) (s_1 : ByteArray) : funK Try.prog (Ψ_law29_SlipWaits m) keep m 1 9 [(dS of_Slip cells_Slip of_Slip_ok).e c_0, dStr.e s_1] = (law29_SlipWaits m c_0 s_1).map w_law29_SlipWaits := by
  rw [law29_SlipWaits_pre]
  exact b_law29_SlipWaits_map m (fun s_1 i_5 c0 => L_law29_SlipWaits_l4_eq m m s_1 i_5 c0) c_0 s_1
noncomputable def K_law29_SlipWaits (m : Nat) : KnownF C := mkK (dCons (dS of_Slip cells_Slip of_Slip_ok) (dCons dStr dNil)) (fun a => law29_SlipWaits m a.1 a.2.1) w_law29_SlipWaits
theorem K_law29_SlipWaits_ok (m : Nat) : KnownAt C Try.prog 9 fun l => (K_law29_SlipWaits m).run _ l some :=
  mkK_known good fit (Ψ_law29_SlipWaits_ok m) (keep := keep) (m := m) (d := 1) fun a => law29_SlipWaits_fun m a.1 a.2.1
end Go.Abs.K
