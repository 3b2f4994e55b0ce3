/- Plain functions for the functions of the seat, printed by a program of this claim's own, with their proofs. -/
import Derived.Test.YtcagcnlddcloiaaB
set_option linter.unusedVariables false
set_option linter.unusedSimpArgs false
set_option maxRecDepth 100000
namespace Go.Abs.K
open Go Go.Abs Go.Proofs
/-! ### signalbench/pair.Check -/
def w_pair_Check (b : Int) : List (RV C) := [(dInt .i64).e b]
noncomputable def b_pair_Check {R : Type} (m : Nat) (ret : Int → Option R) (c_0 : Pair) : Option R :=
 bif decide (c_0.Timeout < 1) then
 ret 2
 else
 bif decide (c_0.Timeout > 1099511627776) then
 ret 2
 else
 ret 0
theorem pair_Check_pre (m : Nat) (c_0 : Pair) : funK Try.prog Ψ0 keep m 1 14 [(dS of_Pair cells_Pair of_Pair_ok).e c_0] = b_pair_Check m (fun x0 => some (w_pair_Check x0)) c_0 := by kernel_rfl
theorem b_pair_Check_map (m : Nat) (c_0 : Pair) : b_pair_Check m (fun x0 => some (w_pair_Check x0)) c_0 = (b_pair_Check m (fun x0 => some x0) c_0).map w_pair_Check := by
  simp only [b_pair_Check, cond_map, bind_map, map_none, map_some]
noncomputable def pair_Check (m : Nat) (c_0 : Pair) : Option (Int) := b_pair_Check m (fun x0 => some x0) c_0
theorem pair_Check_fun (m : Nat) (c_0 : Pair) : funK Try.prog Ψ0 keep m 1 14 [(dS of_Pair cells_Pair of_Pair_ok).e c_0] = (pair_Check m c_0).map w_pair_Check := by
  rw [pair_Check_pre]
  exact b_pair_Check_map m c_0
noncomputable def K_pair_Check (m : Nat) : KnownF C := mkK (dCons (dS of_Pair cells_Pair of_Pair_ok) dNil) (fun a => pair_Check m a.1) w_pair_Check
theorem K_pair_Check_ok (m : Nat) : KnownAt C Try.prog 14 fun l => (K_pair_Check m).run _ l some :=
  mkK_known good fit Ψ0_ok (keep := keep) (m := m) (d := 1) fun a => pair_Check_fun m a.1
/-! ### signalbench/pair.check -/
def w_pair_check (b : Int) : List (RV C) := [(dInt .i64).e b]
noncomputable def b_pair_check {R : Type} (m : Nat) (ret : Int → Option R) (x_0 : Item) : Option R :=
 bif decide (x_0.Gap < 0) then
 ret 1
 else
 bif decide (x_0.Gap > 1048576) then
 ret 1
 else
 bif decide ((x_0.Data.size : Int) > 4095) then
 ret 6
 else
 bif decide (x_0.Value < 0) then
 ret 2
 else
 bif decide (x_0.Value > 127) then
 ret 2
 else
 bif x_0.Fault != 0 then
 bif x_0.Fault != 12 then
 bif x_0.Fault != 7 then
 ret 1
 else
 bif x_0.Aux != 0 then
 ret 1
 else
 ret 0
 else
 bif x_0.Aux != 0 then
 ret 1
 else
 ret 0
 else
 bif x_0.Aux != 0 then
 ret 1
 else
 ret 0
theorem pair_check_pre (m : Nat) (x_0 : Item) : funK Try.prog Ψ0 keep m 1 35 [(dS of_Item cells_Item of_Item_ok).e x_0] = b_pair_check m (fun x0 => some (w_pair_check x0)) x_0 := by kernel_rfl
theorem b_pair_check_map (m : Nat) (x_0 : Item) : b_pair_check m (fun x0 => some (w_pair_check x0)) x_0 = (b_pair_check m (fun x0 => some x0) x_0).map w_pair_check := by
  simp only [b_pair_check, cond_map, bind_map, map_none, map_some]
noncomputable def pair_check (m : Nat) (x_0 : Item) : Option (Int) := b_pair_check m (fun x0 => some x0) x_0
theorem pair_check_fun (m : Nat) (x_0 : Item) : funK Try.prog Ψ0 keep m 1 35 [(dS of_Item cells_Item of_Item_ok).e x_0] = (pair_check m x_0).map w_pair_check := by
  rw [pair_check_pre]
  exact b_pair_check_map m x_0
noncomputable def K_pair_check (m : Nat) : KnownF C := mkK (dCons (dS of_Item cells_Item of_Item_ok) dNil) (fun a => pair_check m a.1) w_pair_check
theorem K_pair_check_ok (m : Nat) : KnownAt C Try.prog 35 fun l => (K_pair_check m).run _ l some :=
  mkK_known good fit Ψ0_ok (keep := keep) (m := m) (d := 1) fun a => pair_check_fun m a.1
/-! ### signalbench/pair.Encode -/
noncomputable def Ψ_pair_Encode (m : Nat) : Known C := fun f => match f with
  | 14 => some (K_pair_Check m)
  | 35 => some (K_pair_check m)
  | _ => none
theorem Ψ_pair_Encode_ok (m : Nat) : KnownOk C Try.prog (Ψ_pair_Encode m) := by
  intro f φ h
  unfold Ψ_pair_Encode at h
  split at h
  · injection h with h; subst h; exact K_pair_Check_ok m
  · injection h with h; subst h; exact K_pair_check_ok m
  · cases h
def w_pair_Encode (b : List Item × Int) : List (RV C) := [(dRow 48).e b.1, (dInt .i64).e b.2]
noncomputable def Q_pair_Encode_8 (m : Nat) : St C → (Exit → St C → Option (List (RV C))) → Option (List (RV C)) := fun σ k => codeK Try.prog (Ψ_pair_Encode m) (callK Try.prog (Ψ_pair_Encode m) keep m 0) (keep 21) m (subC body21 [.r, .r, .r, .r, .l, .r, .b, .o]) σ k
noncomputable def KL_pair_Encode_8 (m : Nat) : Exit → St C → Option (List (RV C)) := contK Try.prog (Ψ_pair_Encode m) (callK Try.prog (Ψ_pair_Encode m) keep m 0) (keep 21) m body21 [.r, .r, .r, .r, .l, .r, .b, .o] (leaveK Try.prog Try.f21.results.toList (finK Try.prog Try.f21.resultTypes.toList))
noncomputable def L_pair_Encode_l8 (m n : Nat) (t22 : Int) (t23 : Int) (out_7 : List Item) (t21 : List Item) : Option (List (RV C)) := iterK (Q_pair_Encode_8 m) (St.norm (keep 21 8)) n ({ T := [.dead, .dead, .dead, .dead, .dead, .dead, .dead, .fl (.one (.sl 0)), .dead, .dead, .dead, .dead, .dead, .dead, .dead, .dead, .dead, .dead, .dead, .dead, .dead, .fl (.one (.sl 1)), .fl (.one (.int .i64 t22)), .fl (.one (.int .i64 t23))] ++ List.replicate 52 .dead, F := [[]], H := [.row 48 true out_7, .row 48 false t21] } : St C) (KL_pair_Encode_8 m)
noncomputable def b_pair_Encode_l8 {R : Type} (m : Nat) (ret : List Item → Int → Option R) (k_l8 : Int → Int → List Item → List Item → Option R) (t22 : Int) (t23 : Int) (out_7 : List Item) (t21 : List Item) : Option R :=
 bif decide (t23 < t22) then
 (bif decide (0 ≤ t23) then
 (bif decide (t23 < (t21.length : Int)) then
 ((pair_check m (t21.getD t23.toNat dflt_Item)).bind fun r0 =>
 bif r0 != 0 then
 ret [] r0
 else
 bif (t21.getD t23.toNat dflt_Item).Fault != 12 then
 bif decide ((out_7.length + 1) * 48 ≤ 140737488355328) then
 bif (t21.getD t23.toNat dflt_Item).Fault == 7 then
 bif decide (((out_7 ++ [Item.mk 0 0 0 (toBytes [IntKind.u8.wrap (t21.getD t23.toNat dflt_Item).Value]) 0]).length + 1) * 48 ≤ 140737488355328) then
 bif decide ((((toBytes [IntKind.u8.wrap (IntKind.i64.wrap ((t21.getD t23.toNat dflt_Item).Value + 128))]).size + (t21.getD t23.toNat dflt_Item).Data.size) : Int) > 9223372036854775807) then
 none
 else
 bif decide (((out_7 ++ [Item.mk 0 0 0 (toBytes [IntKind.u8.wrap (t21.getD t23.toNat dflt_Item).Value]) 0] ++ [Item.mk 0 0 0 (toBytes [IntKind.u8.wrap (t21.getD t23.toNat dflt_Item).Value]) 0]).length + 1) * 48 ≤ 140737488355328) then
 bif decide ((out_7.length : Int) < ((out_7 ++ [Item.mk 0 0 0 (toBytes [IntKind.u8.wrap (t21.getD t23.toNat dflt_Item).Value]) 0] ++ [Item.mk 0 0 0 (toBytes [IntKind.u8.wrap (t21.getD t23.toNat dflt_Item).Value]) 0] ++ [Item.mk 0 0 0 (toBytes [IntKind.u8.wrap (IntKind.i64.wrap ((t21.getD t23.toNat dflt_Item).Value + 128))] ++ (t21.getD t23.toNat dflt_Item).Data) 0]).length : Int)) then
 k_l8 t22 (IntKind.i64.wrap (t23 + 1)) ((out_7 ++ [Item.mk 0 0 0 (toBytes [IntKind.u8.wrap (t21.getD t23.toNat dflt_Item).Value]) 0] ++ [Item.mk 0 0 0 (toBytes [IntKind.u8.wrap (t21.getD t23.toNat dflt_Item).Value]) 0] ++ [Item.mk 0 0 0 (toBytes [IntKind.u8.wrap (IntKind.i64.wrap ((t21.getD t23.toNat dflt_Item).Value + 128))] ++ (t21.getD t23.toNat dflt_Item).Data) 0]).set ((out_7.length : Int)).toNat (Item.mk (t21.getD t23.toNat dflt_Item).Gap ((out_7 ++ [Item.mk 0 0 0 (toBytes [IntKind.u8.wrap (t21.getD t23.toNat dflt_Item).Value]) 0] ++ [Item.mk 0 0 0 (toBytes [IntKind.u8.wrap (t21.getD t23.toNat dflt_Item).Value]) 0] ++ [Item.mk 0 0 0 (toBytes [IntKind.u8.wrap (IntKind.i64.wrap ((t21.getD t23.toNat dflt_Item).Value + 128))] ++ (t21.getD t23.toNat dflt_Item).Data) 0]).getD ((out_7.length : Int)).toNat dflt_Item).Value ((out_7 ++ [Item.mk 0 0 0 (toBytes [IntKind.u8.wrap (t21.getD t23.toNat dflt_Item).Value]) 0] ++ [Item.mk 0 0 0 (toBytes [IntKind.u8.wrap (t21.getD t23.toNat dflt_Item).Value]) 0] ++ [Item.mk 0 0 0 (toBytes [IntKind.u8.wrap (IntKind.i64.wrap ((t21.getD t23.toNat dflt_Item).Value + 128))] ++ (t21.getD t23.toNat dflt_Item).Data) 0]).getD ((out_7.length : Int)).toNat dflt_Item).Aux ((out_7 ++ [Item.mk 0 0 0 (toBytes [IntKind.u8.wrap (t21.getD t23.toNat dflt_Item).Value]) 0] ++ [Item.mk 0 0 0 (toBytes [IntKind.u8.wrap (t21.getD t23.toNat dflt_Item).Value]) 0] ++ [Item.mk 0 0 0 (toBytes [IntKind.u8.wrap (IntKind.i64.wrap ((t21.getD t23.toNat dflt_Item).Value + 128))] ++ (t21.getD t23.toNat dflt_Item).Data) 0]).getD ((out_7.length : Int)).toNat dflt_Item).Data ((out_7 ++ [Item.mk 0 0 0 (toBytes [IntKind.u8.wrap (t21.getD t23.toNat dflt_Item).Value]) 0] ++ [Item.mk 0 0 0 (toBytes [IntKind.u8.wrap (t21.getD t23.toNat dflt_Item).Value]) 0] ++ [Item.mk 0 0 0 (toBytes [IntKind.u8.wrap (IntKind.i64.wrap ((t21.getD t23.toNat dflt_Item).Value + 128))] ++ (t21.getD t23.toNat dflt_Item).Data) 0]).getD ((out_7.length : Int)).toNat dflt_Item).Fault)) t21
 else
 none
 else
 none
 else
 none
 else
 bif decide ((((toBytes [IntKind.u8.wrap (IntKind.i64.wrap ((t21.getD t23.toNat dflt_Item).Value + 128))]).size + (t21.getD t23.toNat dflt_Item).Data.size) : Int) > 9223372036854775807) then
 none
 else
 bif decide (((out_7 ++ [Item.mk 0 0 0 (toBytes [IntKind.u8.wrap (t21.getD t23.toNat dflt_Item).Value]) 0]).length + 1) * 48 ≤ 140737488355328) then
 bif decide ((out_7.length : Int) < ((out_7 ++ [Item.mk 0 0 0 (toBytes [IntKind.u8.wrap (t21.getD t23.toNat dflt_Item).Value]) 0] ++ [Item.mk 0 0 0 (toBytes [IntKind.u8.wrap (IntKind.i64.wrap ((t21.getD t23.toNat dflt_Item).Value + 128))] ++ (t21.getD t23.toNat dflt_Item).Data) 0]).length : Int)) then
 k_l8 t22 (IntKind.i64.wrap (t23 + 1)) ((out_7 ++ [Item.mk 0 0 0 (toBytes [IntKind.u8.wrap (t21.getD t23.toNat dflt_Item).Value]) 0] ++ [Item.mk 0 0 0 (toBytes [IntKind.u8.wrap (IntKind.i64.wrap ((t21.getD t23.toNat dflt_Item).Value + 128))] ++ (t21.getD t23.toNat dflt_Item).Data) 0]).set ((out_7.length : Int)).toNat (Item.mk (t21.getD t23.toNat dflt_Item).Gap ((out_7 ++ [Item.mk 0 0 0 (toBytes [IntKind.u8.wrap (t21.getD t23.toNat dflt_Item).Value]) 0] ++ [Item.mk 0 0 0 (toBytes [IntKind.u8.wrap (IntKind.i64.wrap ((t21.getD t23.toNat dflt_Item).Value + 128))] ++ (t21.getD t23.toNat dflt_Item).Data) 0]).getD ((out_7.length : Int)).toNat dflt_Item).Value ((out_7 ++ [Item.mk 0 0 0 (toBytes [IntKind.u8.wrap (t21.getD t23.toNat dflt_Item).Value]) 0] ++ [Item.mk 0 0 0 (toBytes [IntKind.u8.wrap (IntKind.i64.wrap ((t21.getD t23.toNat dflt_Item).Value + 128))] ++ (t21.getD t23.toNat dflt_Item).Data) 0]).getD ((out_7.length : Int)).toNat dflt_Item).Aux ((out_7 ++ [Item.mk 0 0 0 (toBytes [IntKind.u8.wrap (t21.getD t23.toNat dflt_Item).Value]) 0] ++ [Item.mk 0 0 0 (toBytes [IntKind.u8.wrap (IntKind.i64.wrap ((t21.getD t23.toNat dflt_Item).Value + 128))] ++ (t21.getD t23.toNat dflt_Item).Data) 0]).getD ((out_7.length : Int)).toNat dflt_Item).Data ((out_7 ++ [Item.mk 0 0 0 (toBytes [IntKind.u8.wrap (t21.getD t23.toNat dflt_Item).Value]) 0] ++ [Item.mk 0 0 0 (toBytes [IntKind.u8.wrap (IntKind.i64.wrap ((t21.getD t23.toNat dflt_Item).Value + 128))] ++ (t21.getD t23.toNat dflt_Item).Data) 0]).getD ((out_7.length : Int)).toNat dflt_Item).Fault)) t21
 else
 none
 else
 none
 else
 none
 else
 bif (t21.getD t23.toNat dflt_Item).Fault == 7 then
 bif decide ((out_7.length + 1) * 48 ≤ 140737488355328) then
 bif decide ((((toBytes [IntKind.u8.wrap (IntKind.i64.wrap ((t21.getD t23.toNat dflt_Item).Value + 128))]).size + (t21.getD t23.toNat dflt_Item).Data.size) : Int) > 9223372036854775807) then
 none
 else
 bif decide (((out_7 ++ [Item.mk 0 0 0 (toBytes [IntKind.u8.wrap (t21.getD t23.toNat dflt_Item).Value]) 0]).length + 1) * 48 ≤ 140737488355328) then
 bif decide ((out_7.length : Int) < ((out_7 ++ [Item.mk 0 0 0 (toBytes [IntKind.u8.wrap (t21.getD t23.toNat dflt_Item).Value]) 0] ++ [Item.mk 0 0 0 (toBytes [IntKind.u8.wrap (IntKind.i64.wrap ((t21.getD t23.toNat dflt_Item).Value + 128))] ++ (t21.getD t23.toNat dflt_Item).Data) 0]).length : Int)) then
 k_l8 t22 (IntKind.i64.wrap (t23 + 1)) ((out_7 ++ [Item.mk 0 0 0 (toBytes [IntKind.u8.wrap (t21.getD t23.toNat dflt_Item).Value]) 0] ++ [Item.mk 0 0 0 (toBytes [IntKind.u8.wrap (IntKind.i64.wrap ((t21.getD t23.toNat dflt_Item).Value + 128))] ++ (t21.getD t23.toNat dflt_Item).Data) 0]).set ((out_7.length : Int)).toNat (Item.mk (t21.getD t23.toNat dflt_Item).Gap ((out_7 ++ [Item.mk 0 0 0 (toBytes [IntKind.u8.wrap (t21.getD t23.toNat dflt_Item).Value]) 0] ++ [Item.mk 0 0 0 (toBytes [IntKind.u8.wrap (IntKind.i64.wrap ((t21.getD t23.toNat dflt_Item).Value + 128))] ++ (t21.getD t23.toNat dflt_Item).Data) 0]).getD ((out_7.length : Int)).toNat dflt_Item).Value ((out_7 ++ [Item.mk 0 0 0 (toBytes [IntKind.u8.wrap (t21.getD t23.toNat dflt_Item).Value]) 0] ++ [Item.mk 0 0 0 (toBytes [IntKind.u8.wrap (IntKind.i64.wrap ((t21.getD t23.toNat dflt_Item).Value + 128))] ++ (t21.getD t23.toNat dflt_Item).Data) 0]).getD ((out_7.length : Int)).toNat dflt_Item).Aux ((out_7 ++ [Item.mk 0 0 0 (toBytes [IntKind.u8.wrap (t21.getD t23.toNat dflt_Item).Value]) 0] ++ [Item.mk 0 0 0 (toBytes [IntKind.u8.wrap (IntKind.i64.wrap ((t21.getD t23.toNat dflt_Item).Value + 128))] ++ (t21.getD t23.toNat dflt_Item).Data) 0]).getD ((out_7.length : Int)).toNat dflt_Item).Data ((out_7 ++ [Item.mk 0 0 0 (toBytes [IntKind.u8.wrap (t21.getD t23.toNat dflt_Item).Value]) 0] ++ [Item.mk 0 0 0 (toBytes [IntKind.u8.wrap (IntKind.i64.wrap ((t21.getD t23.toNat dflt_Item).Value + 128))] ++ (t21.getD t23.toNat dflt_Item).Data) 0]).getD ((out_7.length : Int)).toNat dflt_Item).Fault)) t21
 else
 none
 else
 none
 else
 none
 else
 bif decide ((((toBytes [IntKind.u8.wrap (IntKind.i64.wrap ((t21.getD t23.toNat dflt_Item).Value + 128))]).size + (t21.getD t23.toNat dflt_Item).Data.size) : Int) > 9223372036854775807) then
 none
 else
 bif decide ((out_7.length + 1) * 48 ≤ 140737488355328) then
 bif decide ((out_7.length : Int) < ((out_7 ++ [Item.mk 0 0 0 (toBytes [IntKind.u8.wrap (IntKind.i64.wrap ((t21.getD t23.toNat dflt_Item).Value + 128))] ++ (t21.getD t23.toNat dflt_Item).Data) 0]).length : Int)) then
 k_l8 t22 (IntKind.i64.wrap (t23 + 1)) ((out_7 ++ [Item.mk 0 0 0 (toBytes [IntKind.u8.wrap (IntKind.i64.wrap ((t21.getD t23.toNat dflt_Item).Value + 128))] ++ (t21.getD t23.toNat dflt_Item).Data) 0]).set ((out_7.length : Int)).toNat (Item.mk (t21.getD t23.toNat dflt_Item).Gap ((out_7 ++ [Item.mk 0 0 0 (toBytes [IntKind.u8.wrap (IntKind.i64.wrap ((t21.getD t23.toNat dflt_Item).Value + 128))] ++ (t21.getD t23.toNat dflt_Item).Data) 0]).getD ((out_7.length : Int)).toNat dflt_Item).Value ((out_7 ++ [Item.mk 0 0 0 (toBytes [IntKind.u8.wrap (IntKind.i64.wrap ((t21.getD t23.toNat dflt_Item).Value + 128))] ++ (t21.getD t23.toNat dflt_Item).Data) 0]).getD ((out_7.length : Int)).toNat dflt_Item).Aux ((out_7 ++ [Item.mk 0 0 0 (toBytes [IntKind.u8.wrap (IntKind.i64.wrap ((t21.getD t23.toNat dflt_Item).Value + 128))] ++ (t21.getD t23.toNat dflt_Item).Data) 0]).getD ((out_7.length : Int)).toNat dflt_Item).Data ((out_7 ++ [Item.mk 0 0 0 (toBytes [IntKind.u8.wrap (IntKind.i64.wrap ((t21.getD t23.toNat dflt_Item).Value + 128))] ++ (t21.getD t23.toNat dflt_Item).Data) 0]).getD ((out_7.length : Int)).toNat dflt_Item).Fault)) t21
 else
 none
 else
 none)
 else
 none)
 else
 none)
 else
 ret out_7 0
theorem L_pair_Encode_l8_step (m n : Nat) (t22 : Int) (t23 : Int) (out_7 : List Item) (t21 : List Item) : L_pair_Encode_l8 m (n + 1) t22 t23 out_7 t21 = b_pair_Encode_l8 m (fun x0 x1 => some (w_pair_Encode (x0, x1))) (fun t22 t23 out_7 t21 => L_pair_Encode_l8 m n t22 t23 out_7 t21) t22 t23 out_7 t21 := by kernel_rfl
theorem b_pair_Encode_l8_map (m : Nat) {k_l8 : Int → Int → List Item → List Item → Option (List (RV C))} {q_l8 : Int → Int → List Item → List Item → Option (List Item × Int)} (h_l8 : ∀ t22 t23 out_7 t21, k_l8 t22 t23 out_7 t21 = (q_l8 t22 t23 out_7 t21).map w_pair_Encode) (t22 : Int) (t23 : Int) (out_7 : List Item) (t21 : List Item) : b_pair_Encode_l8 m (fun x0 x1 => some (w_pair_Encode (x0, x1))) k_l8 t22 t23 out_7 t21 = (b_pair_Encode_l8 m (fun x0 x1 => some (x0, x1)) q_l8 t22 t23 out_7 t21).map w_pair_Encode := by
  simp only [b_pair_Encode_l8, cond_map, bind_map, map_none, map_some, h_l8]
noncomputable def pair_Encode_l8 (m : Nat) : Nat → Int → Int → List Item → List Item → Option (List Item × Int)
  | 0, _, _, _, _ => none
  | n + 1, t22, t23, out_7, t21 => b_pair_Encode_l8 m (fun x0 x1 => some (x0, x1)) (fun t22 t23 out_7 t21 => pair_Encode_l8 m n t22 t23 out_7 t21) t22 t23 out_7 t21
theorem L_pair_Encode_l8_eq (m : Nat) : ∀ (n : Nat) (t22 : Int) (t23 : Int) (out_7 : List Item) (t21 : List Item), L_pair_Encode_l8 m n t22 t23 out_7 t21 = (pair_Encode_l8 m n t22 t23 out_7 t21).map w_pair_Encode
  | 0, t22, t23, out_7, t21 => by kernel_rfl
  | n + 1, t22, t23, out_7, t21 => by
    rw [L_pair_Encode_l8_step]
    exact b_pair_Encode_l8_map m (fun t22 t23 out_7 t21 => L_pair_Encode_l8_eq m n t22 t23 out_7 t21) t22 t23 out_7 t21
noncomputable def b_pair_Encode {R : Type} (m : Nat) (ret : List Item → Int → Option R) (k_l8 : Int → Int → List Item → List Item → Option R) (c_0 : Pair) (l_1 : List Item) : Option R :=
 (pair_Check m c_0).bind fun r0 =>
 bif r0 != 0 then
 ret [] r0
 else
 bif decide ((l_1.length : Int) > 1024) then
 ret [] 6
 else
 k_l8 (l_1.length : Int) 0 [] l_1
theorem pair_Encode_pre (m : Nat) (c_0 : Pair) (l_1 : List Item) : funK Try.prog (Ψ_pair_Encode m) keep m 1 21 [(dS of_Pair cells_Pair of_Pair_ok).e c_0, (dRow 48).e l_1] = b_pair_Encode m (fun x0 x1 => some (w_pair_Encode (x0, x1))) (fun t22 t23 out_7 t21 => L_pair_Encode_l8 m m t22 t23 out_7 t21) c_0 l_1 := by kernel_rfl
theorem b_pair_Encode_map (m : Nat) {k_l8 : Int → Int → List Item → List Item → Option (List (RV C))} {q_l8 : Int → Int → List Item → List Item → Option (List Item × Int)} (h_l8 : ∀ t22 t23 out_7 t21, k_l8 t22 t23 out_7 t21 = (q_l8 t22 t23 out_7 t21).map w_pair_Encode) (c_0 : Pair) (l_1 : List Item) : b_pair_Encode m (fun x0 x1 => some (w_pair_Encode (x0, x1))) k_l8 c_0 l_1 = (b_pair_Encode m (fun x0 x1 => some (x0, x1)) q_l8 c_0 l_1).map w_pair_Encode := by
  simp only [b_pair_Encode, cond_map, bind_map, map_none, map_some, h_l8]
noncomputable def pair_Encode (m : Nat) (c_0 : Pair) (l_1 : List Item) : Option (List Item × Int) := b_pair_Encode m (fun x0 x1 => some (x0, x1)) (fun t22 t23 out_7 t21 => pair_Encode_l8 m m t22 t23 out_7 t21) c_0 l_1
theorem pair_Encode_fun (m : Nat) (c_0 : Pair) (l_1 : List Item) : funK Try.prog (Ψ_pair_Encode m) keep m 1 21 [(dS of_Pair cells_Pair of_Pair_ok).e c_0, (dRow 48).e l_1] = (pair_Encode m c_0 l_1).map w_pair_Encode := by
  rw [pair_Encode_pre]
  exact b_pair_Encode_map m (fun t22 t23 out_7 t21 => L_pair_Encode_l8_eq m m t22 t23 out_7 t21) c_0 l_1
noncomputable def K_pair_Encode (m : Nat) : KnownF C := mkK (dCons (dS of_Pair cells_Pair of_Pair_ok) (dCons (dRow 48) dNil)) (fun a => pair_Encode m a.1 a.2.1) w_pair_Encode
theorem K_pair_Encode_ok (m : Nat) : KnownAt C Try.prog 21 fun l => (K_pair_Encode m).run _ l some :=
  mkK_known good fit (Ψ_pair_Encode_ok m) (keep := keep) (m := m) (d := 1) fun a => pair_Encode_fun m a.1 a.2.1
/-! ### signalbench/pair.Start -/
def w_pair_Start (b : State) : List (RV C) := [(dS of_State cells_State of_State_ok).e b]
noncomputable def b_pair_Start {R : Type} (m : Nat) (ret : State → Option R) (c_0 : Pair) : Option R :=
 ret (State.mk 0 0 0 0 0 0 0 (bs []))
theorem pair_Start_pre (m : Nat) (c_0 : Pair) : funK Try.prog Ψ0 keep m 1 9 [(dS of_Pair cells_Pair of_Pair_ok).e c_0] = b_pair_Start m (fun x0 => some (w_pair_Start x0)) c_0 := by kernel_rfl
theorem b_pair_Start_map (m : Nat) (c_0 : Pair) : b_pair_Start m (fun x0 => some (w_pair_Start x0)) c_0 = (b_pair_Start m (fun x0 => some x0) c_0).map w_pair_Start := by
  simp only [b_pair_Start, cond_map, bind_map, map_none, map_some]
noncomputable def pair_Start (m : Nat) (c_0 : Pair) : Option (State) := b_pair_Start m (fun x0 => some x0) c_0
theorem pair_Start_fun (m : Nat) (c_0 : Pair) : funK Try.prog Ψ0 keep m 1 9 [(dS of_Pair cells_Pair of_Pair_ok).e c_0] = (pair_Start m c_0).map w_pair_Start := by
  rw [pair_Start_pre]
  exact b_pair_Start_map m c_0
noncomputable def K_pair_Start (m : Nat) : KnownF C := mkK (dCons (dS of_Pair cells_Pair of_Pair_ok) dNil) (fun a => pair_Start m a.1) w_pair_Start
theorem K_pair_Start_ok (m : Nat) : KnownAt C Try.prog 9 fun l => (K_pair_Start m).run _ l some :=
  mkK_known good fit Ψ0_ok (keep := keep) (m := m) (d := 1) fun a => pair_Start_fun m a.1
/-! ### signalbench/event.Valid -/
def w_event_Valid (b : Bool) : List (RV C) := [dBool.e b]
noncomputable def b_event_Valid {R : Type} (m : Nat) (ret : Bool → Option R) (e_0 : Event) : Option R :=
 bif decide (e_0.Kind < 1) then
 ret false
 else
 bif decide (e_0.Kind > 8) then
 ret false
 else
 bif decide (e_0.From < 0) then
 ret false
 else
 bif decide (e_0.From > e_0.To) then
 ret false
 else
 bif decide (e_0.To > 1099511627776) then
 ret false
 else
 bif decide (e_0.Value < -9007199254740992) then
 ret false
 else
 bif decide (e_0.Value > 9007199254740992) then
 ret false
 else
 bif decide (e_0.Aux < -9007199254740992) then
 ret false
 else
 bif decide (e_0.Aux > 9007199254740992) then
 ret false
 else
 bif decide ((e_0.Data.size : Int) ≤ 4096) then
 bif decide (e_0.Fault ≥ 0) then
 ret (decide (e_0.Fault ≤ 12))
 else
 ret false
 else
 ret false
theorem event_Valid_pre (m : Nat) (e_0 : Event) : funK Try.prog Ψ0 keep m 1 36 [(dS of_Event cells_Event of_Event_ok).e e_0] = b_event_Valid m (fun x0 => some (w_event_Valid x0)) e_0 := by kernel_rfl
theorem b_event_Valid_map (m : Nat) (e_0 : Event) : b_event_Valid m (fun x0 => some (w_event_Valid x0)) e_0 = (b_event_Valid m (fun x0 => some x0) e_0).map w_event_Valid := by
  simp only [b_event_Valid, cond_map, bind_map, map_none, map_some]
noncomputable def event_Valid (m : Nat) (e_0 : Event) : Option (Bool) := b_event_Valid m (fun x0 => some x0) e_0
theorem event_Valid_fun (m : Nat) (e_0 : Event) : funK Try.prog Ψ0 keep m 1 36 [(dS of_Event cells_Event of_Event_ok).e e_0] = (event_Valid m e_0).map w_event_Valid := by
  rw [event_Valid_pre]
  exact b_event_Valid_map m e_0
noncomputable def K_event_Valid (m : Nat) : KnownF C := mkK (dCons (dS of_Event cells_Event of_Event_ok) dNil) (fun a => event_Valid m a.1) w_event_Valid
theorem K_event_Valid_ok (m : Nat) : KnownAt C Try.prog 36 fun l => (K_event_Valid m).run _ l some :=
  mkK_known good fit Ψ0_ok (keep := keep) (m := m) (d := 1) fun a => event_Valid_fun m a.1
/-! ### signalbench/pair.accepts -/
noncomputable def Ψ_pair_accepts (m : Nat) : Known C := fun f => match f with
  | 36 => some (K_event_Valid m)
  | _ => none
theorem Ψ_pair_accepts_ok (m : Nat) : KnownOk C Try.prog (Ψ_pair_accepts m) := by
  intro f φ h
  unfold Ψ_pair_accepts at h
  split at h
  · injection h with h; subst h; exact K_event_Valid_ok m
  · cases h
def w_pair_accepts (b : Bool) : List (RV C) := [dBool.e b]
noncomputable def b_pair_accepts {R : Type} (m : Nat) (ret : Bool → Option R) (s_0 : State) (e_1 : Event) : Option R :=
 bif e_1.Kind == 6 then
 ((event_Valid m e_1).bind fun r0 =>
 bif r0 then
 ret (decide (e_1.From ≥ s_0.At))
 else
 ret false)
 else
 ret false
theorem pair_accepts_pre (m : Nat) (s_0 : State) (e_1 : Event) : funK Try.prog (Ψ_pair_accepts m) keep m 1 25 [(dS of_State cells_State of_State_ok).e s_0, (dS of_Event cells_Event of_Event_ok).e e_1] = b_pair_accepts m (fun x0 => some (w_pair_accepts x0)) s_0 e_1 := by kernel_rfl
theorem b_pair_accepts_map (m : Nat) (s_0 : State) (e_1 : Event) : b_pair_accepts m (fun x0 => some (w_pair_accepts x0)) s_0 e_1 = (b_pair_accepts m (fun x0 => some x0) s_0 e_1).map w_pair_accepts := by
  simp only [b_pair_accepts, cond_map, bind_map, map_none, map_some]
noncomputable def pair_accepts (m : Nat) (s_0 : State) (e_1 : Event) : Option (Bool) := b_pair_accepts m (fun x0 => some x0) s_0 e_1
theorem pair_accepts_fun (m : Nat) (s_0 : State) (e_1 : Event) : funK Try.prog (Ψ_pair_accepts m) keep m 1 25 [(dS of_State cells_State of_State_ok).e s_0, (dS of_Event cells_Event of_Event_ok).e e_1] = (pair_accepts m s_0 e_1).map w_pair_accepts := by
  rw [pair_accepts_pre]
  exact b_pair_accepts_map m s_0 e_1
noncomputable def K_pair_accepts (m : Nat) : KnownF C := mkK (dCons (dS of_State cells_State of_State_ok) (dCons (dS of_Event cells_Event of_Event_ok) dNil)) (fun a => pair_accepts m a.1 a.2.1) w_pair_accepts
theorem K_pair_accepts_ok (m : Nat) : KnownAt C Try.prog 25 fun l => (K_pair_accepts m).run _ l some :=
  mkK_known good fit (Ψ_pair_accepts_ok m) (keep := keep) (m := m) (d := 1) fun a => pair_accepts_fun m a.1 a.2.1
/-! ### signalbench/octet.TakeUint -/
def w_octet_TakeUint (b : Int × Int × Int) : List (RV C) := [(dInt .u64).e b.1, (dInt .i64).e b.2.1, (dInt .i64).e b.2.2]
noncomputable def Q_octet_TakeUint_6 (m : Nat) : St C → (Exit → St C → Option (List (RV C))) → Option (List (RV C)) := fun σ k => codeK Try.prog Ψ0 (callK Try.prog Ψ0 keep m 0) (keep 44) m (subC body44 [.r, .r, .r, .r, .b, .o]) σ k
noncomputable def KL_octet_TakeUint_6 (m : Nat) : Exit → St C → Option (List (RV C)) := contK Try.prog Ψ0 (callK Try.prog Ψ0 keep m 0) (keep 44) m body44 [.r, .r, .r, .r, .b, .o] (leaveK Try.prog Try.f44.results.toList (finK Try.prog Try.f44.resultTypes.toList))
noncomputable def L_octet_TakeUint_l6 (m n : Nat) (b_0 : ByteArray) (at_1 : Int) (n_7 : Int) (k_8 : Int) : Option (List (RV C)) := iterK (Q_octet_TakeUint_6 m) (St.norm (keep 44 6)) n ({ T := [.fl (.one (.str b_0)), .fl (.one (.int .i64 at_1)), .dead, .dead, .dead, .dead, .dead, .fl (.one (.int .u64 n_7)), .fl (.one (.int .i64 k_8))] ++ List.replicate 46 .dead, F := [[]], H := [] } : St C) (KL_octet_TakeUint_6 m)
noncomputable def b_octet_TakeUint_l6 {R : Type} (m : Nat) (ret : Int → Int → Int → Option R) (k_l6 : ByteArray → Int → Int → Int → Option R) (b_0 : ByteArray) (at_1 : Int) (n_7 : Int) (k_8 : Int) : Option R :=
 bif decide (at_1 ≥ (b_0.size : Int)) then
 ret 0 0 5
 else
 bif decide (0 ≤ at_1) then
 bif decide (at_1 < (b_0.size : Int)) then
 bif k_8 == 9 then
 bif decide (byteAt b_0 at_1 > 1) then
 ret 0 0 4
 else
 bif decide (k_8 > 0) then
 bif byteAt b_0 at_1 == 0 then
 ret 0 0 4
 else
 bif decide (IntKind.i64.wrap (7 * k_8) < 0) then
 none
 else
 bif decide (byteAt b_0 at_1 < 128) then
 ret (IntKind.u64.wrap (((BitVec.ofInt 64 n_7 ||| BitVec.ofInt 64 (IntKind.u64.wrap (IntKind.u64.wrap (IntKind.u8.wrap (((BitVec.ofInt 8 (byteAt b_0 at_1) &&& BitVec.ofInt 8 127).toNat : Int))) * 2 ^ min (IntKind.i64.wrap (7 * k_8)).toNat 64))).toNat : Int))) (IntKind.i64.wrap (at_1 + 1)) 0
 else
 k_l6 b_0 (IntKind.i64.wrap (at_1 + 1)) (IntKind.u64.wrap (((BitVec.ofInt 64 n_7 ||| BitVec.ofInt 64 (IntKind.u64.wrap (IntKind.u64.wrap (IntKind.u8.wrap (((BitVec.ofInt 8 (byteAt b_0 at_1) &&& BitVec.ofInt 8 127).toNat : Int))) * 2 ^ min (IntKind.i64.wrap (7 * k_8)).toNat 64))).toNat : Int))) (IntKind.i64.wrap (k_8 + 1))
 else
 bif decide (IntKind.i64.wrap (7 * k_8) < 0) then
 none
 else
 bif decide (byteAt b_0 at_1 < 128) then
 ret (IntKind.u64.wrap (((BitVec.ofInt 64 n_7 ||| BitVec.ofInt 64 (IntKind.u64.wrap (IntKind.u64.wrap (IntKind.u8.wrap (((BitVec.ofInt 8 (byteAt b_0 at_1) &&& BitVec.ofInt 8 127).toNat : Int))) * 2 ^ min (IntKind.i64.wrap (7 * k_8)).toNat 64))).toNat : Int))) (IntKind.i64.wrap (at_1 + 1)) 0
 else
 k_l6 b_0 (IntKind.i64.wrap (at_1 + 1)) (IntKind.u64.wrap (((BitVec.ofInt 64 n_7 ||| BitVec.ofInt 64 (IntKind.u64.wrap (IntKind.u64.wrap (IntKind.u8.wrap (((BitVec.ofInt 8 (byteAt b_0 at_1) &&& BitVec.ofInt 8 127).toNat : Int))) * 2 ^ min (IntKind.i64.wrap (7 * k_8)).toNat 64))).toNat : Int))) (IntKind.i64.wrap (k_8 + 1))
 else
 bif decide (k_8 > 0) then
 bif byteAt b_0 at_1 == 0 then
 ret 0 0 4
 else
 bif decide (IntKind.i64.wrap (7 * k_8) < 0) then
 none
 else
 bif decide (byteAt b_0 at_1 < 128) then
 ret (IntKind.u64.wrap (((BitVec.ofInt 64 n_7 ||| BitVec.ofInt 64 (IntKind.u64.wrap (IntKind.u64.wrap (IntKind.u8.wrap (((BitVec.ofInt 8 (byteAt b_0 at_1) &&& BitVec.ofInt 8 127).toNat : Int))) * 2 ^ min (IntKind.i64.wrap (7 * k_8)).toNat 64))).toNat : Int))) (IntKind.i64.wrap (at_1 + 1)) 0
 else
 k_l6 b_0 (IntKind.i64.wrap (at_1 + 1)) (IntKind.u64.wrap (((BitVec.ofInt 64 n_7 ||| BitVec.ofInt 64 (IntKind.u64.wrap (IntKind.u64.wrap (IntKind.u8.wrap (((BitVec.ofInt 8 (byteAt b_0 at_1) &&& BitVec.ofInt 8 127).toNat : Int))) * 2 ^ min (IntKind.i64.wrap (7 * k_8)).toNat 64))).toNat : Int))) (IntKind.i64.wrap (k_8 + 1))
 else
 bif decide (IntKind.i64.wrap (7 * k_8) < 0) then
 none
 else
 bif decide (byteAt b_0 at_1 < 128) then
 ret (IntKind.u64.wrap (((BitVec.ofInt 64 n_7 ||| BitVec.ofInt 64 (IntKind.u64.wrap (IntKind.u64.wrap (IntKind.u8.wrap (((BitVec.ofInt 8 (byteAt b_0 at_1) &&& BitVec.ofInt 8 127).toNat : Int))) * 2 ^ min (IntKind.i64.wrap (7 * k_8)).toNat 64))).toNat : Int))) (IntKind.i64.wrap (at_1 + 1)) 0
 else
 k_l6 b_0 (IntKind.i64.wrap (at_1 + 1)) (IntKind.u64.wrap (((BitVec.ofInt 64 n_7 ||| BitVec.ofInt 64 (IntKind.u64.wrap (IntKind.u64.wrap (IntKind.u8.wrap (((BitVec.ofInt 8 (byteAt b_0 at_1) &&& BitVec.ofInt 8 127).toNat : Int))) * 2 ^ min (IntKind.i64.wrap (7 * k_8)).toNat 64))).toNat : Int))) (IntKind.i64.wrap (k_8 + 1))
 else
 none
 else
 none
theorem L_octet_TakeUint_l6_step (m n : Nat) (b_0 : ByteArray) (at_1 : Int) (n_7 : Int) (k_8 : Int) : L_octet_TakeUint_l6 m (n + 1) b_0 at_1 n_7 k_8 = b_octet_TakeUint_l6 m (fun x0 x1 x2 => some (w_octet_TakeUint (x0, x1, x2))) (fun b_0 at_1 n_7 k_8 => L_octet_TakeUint_l6 m n b_0 at_1 n_7 k_8) b_0 at_1 n_7 k_8 := by kernel_rfl
theorem b_octet_TakeUint_l6_map (m : Nat) {k_l6 : ByteArray → Int → Int → Int → Option (List (RV C))} {q_l6 : ByteArray → Int → Int → Int → Option (Int × Int × Int)} (h_l6 : ∀ b_0 at_1 n_7 k_8, k_l6 b_0 at_1 n_7 k_8 = (q_l6 b_0 at_1 n_7 k_8).map w_octet_TakeUint) (b_0 : ByteArray) (at_1 : Int) (n_7 : Int) (k_8 : Int) : b_octet_TakeUint_l6 m (fun x0 x1 x2 => some (w_octet_TakeUint (x0, x1, x2))) k_l6 b_0 at_1 n_7 k_8 = (b_octet_TakeUint_l6 m (fun x0 x1 x2 => some (x0, x1, x2)) q_l6 b_0 at_1 n_7 k_8).map w_octet_TakeUint := by
  simp only [b_octet_TakeUint_l6, cond_map, bind_map, map_none, map_some, h_l6]
noncomputable def octet_TakeUint_l6 (m : Nat) : Nat → ByteArray → Int → Int → Int → Option (Int × Int × Int)
  | 0, _, _, _, _ => none
  | n + 1, b_0, at_1, n_7, k_8 => b_octet_TakeUint_l6 m (fun x0 x1 x2 => some (x0, x1, x2)) (fun b_0 at_1 n_7 k_8 => octet_TakeUint_l6 m n b_0 at_1 n_7 k_8) b_0 at_1 n_7 k_8
theorem L_octet_TakeUint_l6_eq (m : Nat) : ∀ (n : Nat) (b_0 : ByteArray) (at_1 : Int) (n_7 : Int) (k_8 : Int), L_octet_TakeUint_l6 m n b_0 at_1 n_7 k_8 = (octet_TakeUint_l6 m n b_0 at_1 n_7 k_8).map w_octet_TakeUint
  | 0, b_0, at_1, n_7, k_8 => by kernel_rfl
  | n + 1, b_0, at_1, n_7, k_8 => by
    rw [L_octet_TakeUint_l6_step]
    exact b_octet_TakeUint_l6_map m (fun b_0 at_1 n_7 k_8 => L_octet_TakeUint_l6_eq m n b_0 at_1 n_7 k_8) b_0 at_1 n_7 k_8
noncomputable def b_octet_TakeUint {R : Type} (m : Nat) (ret : Int → Int → Int → Option R) (k_l6 : ByteArray → Int → Int → Int → Option R) (b_0 : ByteArray) (at_1 : Int) : Option R :=
 bif decide (at_1 < 0) then
 ret 0 0 1
 else
 bif decide (at_1 > (b_0.size : Int)) then
 ret 0 0 1
 else
 k_l6 b_0 at_1 0 0
theorem octet_TakeUint_pre (m : Nat) (b_0 : ByteArray) (at_1 : Int) : funK Try.prog Ψ0 keep m 1 44 [dStr.e b_0, (dInt .i64).e at_1] = b_octet_TakeUint m (fun x0 x1 x2 => some (w_octet_TakeUint (x0, x1, x2))) (fun b_0 at_1 n_7 k_8 => L_octet_TakeUint_l6 m m b_0 at_1 n_7 k_8) b_0 at_1 := by kernel_rfl
theorem b_octet_TakeUint_map (m : Nat) {k_l6 : ByteArray → Int → Int → Int → Option (List (RV C))} {q_l6 : ByteArray → Int → Int → Int → Option (Int × Int × Int)} (h_l6 : ∀ b_0 at_1 n_7 k_8, k_l6 b_0 at_1 n_7 k_8 = (q_l6 b_0 at_1 n_7 k_8).map w_octet_TakeUint) (b_0 : ByteArray) (at_1 : Int) : b_octet_TakeUint m (fun x0 x1 x2 => some (w_octet_TakeUint (x0, x1, x2))) k_l6 b_0 at_1 = (b_octet_TakeUint m (fun x0 x1 x2 => some (x0, x1, x2)) q_l6 b_0 at_1).map w_octet_TakeUint := by
  simp only [b_octet_TakeUint, cond_map, bind_map, map_none, map_some, h_l6]
noncomputable def octet_TakeUint (m : Nat) (b_0 : ByteArray) (at_1 : Int) : Option (Int × Int × Int) := b_octet_TakeUint m (fun x0 x1 x2 => some (x0, x1, x2)) (fun b_0 at_1 n_7 k_8 => octet_TakeUint_l6 m m b_0 at_1 n_7 k_8) b_0 at_1
theorem octet_TakeUint_fun (m : Nat) (b_0 : ByteArray) (at_1 : Int) : funK Try.prog Ψ0 keep m 1 44 [dStr.e b_0, (dInt .i64).e at_1] = (octet_TakeUint m b_0 at_1).map w_octet_TakeUint := by
  rw [octet_TakeUint_pre]
  exact b_octet_TakeUint_map m (fun b_0 at_1 n_7 k_8 => L_octet_TakeUint_l6_eq m m b_0 at_1 n_7 k_8) b_0 at_1
noncomputable def K_octet_TakeUint (m : Nat) : KnownF C := mkK (dCons dStr (dCons (dInt .i64) dNil)) (fun a => octet_TakeUint m a.1 a.2.1) w_octet_TakeUint
theorem K_octet_TakeUint_ok (m : Nat) : KnownAt C Try.prog 44 fun l => (K_octet_TakeUint m).run _ l some :=
  mkK_known good fit Ψ0_ok (keep := keep) (m := m) (d := 1) fun a => octet_TakeUint_fun m a.1 a.2.1
/-! ### signalbench/octet.TakeInt -/
noncomputable def Ψ_octet_TakeInt (m : Nat) : Known C := fun f => match f with
  | 44 => some (K_octet_TakeUint m)
  | _ => none
theorem Ψ_octet_TakeInt_ok (m : Nat) : KnownOk C Try.prog (Ψ_octet_TakeInt m) := by
  intro f φ h
  unfold Ψ_octet_TakeInt at h
  split at h
  · injection h with h; subst h; exact K_octet_TakeUint_ok m
  · cases h
def w_octet_TakeInt (b : Int × Int × Int) : List (RV C) := [(dInt .i64).e b.1, (dInt .i64).e b.2.1, (dInt .i64).e b.2.2]
noncomputable def b_octet_TakeInt {R : Type} (m : Nat) (ret : Int → Int → Int → Option R) (b_0 : ByteArray) (at_1 : Int) : Option R :=
 (octet_TakeUint m b_0 at_1).bind fun r0 =>
 bif r0.snd.snd != 0 then
 ret 0 0 r0.snd.snd
 else
 bif r0.fst.tmod 2 == 1 then
 ret (IntKind.i64.wrap (IntKind.i64.wrap (0 - IntKind.i64.wrap (IntKind.u64.wrap (r0.fst.tdiv 2))) - 1)) r0.snd.fst 0
 else
 ret (IntKind.i64.wrap (IntKind.u64.wrap (r0.fst.tdiv 2))) r0.snd.fst 0
theorem octet_TakeInt_pre (m : Nat) (b_0 : ByteArray) (at_1 : Int) : funK Try.prog (Ψ_octet_TakeInt m) keep m 1 37 [dStr.e b_0, (dInt .i64).e at_1] = b_octet_TakeInt m (fun x0 x1 x2 => some (w_octet_TakeInt (x0, x1, x2))) b_0 at_1 := by kernel_rfl
theorem b_octet_TakeInt_map (m : Nat) (b_0 : ByteArray) (at_1 : Int) : b_octet_TakeInt m (fun x0 x1 x2 => some (w_octet_TakeInt (x0, x1, x2))) b_0 at_1 = (b_octet_TakeInt m (fun x0 x1 x2 => some (x0, x1, x2)) b_0 at_1).map w_octet_TakeInt := by
  simp only [b_octet_TakeInt, cond_map, bind_map, map_none, map_some]
noncomputable def octet_TakeInt (m : Nat) (b_0 : ByteArray) (at_1 : Int) : Option (Int × Int × Int) := b_octet_TakeInt m (fun x0 x1 x2 => some (x0, x1, x2)) b_0 at_1
theorem octet_TakeInt_fun (m : Nat) (b_0 : ByteArray) (at_1 : Int) : funK Try.prog (Ψ_octet_TakeInt m) keep m 1 37 [dStr.e b_0, (dInt .i64).e at_1] = (octet_TakeInt m b_0 at_1).map w_octet_TakeInt := by
  rw [octet_TakeInt_pre]
  exact b_octet_TakeInt_map m b_0 at_1
noncomputable def K_octet_TakeInt (m : Nat) : KnownF C := mkK (dCons dStr (dCons (dInt .i64) dNil)) (fun a => octet_TakeInt m a.1 a.2.1) w_octet_TakeInt
theorem K_octet_TakeInt_ok (m : Nat) : KnownAt C Try.prog 37 fun l => (K_octet_TakeInt m).run _ l some :=
  mkK_known good fit (Ψ_octet_TakeInt_ok m) (keep := keep) (m := m) (d := 1) fun a => octet_TakeInt_fun m a.1 a.2.1
/-! ### signalbench/pair.load -/
noncomputable def Ψ_pair_load (m : Nat) : Known C := fun f => match f with
  | 37 => some (K_octet_TakeInt m)
  | _ => none
theorem Ψ_pair_load_ok (m : Nat) : KnownOk C Try.prog (Ψ_pair_load m) := by
  intro f φ h
  unfold Ψ_pair_load at h
  split at h
  · injection h with h; subst h; exact K_octet_TakeInt_ok m
  · cases h
def w_pair_load (b : List Pair_request) : List (RV C) := [(dRow 57).e b]
noncomputable def Q_pair_load_3 (m : Nat) : St C → (Exit → St C → Option (List (RV C))) → Option (List (RV C)) := fun σ k => codeK Try.prog (Ψ_pair_load m) (callK Try.prog (Ψ_pair_load m) keep m 0) (keep 26) m (subC body26 [.r, .r, .l, .r, .b, .o]) σ k
noncomputable def KL_pair_load_3 (m : Nat) : Exit → St C → Option (List (RV C)) := contK Try.prog (Ψ_pair_load m) (callK Try.prog (Ψ_pair_load m) keep m 0) (keep 26) m body26 [.r, .r, .l, .r, .b, .o] (leaveK Try.prog Try.f26.results.toList (finK Try.prog Try.f26.resultTypes.toList))
noncomputable def Q_pair_load_6 (m : Nat) : St C → (Exit → St C → Option (List (RV C))) → Option (List (RV C)) := fun σ k => codeK Try.prog (Ψ_pair_load m) (callK Try.prog (Ψ_pair_load m) keep m 0) (keep 26) m (subC (subC body26 [.r, .r, .l, .r, .b, .o]) [.r, .b, .r, .l, .r, .b, .o]) σ k
noncomputable def KL_pair_load_6 (m : Nat) (n3 : Nat) : Exit → St C → Option (List (RV C)) := contK Try.prog (Ψ_pair_load m) (callK Try.prog (Ψ_pair_load m) keep m 0) (keep 26) m (subC body26 [.r, .r, .l, .r, .b, .o]) [.r, .b, .r, .l, .r, .b, .o] (rndK (Q_pair_load_3 m) (St.norm (keep 26 3)) n3 (KL_pair_load_3 m))
noncomputable def L_pair_load_l3 (m n : Nat) (at_4 : Int) (c0 : State) (out_3 : List Pair_request) : Option (List (RV C)) := iterK (Q_pair_load_3 m) (St.norm (keep 26 3)) n ({ T := [.dead, .fl (.one (.ptr 0 0)), .dead, .fl (.one (.sl 1)), .fl (.one (.int .i64 at_4))] ++ List.replicate 40 .dead, F := [[]], H := [.box 27 (cells_State c0), .row 57 true out_3] } : St C) (KL_pair_load_3 m)
noncomputable def L_pair_load_l6 (m n3 n : Nat) (at_4 : Int) (t15 : Int) (c0 : State) (out_3 : List Pair_request) (c2_0 : Int) (c2_1 : Int) (c2_2 : Int) : Option (List (RV C)) := iterK (Q_pair_load_6 m) (St.norm (keep 26 6)) n ({ T := [.dead, .fl (.one (.ptr 0 0)), .dead, .fl (.one (.sl 1)), .fl (.one (.int .i64 at_4)), .fl (.one (.ptr 2 0)), .dead, .dead, .dead, .dead, .dead, .dead, .dead, .dead, .dead, .fl (.one (.int .i64 t15))] ++ List.replicate 29 .dead, F := [[]], H := [.box 27 (cells_State c0), .row 57 true out_3, .box 72 ([.int .i64 c2_0, .int .i64 c2_1, .int .i64 c2_2])] } : St C) (KL_pair_load_6 m n3)
noncomputable def b_pair_load_l6 {R : Type} (m : Nat) (ret : List Pair_request → Option R) (k_l6 : Int → Int → State → List Pair_request → Int → Int → Int → Option R) (k_l3 : Int → State → List Pair_request → Option R) (at_4 : Int) (t15 : Int) (c0 : State) (out_3 : List Pair_request) (c2_0 : Int) (c2_1 : Int) (c2_2 : Int) : Option R :=
 bif decide (t15 < 3) then
 ((octet_TakeInt m c0.Data at_4).bind fun r0 =>
 bif r0.snd.snd != 0 then
 ret out_3
 else
 bif decide (0 ≤ t15) then
 bif decide (t15 < 3) then
 bif decide (t15 = 2) then
 k_l6 r0.snd.fst (IntKind.i64.wrap (t15 + 1)) c0 out_3 c2_0 c2_1 r0.fst
 else
 bif decide (t15 = 1) then
 k_l6 r0.snd.fst (IntKind.i64.wrap (t15 + 1)) c0 out_3 c2_0 r0.fst c2_2
 else
 bif decide (t15 = 0) then
 k_l6 r0.snd.fst (IntKind.i64.wrap (t15 + 1)) c0 out_3 r0.fst c2_1 c2_2
 else
 none
 else
 none
 else
 none)
 else
 bif decide ((out_3.length + 1) * 24 ≤ 140737488355328) then
 k_l3 at_4 c0 (out_3 ++ [Pair_request.mk c2_0 c2_1 c2_2])
 else
 none
theorem L_pair_load_l6_step (m n3 n : Nat) (at_4 : Int) (t15 : Int) (c0 : State) (out_3 : List Pair_request) (c2_0 : Int) (c2_1 : Int) (c2_2 : Int) : L_pair_load_l6 m n3 (n + 1) at_4 t15 c0 out_3 c2_0 c2_1 c2_2 = b_pair_load_l6 m (fun x0 => some (w_pair_load x0)) (fun at_4 t15 c0 out_3 c2_0 c2_1 c2_2 => L_pair_load_l6 m n3 n at_4 t15 c0 out_3 c2_0 c2_1 c2_2) (fun at_4 c0 out_3 => L_pair_load_l3 m n3 at_4 c0 out_3) at_4 t15 c0 out_3 c2_0 c2_1 c2_2 := by kernel_rfl
theorem b_pair_load_l6_map (m : Nat) {k_l6 : Int → Int → State → List Pair_request → Int → Int → Int → Option (List (RV C))} {q_l6 : Int → Int → State → List Pair_request → Int → Int → Int → Option (List Pair_request)} (h_l6 : ∀ at_4 t15 c0 out_3 c2_0 c2_1 c2_2, k_l6 at_4 t15 c0 out_3 c2_0 c2_1 c2_2 = (q_l6 at_4 t15 c0 out_3 c2_0 c2_1 c2_2).map w_pair_load) {k_l3 : Int → State → List Pair_request → Option (List (RV C))} {q_l3 : Int → State → List Pair_request → Option (List Pair_request)} (h_l3 : ∀ at_4 c0 out_3, k_l3 at_4 c0 out_3 = (q_l3 at_4 c0 out_3).map w_pair_load) (at_4 : Int) (t15 : Int) (c0 : State) (out_3 : List Pair_request) (c2_0 : Int) (c2_1 : Int) (c2_2 : Int) : b_pair_load_l6 m (fun x0 => some (w_pair_load x0)) k_l6 k_l3 at_4 t15 c0 out_3 c2_0 c2_1 c2_2 = (b_pair_load_l6 m (fun x0 => some x0) q_l6 q_l3 at_4 t15 c0 out_3 c2_0 c2_1 c2_2).map w_pair_load := by
  simp only [b_pair_load_l6, cond_map, bind_map, map_none, map_some, h_l6, h_l3]
noncomputable def pair_load_l6 (m : Nat) (q_l3 : Int → State → List Pair_request → Option (List Pair_request)) : Nat → Int → Int → State → List Pair_request → Int → Int → Int → Option (List Pair_request)
  | 0, _, _, _, _, _, _, _ => none
  | n + 1, at_4, t15, c0, out_3, c2_0, c2_1, c2_2 => b_pair_load_l6 m (fun x0 => some x0) (fun at_4 t15 c0 out_3 c2_0 c2_1 c2_2 => pair_load_l6 m q_l3 n at_4 t15 c0 out_3 c2_0 c2_1 c2_2) q_l3 at_4 t15 c0 out_3 c2_0 c2_1 c2_2
theorem L_pair_load_l6_eq (m n3 : Nat) (q_l3 : Int → State → List Pair_request → Option (List Pair_request)) (h_l3 : ∀ at_4 c0 out_3, L_pair_load_l3 m n3 at_4 c0 out_3 = (q_l3 at_4 c0 out_3).map w_pair_load) : ∀ (n : Nat) (at_4 : Int) (t15 : Int) (c0 : State) (out_3 : List Pair_request) (c2_0 : Int) (c2_1 : Int) (c2_2 : Int), L_pair_load_l6 m n3 n at_4 t15 c0 out_3 c2_0 c2_1 c2_2 = (pair_load_l6 m q_l3 n at_4 t15 c0 out_3 c2_0 c2_1 c2_2).map w_pair_load
  | 0, at_4, t15, c0, out_3, c2_0, c2_1, c2_2 => by kernel_rfl
  | n + 1, at_4, t15, c0, out_3, c2_0, c2_1, c2_2 => by
    rw [L_pair_load_l6_step]
    exact b_pair_load_l6_map m (fun at_4 t15 c0 out_3 c2_0 c2_1 c2_2 => L_pair_load_l6_eq m n3 q_l3 h_l3 n at_4 t15 c0 out_3 c2_0 c2_1 c2_2) h_l3 at_4 t15 c0 out_3 c2_0 c2_1 c2_2
noncomputable def b_pair_load_l3 {R : Type} (m : Nat) (ret : List Pair_request → Option R) (k_l6 : Int → Int → State → List Pair_request → Int → Int → Int → Option R) (at_4 : Int) (c0 : State) (out_3 : List Pair_request) : Option R :=
 bif decide (at_4 < (c0.Data.size : Int)) then
 k_l6 at_4 0 c0 out_3 0 0 0
 else
 ret out_3
theorem L_pair_load_l3_step (m n : Nat) (at_4 : Int) (c0 : State) (out_3 : List Pair_request) : L_pair_load_l3 m (n + 1) at_4 c0 out_3 = b_pair_load_l3 m (fun x0 => some (w_pair_load x0)) (fun at_4 t15 c0 out_3 c2_0 c2_1 c2_2 => L_pair_load_l6 m n m at_4 t15 c0 out_3 c2_0 c2_1 c2_2) at_4 c0 out_3 := by kernel_rfl
theorem b_pair_load_l3_map (m : Nat) {k_l6 : Int → Int → State → List Pair_request → Int → Int → Int → Option (List (RV C))} {q_l6 : Int → Int → State → List Pair_request → Int → Int → Int → Option (List Pair_request)} (h_l6 : ∀ at_4 t15 c0 out_3 c2_0 c2_1 c2_2, k_l6 at_4 t15 c0 out_3 c2_0 c2_1 c2_2 = (q_l6 at_4 t15 c0 out_3 c2_0 c2_1 c2_2).map w_pair_load) (at_4 : Int) (c0 : State) (out_3 : List Pair_request) : b_pair_load_l3 m (fun x0 => some (w_pair_load x0)) k_l6 at_4 c0 out_3 = (b_pair_load_l3 m (fun x0 => some x0) q_l6 at_4 c0 out_3).map w_pair_load := by
  simp only [b_pair_load_l3, cond_map, bind_map, map_none, map_some, h_l6]
noncomputable def pair_load_l3 (m : Nat) : Nat → Int → State → List Pair_request → Option (List Pair_request)
  | 0, _, _, _ => none
  | n + 1, at_4, c0, out_3 => b_pair_load_l3 m (fun x0 => some x0) (fun at_4 t15 c0 out_3 c2_0 c2_1 c2_2 => pair_load_l6 m (fun at_4 c0 out_3 => pair_load_l3 m n at_4 c0 out_3) m at_4 t15 c0 out_3 c2_0 c2_1 c2_2) at_4 c0 out_3
theorem L_pair_load_l3_eq (m : Nat) : ∀ (n : Nat) (at_4 : Int) (c0 : State) (out_3 : List Pair_request), L_pair_load_l3 m n at_4 c0 out_3 = (pair_load_l3 m n at_4 c0 out_3).map w_pair_load
  | 0, at_4, c0, out_3 => by kernel_rfl
  | n + 1, at_4, c0, out_3 => by
    rw [L_pair_load_l3_step]
    exact b_pair_load_l3_map m (fun at_4 t15 c0 out_3 c2_0 c2_1 c2_2 => L_pair_load_l6_eq m n (fun at_4 c0 out_3 => pair_load_l3 m n at_4 c0 out_3) (fun at_4 c0 out_3 => L_pair_load_l3_eq m n at_4 c0 out_3) m at_4 t15 c0 out_3 c2_0 c2_1 c2_2) at_4 c0 out_3
noncomputable def b_pair_load {R : Type} (m : Nat) (ret : List Pair_request → Option R) (k_l3 : Int → State → List Pair_request → Option R) (s_0 : State) : Option R :=
 k_l3 0 s_0 []
theorem pair_load_pre (m : Nat) (s_0 : State) : funK Try.prog (Ψ_pair_load m) keep m 1 26 [(dS of_State cells_State of_State_ok).e s_0] = b_pair_load m (fun x0 => some (w_pair_load x0)) (fun at_4 c0 out_3 => L_pair_load_l3 m m at_4 c0 out_3) s_0 := by kernel_rfl
theorem b_pair_load_map (m : Nat) {k_l3 : Int → State → List Pair_request → Option (List (RV C))} {q_l3 : Int → State → List Pair_request → Option (List Pair_request)} (h_l3 : ∀ at_4 c0 out_3, k_l3 at_4 c0 out_3 = (q_l3 at_4 c0 out_3).map w_pair_load) (s_0 : State) : b_pair_load m (fun x0 => some (w_pair_load x0)) k_l3 s_0 = (b_pair_load m (fun x0 => some x0) q_l3 s_0).map w_pair_load := by
  simp only [b_pair_load, cond_map, bind_map, map_none, map_some, h_l3]
noncomputable def pair_load (m : Nat) (s_0 : State) : Option (List Pair_request) := b_pair_load m (fun x0 => some x0) (fun at_4 c0 out_3 => pair_load_l3 m m at_4 c0 out_3) s_0
theorem pair_load_fun (m : Nat) (s_0 : State) : funK Try.prog (Ψ_pair_load m) keep m 1 26 [(dS of_State cells_State of_State_ok).e s_0] = (pair_load m s_0).map w_pair_load := by
  rw [pair_load_pre]
  exact b_pair_load_map m (fun at_4 c0 out_3 => L_pair_load_l3_eq m m at_4 c0 out_3) s_0
noncomputable def K_pair_load (m : Nat) : KnownF C := mkK (dCons (dS of_State cells_State of_State_ok) dNil) (fun a => pair_load m a.1) w_pair_load
theorem K_pair_load_ok (m : Nat) : KnownAt C Try.prog 26 fun l => (K_pair_load m).run _ l some :=
  mkK_known good fit (Ψ_pair_load_ok m) (keep := keep) (m := m) (d := 1) fun a => pair_load_fun m a.1
/-! ### signalbench/pair.given -/
def w_pair_given (b : Event) : List (RV C) := [(dS of_Event cells_Event of_Event_ok).e b]
noncomputable def b_pair_given {R : Type} (m : Nat) (ret : Event → Option R) (x_0 : Pair_request) (to_1 : Int) (fault_2 : Int) : Option R :=
 ret (Event.mk 8 x_0.from_ to_1 x_0.tag_ 0 (bs []) fault_2)
theorem pair_given_pre (m : Nat) (x_0 : Pair_request) (to_1 : Int) (fault_2 : Int) : funK Try.prog Ψ0 keep m 1 27 [(dS of_Pair_request cells_Pair_request of_Pair_request_ok).e x_0, (dInt .i64).e to_1, (dInt .i64).e fault_2] = b_pair_given m (fun x0 => some (w_pair_given x0)) x_0 to_1 fault_2 := by kernel_rfl
theorem b_pair_given_map (m : Nat) (x_0 : Pair_request) (to_1 : Int) (fault_2 : Int) : b_pair_given m (fun x0 => some (w_pair_given x0)) x_0 to_1 fault_2 = (b_pair_given m (fun x0 => some x0) x_0 to_1 fault_2).map w_pair_given := by
  simp only [b_pair_given, cond_map, bind_map, map_none, map_some]
noncomputable def pair_given (m : Nat) (x_0 : Pair_request) (to_1 : Int) (fault_2 : Int) : Option (Event) := b_pair_given m (fun x0 => some x0) x_0 to_1 fault_2
theorem pair_given_fun (m : Nat) (x_0 : Pair_request) (to_1 : Int) (fault_2 : Int) : funK Try.prog Ψ0 keep m 1 27 [(dS of_Pair_request cells_Pair_request of_Pair_request_ok).e x_0, (dInt .i64).e to_1, (dInt .i64).e fault_2] = (pair_given m x_0 to_1 fault_2).map w_pair_given := by
  rw [pair_given_pre]
  exact b_pair_given_map m x_0 to_1 fault_2
noncomputable def K_pair_given (m : Nat) : KnownF C := mkK (dCons (dS of_Pair_request cells_Pair_request of_Pair_request_ok) (dCons (dInt .i64) (dCons (dInt .i64) dNil))) (fun a => pair_given m a.1 a.2.1 a.2.2.1) w_pair_given
theorem K_pair_given_ok (m : Nat) : KnownAt C Try.prog 27 fun l => (K_pair_given m).run _ l some :=
  mkK_known good fit Ψ0_ok (keep := keep) (m := m) (d := 1) fun a => pair_given_fun m a.1 a.2.1 a.2.2.1
/-! ### signalbench/octet.PutUint -/
def w_octet_PutUint (b : List Int) : List (RV C) := [(dRow 5).e b]
noncomputable def Q_octet_PutUint_2 (m : Nat) : St C → (Exit → St C → Option (List (RV C))) → Option (List (RV C)) := fun σ k => codeK Try.prog Ψ0 (callK Try.prog Ψ0 keep m 0) (keep 45) m (subC body45 [.r, .r, .l, .b, .o]) σ k
noncomputable def KL_octet_PutUint_2 (m : Nat) : Exit → St C → Option (List (RV C)) := contK Try.prog Ψ0 (callK Try.prog Ψ0 keep m 0) (keep 45) m body45 [.r, .r, .l, .b, .o] (leaveK Try.prog Try.f45.results.toList (finK Try.prog Try.f45.resultTypes.toList))
noncomputable def L_octet_PutUint_l2 (m n : Nat) (n_1 : Int) (b_0 : List Int) : Option (List (RV C)) := iterK (Q_octet_PutUint_2 m) (St.norm (keep 45 2)) n ({ T := [.fl (.one (.tsl 0)), .fl (.one (.int .u64 n_1))] ++ List.replicate 25 .dead, F := [[]], H := [.row 5 false b_0] } : St C) (KL_octet_PutUint_2 m)
noncomputable def L_octet_PutUint_l2s1 (m n : Nat) (n_1 : Int) (b_0 : List Int) : Option (List (RV C)) := iterK (Q_octet_PutUint_2 m) (St.norm (keep 45 2)) n ({ T := [.fl (.one (.sl 0)), .fl (.one (.int .u64 n_1))] ++ List.replicate 25 .dead, F := [[]], H := [.row 5 true b_0] } : St C) (KL_octet_PutUint_2 m)
noncomputable def b_octet_PutUint_l2s1 {R : Type} (m : Nat) (ret : List Int → Option R) (k_l2s1 : Int → List Int → Option R) (n_1 : Int) (b_0 : List Int) : Option R :=
 bif decide (n_1 ≥ 128) then
 bif decide ((b_0.length + 1) * 1 ≤ 140737488355328) then
 k_l2s1 (n_1.fdiv 128) (b_0 ++ [IntKind.u8.wrap (((BitVec.ofInt 8 (IntKind.u8.wrap (IntKind.u64.wrap (((BitVec.ofInt 64 n_1 &&& BitVec.ofInt 64 127).toNat : Int)))) ||| BitVec.ofInt 8 128).toNat : Int))])
 else
 none
 else
 bif decide ((b_0.length + 1) * 1 ≤ 140737488355328) then
 ret (b_0 ++ [IntKind.u8.wrap n_1])
 else
 none
theorem L_octet_PutUint_l2s1_step (m n : Nat) (n_1 : Int) (b_0 : List Int) : L_octet_PutUint_l2s1 m (n + 1) n_1 b_0 = b_octet_PutUint_l2s1 m (fun x0 => some (w_octet_PutUint x0)) (fun n_1 b_0 => L_octet_PutUint_l2s1 m n n_1 b_0) n_1 b_0 := by kernel_rfl
theorem b_octet_PutUint_l2s1_map (m : Nat) {k_l2s1 : Int → List Int → Option (List (RV C))} {q_l2s1 : Int → List Int → Option (List Int)} (h_l2s1 : ∀ n_1 b_0, k_l2s1 n_1 b_0 = (q_l2s1 n_1 b_0).map w_octet_PutUint) (n_1 : Int) (b_0 : List Int) : b_octet_PutUint_l2s1 m (fun x0 => some (w_octet_PutUint x0)) k_l2s1 n_1 b_0 = (b_octet_PutUint_l2s1 m (fun x0 => some x0) q_l2s1 n_1 b_0).map w_octet_PutUint := by
  simp only [b_octet_PutUint_l2s1, cond_map, bind_map, map_none, map_some, h_l2s1]
noncomputable def octet_PutUint_l2s1 (m : Nat) : Nat → Int → List Int → Option (List Int)
  | 0, _, _ => none
  | n + 1, n_1, b_0 => b_octet_PutUint_l2s1 m (fun x0 => some x0) (fun n_1 b_0 => octet_PutUint_l2s1 m n n_1 b_0) n_1 b_0
theorem L_octet_PutUint_l2s1_eq (m : Nat) : ∀ (n : Nat) (n_1 : Int) (b_0 : List Int), L_octet_PutUint_l2s1 m n n_1 b_0 = (octet_PutUint_l2s1 m n n_1 b_0).map w_octet_PutUint
  | 0, n_1, b_0 => by kernel_rfl
  | n + 1, n_1, b_0 => by
    rw [L_octet_PutUint_l2s1_step]
    exact b_octet_PutUint_l2s1_map m (fun n_1 b_0 => L_octet_PutUint_l2s1_eq m n n_1 b_0) n_1 b_0
noncomputable def b_octet_PutUint_l2 {R : Type} (m : Nat) (ret : List Int → Option R) (k_l2s1 : Int → List Int → Option R) (n_1 : Int) (b_0 : List Int) : Option R :=
 bif decide (n_1 ≥ 128) then
 bif decide ((b_0.length + 1) * 1 ≤ 140737488355328) then
 k_l2s1 (n_1.fdiv 128) (b_0 ++ [IntKind.u8.wrap (((BitVec.ofInt 8 (IntKind.u8.wrap (IntKind.u64.wrap (((BitVec.ofInt 64 n_1 &&& BitVec.ofInt 64 127).toNat : Int)))) ||| BitVec.ofInt 8 128).toNat : Int))])
 else
 none
 else
 bif decide ((b_0.length + 1) * 1 ≤ 140737488355328) then
 ret (b_0 ++ [IntKind.u8.wrap n_1])
 else
 none
theorem L_octet_PutUint_l2_step (m n : Nat) (n_1 : Int) (b_0 : List Int) : L_octet_PutUint_l2 m (n + 1) n_1 b_0 = b_octet_PutUint_l2 m (fun x0 => some (w_octet_PutUint x0)) (fun n_1 b_0 => L_octet_PutUint_l2s1 m n n_1 b_0) n_1 b_0 := by kernel_rfl
theorem b_octet_PutUint_l2_map (m : Nat) {k_l2s1 : Int → List Int → Option (List (RV C))} {q_l2s1 : Int → List Int → Option (List Int)} (h_l2s1 : ∀ n_1 b_0, k_l2s1 n_1 b_0 = (q_l2s1 n_1 b_0).map w_octet_PutUint) (n_1 : Int) (b_0 : List Int) : b_octet_PutUint_l2 m (fun x0 => some (w_octet_PutUint x0)) k_l2s1 n_1 b_0 = (b_octet_PutUint_l2 m (fun x0 => some x0) q_l2s1 n_1 b_0).map w_octet_PutUint := by
  simp only [b_octet_PutUint_l2, cond_map, bind_map, map_none, map_some, h_l2s1]
noncomputable def octet_PutUint_l2 (m : Nat) : Nat → Int → List Int → Option (List Int)
  | 0, _, _ => none
  | n + 1, n_1, b_0 => b_octet_PutUint_l2 m (fun x0 => some x0) (fun n_1 b_0 => octet_PutUint_l2s1 m n n_1 b_0) n_1 b_0
theorem L_octet_PutUint_l2_eq (m : Nat) : ∀ (n : Nat) (n_1 : Int) (b_0 : List Int), L_octet_PutUint_l2 m n n_1 b_0 = (octet_PutUint_l2 m n n_1 b_0).map w_octet_PutUint
  | 0, n_1, b_0 => by kernel_rfl
  | n + 1, n_1, b_0 => by
    rw [L_octet_PutUint_l2_step]
    exact b_octet_PutUint_l2_map m (fun n_1 b_0 => L_octet_PutUint_l2s1_eq m n n_1 b_0) n_1 b_0
noncomputable def b_octet_PutUint {R : Type} (m : Nat) (ret : List Int → Option R) (k_l2 : Int → List Int → Option R) (b_0 : List Int) (n_1 : Int) : Option R :=
 bif decide ((b_0.length : Int) ≤ (b_0.length : Int)) then
 bif decide ((b_0.length : Int) = (b_0.length : Int)) then
 k_l2 n_1 (List.drop 0 (List.take ((b_0.length : Int)).toNat b_0))
 else
 none
 else
 none
theorem octet_PutUint_pre (m : Nat) (b_0 : List Int) (n_1 : Int) : funK Try.prog Ψ0 keep m 1 45 [(dRow 5).e b_0, (dInt .u64).e n_1] = b_octet_PutUint m (fun x0 => some (w_octet_PutUint x0)) (fun n_1 b_0 => L_octet_PutUint_l2 m m n_1 b_0) b_0 n_1 := by kernel_rfl
theorem b_octet_PutUint_map (m : Nat) {k_l2 : Int → List Int → Option (List (RV C))} {q_l2 : Int → List Int → Option (List Int)} (h_l2 : ∀ n_1 b_0, k_l2 n_1 b_0 = (q_l2 n_1 b_0).map w_octet_PutUint) (b_0 : List Int) (n_1 : Int) : b_octet_PutUint m (fun x0 => some (w_octet_PutUint x0)) k_l2 b_0 n_1 = (b_octet_PutUint m (fun x0 => some x0) q_l2 b_0 n_1).map w_octet_PutUint := by
  simp only [b_octet_PutUint, cond_map, bind_map, map_none, map_some, h_l2]
noncomputable def octet_PutUint (m : Nat) (b_0 : List Int) (n_1 : Int) : Option (List Int) := b_octet_PutUint m (fun x0 => some x0) (fun n_1 b_0 => octet_PutUint_l2 m m n_1 b_0) b_0 n_1
theorem octet_PutUint_fun (m : Nat) (b_0 : List Int) (n_1 : Int) : funK Try.prog Ψ0 keep m 1 45 [(dRow 5).e b_0, (dInt .u64).e n_1] = (octet_PutUint m b_0 n_1).map w_octet_PutUint := by
  rw [octet_PutUint_pre]
  exact b_octet_PutUint_map m (fun n_1 b_0 => L_octet_PutUint_l2_eq m m n_1 b_0) b_0 n_1
noncomputable def K_octet_PutUint (m : Nat) : KnownF C := mkK (dCons (dRow 5) (dCons (dInt .u64) dNil)) (fun a => octet_PutUint m a.1 a.2.1) w_octet_PutUint
theorem K_octet_PutUint_ok (m : Nat) : KnownAt C Try.prog 45 fun l => (K_octet_PutUint m).run _ l some :=
  mkK_known good fit Ψ0_ok (keep := keep) (m := m) (d := 1) fun a => octet_PutUint_fun m a.1 a.2.1
/-! ### signalbench/octet.PutInt -/
noncomputable def Ψ_octet_PutInt (m : Nat) : Known C := fun f => match f with
  | 45 => some (K_octet_PutUint m)
  | _ => none
theorem Ψ_octet_PutInt_ok (m : Nat) : KnownOk C Try.prog (Ψ_octet_PutInt m) := by
  intro f φ h
  unfold Ψ_octet_PutInt at h
  split at h
  · injection h with h; subst h; exact K_octet_PutUint_ok m
  · cases h
def w_octet_PutInt (b : List Int) : List (RV C) := [(dRow 5).e b]
noncomputable def b_octet_PutInt {R : Type} (m : Nat) (ret : List Int → Option R) (b_0 : List Int) (n_1 : Int) : Option R :=
 bif decide (n_1 < 0) then
 ((octet_PutUint m b_0 (IntKind.u64.wrap (IntKind.u64.wrap (IntKind.u64.wrap (IntKind.i64.wrap (0 - IntKind.i64.wrap (n_1 + 1))) * 2) + 1))).bind fun r0 =>
 ret r0)
 else
 (octet_PutUint m b_0 (IntKind.u64.wrap (IntKind.u64.wrap n_1 * 2))).bind fun r1 =>
 ret r1
theorem octet_PutInt_pre (m : Nat) (b_0 : List Int) (n_1 : Int) : funK Try.prog (Ψ_octet_PutInt m) keep m 1 38 [(dRow 5).e b_0, (dInt .i64).e n_1] = b_octet_PutInt m (fun x0 => some (w_octet_PutInt x0)) b_0 n_1 := by kernel_rfl
theorem b_octet_PutInt_map (m : Nat) (b_0 : List Int) (n_1 : Int) : b_octet_PutInt m (fun x0 => some (w_octet_PutInt x0)) b_0 n_1 = (b_octet_PutInt m (fun x0 => some x0) b_0 n_1).map w_octet_PutInt := by
  simp only [b_octet_PutInt, cond_map, bind_map, map_none, map_some]
noncomputable def octet_PutInt (m : Nat) (b_0 : List Int) (n_1 : Int) : Option (List Int) := b_octet_PutInt m (fun x0 => some x0) b_0 n_1
theorem octet_PutInt_fun (m : Nat) (b_0 : List Int) (n_1 : Int) : funK Try.prog (Ψ_octet_PutInt m) keep m 1 38 [(dRow 5).e b_0, (dInt .i64).e n_1] = (octet_PutInt m b_0 n_1).map w_octet_PutInt := by
  rw [octet_PutInt_pre]
  exact b_octet_PutInt_map m b_0 n_1
noncomputable def K_octet_PutInt (m : Nat) : KnownF C := mkK (dCons (dRow 5) (dCons (dInt .i64) dNil)) (fun a => octet_PutInt m a.1 a.2.1) w_octet_PutInt
theorem K_octet_PutInt_ok (m : Nat) : KnownAt C Try.prog 38 fun l => (K_octet_PutInt m).run _ l some :=
  mkK_known good fit (Ψ_octet_PutInt_ok m) (keep := keep) (m := m) (d := 1) fun a => octet_PutInt_fun m a.1 a.2.1
/-! ### signalbench/pair.store -/
noncomputable def Ψ_pair_store (m : Nat) : Known C := fun f => match f with
  | 38 => some (K_octet_PutInt m)
  | _ => none
theorem Ψ_pair_store_ok (m : Nat) : KnownOk C Try.prog (Ψ_pair_store m) := by
  intro f φ h
  unfold Ψ_pair_store at h
  split at h
  · injection h with h; subst h; exact K_octet_PutInt_ok m
  · cases h
def w_pair_store (b : State) : List (RV C) := [(dS of_State cells_State of_State_ok).e b]
noncomputable def Q_pair_store_3 (m : Nat) : St C → (Exit → St C → Option (List (RV C))) → Option (List (RV C)) := fun σ k => codeK Try.prog (Ψ_pair_store m) (callK Try.prog (Ψ_pair_store m) keep m 0) (keep 28) m (subC body28 [.r, .r, .l, .r, .b, .o]) σ k
noncomputable def KL_pair_store_3 (m : Nat) : Exit → St C → Option (List (RV C)) := contK Try.prog (Ψ_pair_store m) (callK Try.prog (Ψ_pair_store m) keep m 0) (keep 28) m body28 [.r, .r, .l, .r, .b, .o] (leaveK Try.prog Try.f28.results.toList (finK Try.prog Try.f28.resultTypes.toList))
noncomputable def L_pair_store_l3 (m n : Nat) (t9 : Int) (t10 : Int) (c0 : State) (c1 : State) (b_5 : List Int) (t8 : List Pair_request) : Option (List (RV C)) := iterK (Q_pair_store_3 m) (St.norm (keep 28 3)) n ({ T := [.dead, .dead, .fl (.one (.ptr 0 0)), .dead, .fl (.one (.ptr 1 0)), .fl (.one (.sl 2)), .dead, .dead, .fl (.one (.sl 3)), .fl (.one (.int .i64 t9)), .fl (.one (.int .i64 t10))] ++ List.replicate 18 .dead, F := [[]], H := [.box 27 (cells_State c0), .box 27 (cells_State c1), .row 5 true b_5, .row 57 false t8] } : St C) (KL_pair_store_3 m)
noncomputable def b_pair_store_l3 {R : Type} (m : Nat) (ret : State → Option R) (k_l3 : Int → Int → State → State → List Int → List Pair_request → Option R) (t9 : Int) (t10 : Int) (c0 : State) (c1 : State) (b_5 : List Int) (t8 : List Pair_request) : Option R :=
 bif decide (t10 < t9) then
 (bif decide (0 ≤ t10) then
 (bif decide (t10 < (t8.length : Int)) then
 ((octet_PutInt m b_5 (t8.getD t10.toNat dflt_Pair_request).tag_).bind fun r0 =>
 (octet_PutInt m r0 (t8.getD t10.toNat dflt_Pair_request).from_).bind fun r1 =>
 (octet_PutInt m r1 (t8.getD t10.toNat dflt_Pair_request).to_).bind fun r2 =>
 k_l3 t9 (IntKind.i64.wrap (t10 + 1)) c0 c1 r2 t8)
 else
 none)
 else
 none)
 else
 ret { c0 with Data := toBytes b_5 }
theorem L_pair_store_l3_step (m n : Nat) (t9 : Int) (t10 : Int) (c0 : State) (c1 : State) (b_5 : List Int) (t8 : List Pair_request) : L_pair_store_l3 m (n + 1) t9 t10 c0 c1 b_5 t8 = b_pair_store_l3 m (fun x0 => some (w_pair_store x0)) (fun t9 t10 c0 c1 b_5 t8 => L_pair_store_l3 m n t9 t10 c0 c1 b_5 t8) t9 t10 c0 c1 b_5 t8 := by kernel_rfl
theorem b_pair_store_l3_map (m : Nat) {k_l3 : Int → Int → State → State → List Int → List Pair_request → Option (List (RV C))} {q_l3 : Int → Int → State → State → List Int → List Pair_request → Option (State)} (h_l3 : ∀ t9 t10 c0 c1 b_5 t8, k_l3 t9 t10 c0 c1 b_5 t8 = (q_l3 t9 t10 c0 c1 b_5 t8).map w_pair_store) (t9 : Int) (t10 : Int) (c0 : State) (c1 : State) (b_5 : List Int) (t8 : List Pair_request) : b_pair_store_l3 m (fun x0 => some (w_pair_store x0)) k_l3 t9 t10 c0 c1 b_5 t8 = (b_pair_store_l3 m (fun x0 => some x0) q_l3 t9 t10 c0 c1 b_5 t8).map w_pair_store := by
  simp only [b_pair_store_l3, cond_map, bind_map, map_none, map_some, h_l3]
noncomputable def pair_store_l3 (m : Nat) : Nat → Int → Int → State → State → List Int → List Pair_request → Option (State)
  | 0, _, _, _, _, _, _ => none
  | n + 1, t9, t10, c0, c1, b_5, t8 => b_pair_store_l3 m (fun x0 => some x0) (fun t9 t10 c0 c1 b_5 t8 => pair_store_l3 m n t9 t10 c0 c1 b_5 t8) t9 t10 c0 c1 b_5 t8
theorem L_pair_store_l3_eq (m : Nat) : ∀ (n : Nat) (t9 : Int) (t10 : Int) (c0 : State) (c1 : State) (b_5 : List Int) (t8 : List Pair_request), L_pair_store_l3 m n t9 t10 c0 c1 b_5 t8 = (pair_store_l3 m n t9 t10 c0 c1 b_5 t8).map w_pair_store
  | 0, t9, t10, c0, c1, b_5, t8 => by kernel_rfl
  | n + 1, t9, t10, c0, c1, b_5, t8 => by
    rw [L_pair_store_l3_step]
    exact b_pair_store_l3_map m (fun t9 t10 c0 c1 b_5 t8 => L_pair_store_l3_eq m n t9 t10 c0 c1 b_5 t8) t9 t10 c0 c1 b_5 t8
noncomputable def b_pair_store {R : Type} (m : Nat) (ret : State → Option R) (k_l3 : Int → Int → State → State → List Int → List Pair_request → Option R) (s_0 : State) (l_1 : List Pair_request) : Option R :=
 k_l3 (l_1.length : Int) 0 s_0 (State.mk 0 0 0 0 0 0 0 (bs [])) [] l_1
theorem pair_store_pre (m : Nat) (s_0 : State) (l_1 : List Pair_request) : funK Try.prog (Ψ_pair_store m) keep m 1 28 [(dS of_State cells_State of_State_ok).e s_0, (dRow 57).e l_1] = b_pair_store m (fun x0 => some (w_pair_store x0)) (fun t9 t10 c0 c1 b_5 t8 => L_pair_store_l3 m m t9 t10 c0 c1 b_5 t8) s_0 l_1 := by kernel_rfl
theorem b_pair_store_map (m : Nat) {k_l3 : Int → Int → State → State → List Int → List Pair_request → Option (List (RV C))} {q_l3 : Int → Int → State → State → List Int → List Pair_request → Option (State)} (h_l3 : ∀ t9 t10 c0 c1 b_5 t8, k_l3 t9 t10 c0 c1 b_5 t8 = (q_l3 t9 t10 c0 c1 b_5 t8).map w_pair_store) (s_0 : State) (l_1 : List Pair_request) : b_pair_store m (fun x0 => some (w_pair_store x0)) k_l3 s_0 l_1 = (b_pair_store m (fun x0 => some x0) q_l3 s_0 l_1).map w_pair_store := by
  simp only [b_pair_store, cond_map, bind_map, map_none, map_some, h_l3]
noncomputable def pair_store (m : Nat) (s_0 : State) (l_1 : List Pair_request) : Option (State) := b_pair_store m (fun x0 => some x0) (fun t9 t10 c0 c1 b_5 t8 => pair_store_l3 m m t9 t10 c0 c1 b_5 t8) s_0 l_1
theorem pair_store_fun (m : Nat) (s_0 : State) (l_1 : List Pair_request) : funK Try.prog (Ψ_pair_store m) keep m 1 28 [(dS of_State cells_State of_State_ok).e s_0, (dRow 57).e l_1] = (pair_store m s_0 l_1).map w_pair_store := by
  rw [pair_store_pre]
  exact b_pair_store_map m (fun t9 t10 c0 c1 b_5 t8 => L_pair_store_l3_eq m m t9 t10 c0 c1 b_5 t8) s_0 l_1
noncomputable def K_pair_store (m : Nat) : KnownF C := mkK (dCons (dS of_State cells_State of_State_ok) (dCons (dRow 57) dNil)) (fun a => pair_store m a.1 a.2.1) w_pair_store
theorem K_pair_store_ok (m : Nat) : KnownAt C Try.prog 28 fun l => (K_pair_store m).run _ l some :=
  mkK_known good fit (Ψ_pair_store_ok m) (keep := keep) (m := m) (d := 1) fun a => pair_store_fun m a.1 a.2.1
/-! ### signalbench/pair.drop -/
def w_pair_drop (b : List Pair_request × Pair_request × Bool) : List (RV C) := [(dRow 57).e b.1, (dS of_Pair_request cells_Pair_request of_Pair_request_ok).e b.2.1, dBool.e b.2.2]
noncomputable def Q_pair_drop_3 (m : Nat) : St C → (Exit → St C → Option (List (RV C))) → Option (List (RV C)) := fun σ k => codeK Try.prog Ψ0 (callK Try.prog Ψ0 keep m 0) (keep 39) m (subC body39 [.r, .r, .l, .r, .b, .o]) σ k
noncomputable def KL_pair_drop_3 (m : Nat) : Exit → St C → Option (List (RV C)) := contK Try.prog Ψ0 (callK Try.prog Ψ0 keep m 0) (keep 39) m body39 [.r, .r, .l, .r, .b, .o] (leaveK Try.prog Try.f39.results.toList (finK Try.prog Try.f39.resultTypes.toList))
noncomputable def Q_pair_drop_11 (m : Nat) : St C → (Exit → St C → Option (List (RV C))) → Option (List (RV C)) := fun σ k => codeK Try.prog Ψ0 (callK Try.prog Ψ0 keep m 0) (keep 39) m (subC body39 [.r, .r, .r, .r, .r, .r, .l, .r, .b, .o]) σ k
noncomputable def KL_pair_drop_11 (m : Nat) : Exit → St C → Option (List (RV C)) := contK Try.prog Ψ0 (callK Try.prog Ψ0 keep m 0) (keep 39) m body39 [.r, .r, .r, .r, .r, .r, .l, .r, .b, .o] (leaveK Try.prog Try.f39.results.toList (finK Try.prog Try.f39.resultTypes.toList))
noncomputable def L_pair_drop_l3 (m n : Nat) (tag_1 : Int) (t19 : Int) (t20 : Int) (l_0 : List Pair_request) (c1 : Pair_request) (open_7 : List (Int × Pair_request)) : Option (List (RV C)) := iterK (Q_pair_drop_3 m) (St.norm (keep 39 3)) n ({ T := [.fl (.one (.sl 0)), .fl (.one (.int .i64 tag_1)), .dead, .dead, .dead, .fl (.one (.ptr 1 0)), .dead, .fl (.one (.mp 2)), .dead, .dead, .dead, .dead, .dead, .dead, .dead, .dead, .dead, .dead, .fl (.one (.sl 0)), .fl (.one (.int .i64 t19)), .fl (.one (.int .i64 t20))] ++ List.replicate 38 .dead, F := [[]], H := [.row 57 false l_0, .box 57 (cells_Pair_request c1), .tab 57 open_7] } : St C) (KL_pair_drop_3 m)
noncomputable def L_pair_drop_l11 (m n : Nat) (ok_11 : Bool) (t38 : Int) (t39 : Int) (c0 : Pair_request) (open_7 : List (Int × Pair_request)) (c2 : Pair_request) (out_12 : List Pair_request) (t37 : List Pair_request) : Option (List (RV C)) := iterK (Q_pair_drop_11 m) (St.norm (keep 39 11)) n ({ T := [.dead, .dead, .dead, .dead, .dead, .fl (.one (.ptr 0 0)), .dead, .fl (.one (.mp 1)), .dead, .dead, .fl (.one (.ptr 2 0)), .fl (.one (.bool ok_11)), .fl (.one (.sl 3)), .dead, .dead, .dead, .dead, .dead, .dead, .dead, .dead, .dead, .dead, .dead, .dead, .dead, .dead, .dead, .dead, .dead, .dead, .dead, .dead, .dead, .dead, .dead, .dead, .fl (.one (.sl 4)), .fl (.one (.int .i64 t38)), .fl (.one (.int .i64 t39))] ++ List.replicate 19 .dead, F := [[]], H := [.box 57 (cells_Pair_request c0), .tab 57 open_7, .box 57 (cells_Pair_request c2), .row 57 true out_12, .row 57 false t37] } : St C) (KL_pair_drop_11 m)
noncomputable def b_pair_drop_l11 {R : Type} (m : Nat) (ret : List Pair_request → Pair_request → Bool → Option R) (k_l11 : Bool → Int → Int → Pair_request → List (Int × Pair_request) → Pair_request → List Pair_request → List Pair_request → Option R) (ok_11 : Bool) (t38 : Int) (t39 : Int) (c0 : Pair_request) (open_7 : List (Int × Pair_request)) (c2 : Pair_request) (out_12 : List Pair_request) (t37 : List Pair_request) : Option R :=
 bif decide (t39 < t38) then
 bif decide (0 ≤ t39) then
 bif decide (t39 < (t37.length : Int)) then
 bif mhas (t37.getD t39.toNat dflt_Pair_request).tag_ open_7 then
 bif decide ((out_12.length + 1) * 24 ≤ 140737488355328) then
 k_l11 ok_11 t38 (IntKind.i64.wrap (t39 + 1)) c0 open_7 c2 (out_12 ++ [t37.getD t39.toNat dflt_Pair_request]) t37
 else
 none
 else
 k_l11 ok_11 t38 (IntKind.i64.wrap (t39 + 1)) c0 open_7 c2 out_12 t37
 else
 none
 else
 none
 else
 ret out_12 c2 ok_11
theorem L_pair_drop_l11_step (m n : Nat) (ok_11 : Bool) (t38 : Int) (t39 : Int) (c0 : Pair_request) (open_7 : List (Int × Pair_request)) (c2 : Pair_request) (out_12 : List Pair_request) (t37 : List Pair_request) : L_pair_drop_l11 m (n + 1) ok_11 t38 t39 c0 open_7 c2 out_12 t37 = b_pair_drop_l11 m (fun x0 x1 x2 => some (w_pair_drop (x0, x1, x2))) (fun ok_11 t38 t39 c0 open_7 c2 out_12 t37 => L_pair_drop_l11 m n ok_11 t38 t39 c0 open_7 c2 out_12 t37) ok_11 t38 t39 c0 open_7 c2 out_12 t37 := by kernel_rfl
theorem b_pair_drop_l11_map (m : Nat) {k_l11 : Bool → Int → Int → Pair_request → List (Int × Pair_request) → Pair_request → List Pair_request → List Pair_request → Option (List (RV C))} {q_l11 : Bool → Int → Int → Pair_request → List (Int × Pair_request) → Pair_request → List Pair_request → List Pair_request → Option (List Pair_request × Pair_request × Bool)} (h_l11 : ∀ ok_11 t38 t39 c0 open_7 c2 out_12 t37, k_l11 ok_11 t38 t39 c0 open_7 c2 out_12 t37 = (q_l11 ok_11 t38 t39 c0 open_7 c2 out_12 t37).map w_pair_drop) (ok_11 : Bool) (t38 : Int) (t39 : Int) (c0 : Pair_request) (open_7 : List (Int × Pair_request)) (c2 : Pair_request) (out_12 : List Pair_request) (t37 : List Pair_request) : b_pair_drop_l11 m (fun x0 x1 x2 => some (w_pair_drop (x0, x1, x2))) k_l11 ok_11 t38 t39 c0 open_7 c2 out_12 t37 = (b_pair_drop_l11 m (fun x0 x1 x2 => some (x0, x1, x2)) q_l11 ok_11 t38 t39 c0 open_7 c2 out_12 t37).map w_pair_drop := by
  simp only [b_pair_drop_l11, cond_map, bind_map, map_none, map_some, h_l11]
noncomputable def pair_drop_l11 (m : Nat) : Nat → Bool → Int → Int → Pair_request → List (Int × Pair_request) → Pair_request → List Pair_request → List Pair_request → Option (List Pair_request × Pair_request × Bool)
  | 0, _, _, _, _, _, _, _, _ => none
  | n + 1, ok_11, t38, t39, c0, open_7, c2, out_12, t37 => b_pair_drop_l11 m (fun x0 x1 x2 => some (x0, x1, x2)) (fun ok_11 t38 t39 c0 open_7 c2 out_12 t37 => pair_drop_l11 m n ok_11 t38 t39 c0 open_7 c2 out_12 t37) ok_11 t38 t39 c0 open_7 c2 out_12 t37
theorem L_pair_drop_l11_eq (m : Nat) : ∀ (n : Nat) (ok_11 : Bool) (t38 : Int) (t39 : Int) (c0 : Pair_request) (open_7 : List (Int × Pair_request)) (c2 : Pair_request) (out_12 : List Pair_request) (t37 : List Pair_request), L_pair_drop_l11 m n ok_11 t38 t39 c0 open_7 c2 out_12 t37 = (pair_drop_l11 m n ok_11 t38 t39 c0 open_7 c2 out_12 t37).map w_pair_drop
  | 0, ok_11, t38, t39, c0, open_7, c2, out_12, t37 => by kernel_rfl
  | n + 1, ok_11, t38, t39, c0, open_7, c2, out_12, t37 => by
    rw [L_pair_drop_l11_step]
    exact b_pair_drop_l11_map m (fun ok_11 t38 t39 c0 open_7 c2 out_12 t37 => L_pair_drop_l11_eq m n ok_11 t38 t39 c0 open_7 c2 out_12 t37) ok_11 t38 t39 c0 open_7 c2 out_12 t37
noncomputable def b_pair_drop_l3 {R : Type} (m : Nat) (ret : List Pair_request → Pair_request → Bool → Option R) (k_l3 : Int → Int → Int → List Pair_request → Pair_request → List (Int × Pair_request) → Option R) (k_l11 : Bool → Int → Int → Pair_request → List (Int × Pair_request) → Pair_request → List Pair_request → List Pair_request → Option R) (tag_1 : Int) (t19 : Int) (t20 : Int) (l_0 : List Pair_request) (c1 : Pair_request) (open_7 : List (Int × Pair_request)) : Option R :=
 bif decide (t20 < t19) then
 bif decide (0 ≤ t20) then
 bif decide (t20 < (l_0.length : Int)) then
 k_l3 tag_1 t19 (IntKind.i64.wrap (t20 + 1)) l_0 c1 (mput (l_0.getD t20.toNat dflt_Pair_request).tag_ (l_0.getD t20.toNat dflt_Pair_request) open_7)
 else
 none
 else
 none
 else
 k_l11 (mhas tag_1 open_7) (l_0.length : Int) 0 c1 (mdel tag_1 open_7) (mget (Pair_request.mk 0 0 0) tag_1 open_7) [] l_0
theorem L_pair_drop_l3_step (m n : Nat) (tag_1 : Int) (t19 : Int) (t20 : Int) (l_0 : List Pair_request) (c1 : Pair_request) (open_7 : List (Int × Pair_request)) : L_pair_drop_l3 m (n + 1) tag_1 t19 t20 l_0 c1 open_7 = b_pair_drop_l3 m (fun x0 x1 x2 => some (w_pair_drop (x0, x1, x2))) (fun tag_1 t19 t20 l_0 c1 open_7 => L_pair_drop_l3 m n tag_1 t19 t20 l_0 c1 open_7) (fun ok_11 t38 t39 c0 open_7 c2 out_12 t37 => L_pair_drop_l11 m m ok_11 t38 t39 c0 open_7 c2 out_12 t37) tag_1 t19 t20 l_0 c1 open_7 := by kernel_rfl
theorem b_pair_drop_l3_map (m : Nat) {k_l3 : Int → Int → Int → List Pair_request → Pair_request → List (Int × Pair_request) → Option (List (RV C))} {q_l3 : Int → Int → Int → List Pair_request → Pair_request → List (Int × Pair_request) → Option (List Pair_request × Pair_request × Bool)} (h_l3 : ∀ tag_1 t19 t20 l_0 c1 open_7, k_l3 tag_1 t19 t20 l_0 c1 open_7 = (q_l3 tag_1 t19 t20 l_0 c1 open_7).map w_pair_drop) {k_l11 : Bool → Int → Int → Pair_request → List (Int × Pair_request) → Pair_request → List Pair_request → List Pair_request → Option (List (RV C))} {q_l11 : Bool → Int → Int → Pair_request → List (Int × Pair_request) → Pair_request → List Pair_request → List Pair_request → Option (List Pair_request × Pair_request × Bool)} (h_l11 : ∀ ok_11 t38 t39 c0 open_7 c2 out_12 t37, k_l11 ok_11 t38 t39 c0 open_7 c2 out_12 t37 = (q_l11 ok_11 t38 t39 c0 open_7 c2 out_12 t37).map w_pair_drop) (tag_1 : Int) (t19 : Int) (t20 : Int) (l_0 : List Pair_request) (c1 : Pair_request) (open_7 : List (Int × Pair_request)) : b_pair_drop_l3 m (fun x0 x1 x2 => some (w_pair_drop (x0, x1, x2))) k_l3 k_l11 tag_1 t19 t20 l_0 c1 open_7 = (b_pair_drop_l3 m (fun x0 x1 x2 => some (x0, x1, x2)) q_l3 q_l11 tag_1 t19 t20 l_0 c1 open_7).map w_pair_drop := by
  simp only [b_pair_drop_l3, cond_map, bind_map, map_none, map_some, h_l3, h_l11]
noncomputable def pair_drop_l3 (m : Nat) : Nat → Int → Int → Int → List Pair_request → Pair_request → List (Int × Pair_request) → Option (List Pair_request × Pair_request × Bool)
  | 0, _, _, _, _, _, _ => none
  | n + 1, tag_1, t19, t20, l_0, c1, open_7 => b_pair_drop_l3 m (fun x0 x1 x2 => some (x0, x1, x2)) (fun tag_1 t19 t20 l_0 c1 open_7 => pair_drop_l3 m n tag_1 t19 t20 l_0 c1 open_7) (fun ok_11 t38 t39 c0 open_7 c2 out_12 t37 => pair_drop_l11 m m ok_11 t38 t39 c0 open_7 c2 out_12 t37) tag_1 t19 t20 l_0 c1 open_7
theorem L_pair_drop_l3_eq (m : Nat) : ∀ (n : Nat) (tag_1 : Int) (t19 : Int) (t20 : Int) (l_0 : List Pair_request) (c1 : Pair_request) (open_7 : List (Int × Pair_request)), L_pair_drop_l3 m n tag_1 t19 t20 l_0 c1 open_7 = (pair_drop_l3 m n tag_1 t19 t20 l_0 c1 open_7).map w_pair_drop
  | 0, tag_1, t19, t20, l_0, c1, open_7 => by kernel_rfl
  | n + 1, tag_1, t19, t20, l_0, c1, open_7 => by
    rw [L_pair_drop_l3_step]
    exact b_pair_drop_l3_map m (fun tag_1 t19 t20 l_0 c1 open_7 => L_pair_drop_l3_eq m n tag_1 t19 t20 l_0 c1 open_7) (fun ok_11 t38 t39 c0 open_7 c2 out_12 t37 => L_pair_drop_l11_eq m m ok_11 t38 t39 c0 open_7 c2 out_12 t37) tag_1 t19 t20 l_0 c1 open_7
noncomputable def b_pair_drop {R : Type} (m : Nat) (ret : List Pair_request → Pair_request → Bool → Option R) (k_l3 : Int → Int → Int → List Pair_request → Pair_request → List (Int × Pair_request) → Option R) (l_0 : List Pair_request) (tag_1 : Int) : Option R :=
 k_l3 tag_1 (l_0.length : Int) 0 l_0 (Pair_request.mk 0 0 0) []
theorem pair_drop_pre (m : Nat) (l_0 : List Pair_request) (tag_1 : Int) : funK Try.prog Ψ0 keep m 1 39 [(dRow 57).e l_0, (dInt .i64).e tag_1] = b_pair_drop m (fun x0 x1 x2 => some (w_pair_drop (x0, x1, x2))) (fun tag_1 t19 t20 l_0 c1 open_7 => L_pair_drop_l3 m m tag_1 t19 t20 l_0 c1 open_7) l_0 tag_1 := by kernel_rfl
theorem b_pair_drop_map (m : Nat) {k_l3 : Int → Int → Int → List Pair_request → Pair_request → List (Int × Pair_request) → Option (List (RV C))} {q_l3 : Int → Int → Int → List Pair_request → Pair_request → List (Int × Pair_request) → Option (List Pair_request × Pair_request × Bool)} (h_l3 : ∀ tag_1 t19 t20 l_0 c1 open_7, k_l3 tag_1 t19 t20 l_0 c1 open_7 = (q_l3 tag_1 t19 t20 l_0 c1 open_7).map w_pair_drop) (l_0 : List Pair_request) (tag_1 : Int) : b_pair_drop m (fun x0 x1 x2 => some (w_pair_drop (x0, x1, x2))) k_l3 l_0 tag_1 = (b_pair_drop m (fun x0 x1 x2 => some (x0, x1, x2)) q_l3 l_0 tag_1).map w_pair_drop := by
  simp only [b_pair_drop, cond_map, bind_map, map_none, map_some, h_l3]
noncomputable def pair_drop (m : Nat) (l_0 : List Pair_request) (tag_1 : Int) : Option (List Pair_request × Pair_request × Bool) := b_pair_drop m (fun x0 x1 x2 => some (x0, x1, x2)) (fun tag_1 t19 t20 l_0 c1 open_7 => pair_drop_l3 m m tag_1 t19 t20 l_0 c1 open_7) l_0 tag_1
theorem pair_drop_fun (m : Nat) (l_0 : List Pair_request) (tag_1 : Int) : funK Try.prog Ψ0 keep m 1 39 [(dRow 57).e l_0, (dInt .i64).e tag_1] = (pair_drop m l_0 tag_1).map w_pair_drop := by
  rw [pair_drop_pre]
  exact b_pair_drop_map m (fun tag_1 t19 t20 l_0 c1 open_7 => L_pair_drop_l3_eq m m tag_1 t19 t20 l_0 c1 open_7) l_0 tag_1
noncomputable def K_pair_drop (m : Nat) : KnownF C := mkK (dCons (dRow 57) (dCons (dInt .i64) dNil)) (fun a => pair_drop m a.1 a.2.1) w_pair_drop
theorem K_pair_drop_ok (m : Nat) : KnownAt C Try.prog 39 fun l => (K_pair_drop m).run _ l some :=
  mkK_known good fit Ψ0_ok (keep := keep) (m := m) (d := 1) fun a => pair_drop_fun m a.1 a.2.1
/-! ### signalbench/pair.packet -/
noncomputable def Ψ_pair_packet (m : Nat) : Known C := fun f => match f with
  | 39 => some (K_pair_drop m)
  | 27 => some (K_pair_given m)
  | _ => none
theorem Ψ_pair_packet_ok (m : Nat) : KnownOk C Try.prog (Ψ_pair_packet m) := by
  intro f φ h
  unfold Ψ_pair_packet at h
  split at h
  · injection h with h; subst h; exact K_pair_drop_ok m
  · injection h with h; subst h; exact K_pair_given_ok m
  · cases h
def w_pair_packet (b : List Pair_request × List Event) : List (RV C) := [(dRow 57).e b.1, (dRow 32).e b.2]
noncomputable def b_pair_packet {R : Type} (m : Nat) (ret : List Pair_request → List Event → Option R) (l_0 : List Pair_request) (e_1 : Event) : Option R :=
 bif e_1.Data.toList == (bs []).toList then
 ret l_0 ([Event.mk 8 e_1.From e_1.To 0 0 (bs []) 8])
 else
 bif decide (0 < (e_1.Data.size : Int)) then
 ((pair_drop m l_0 (IntKind.i64.wrap (IntKind.u8.wrap (((BitVec.ofInt 8 (byteAt e_1.Data 0) &&& BitVec.ofInt 8 127).toNat : Int))))).bind fun r0 =>
 bif decide (0 < (e_1.Data.size : Int)) then
 bif decide (byteAt e_1.Data 0 < 128) then
 bif r0.snd.snd then
 bif decide ((r0.fst.length + 1) * 24 ≤ 140737488355328) then
 ret (r0.fst ++ [Pair_request.mk (IntKind.i64.wrap (IntKind.u8.wrap (((BitVec.ofInt 8 (byteAt e_1.Data 0) &&& BitVec.ofInt 8 127).toNat : Int)))) e_1.From e_1.To]) ([Event.mk 8 r0.snd.fst.from_ e_1.From r0.snd.fst.tag_ 0 (bs []) 7])
 else
 none
 else
 bif decide ((r0.fst.length + 1) * 24 ≤ 140737488355328) then
 ret (r0.fst ++ [Pair_request.mk (IntKind.i64.wrap (IntKind.u8.wrap (((BitVec.ofInt 8 (byteAt e_1.Data 0) &&& BitVec.ofInt 8 127).toNat : Int)))) e_1.From e_1.To]) []
 else
 none
 else
 bif !r0.snd.snd then
 bif decide ((e_1.Data.size : Int) ≤ (e_1.Data.size : Int)) then
 bif decide (1 ≤ (e_1.Data.size : Int)) then
 ret l_0 ([Event.mk 8 e_1.From e_1.To (IntKind.i64.wrap (IntKind.u8.wrap (((BitVec.ofInt 8 (byteAt e_1.Data 0) &&& BitVec.ofInt 8 127).toNat : Int)))) 0 (e_1.Data.extract 1 ((e_1.Data.size : Int)).toNat) 12])
 else
 none
 else
 none
 else
 bif decide ((e_1.Data.size : Int) ≤ (e_1.Data.size : Int)) then
 bif decide (1 ≤ (e_1.Data.size : Int)) then
 ret r0.fst ([Event.mk 8 r0.snd.fst.from_ (if r0.snd.fst.to_ < e_1.To then e_1.To else r0.snd.fst.to_) (IntKind.i64.wrap (IntKind.u8.wrap (((BitVec.ofInt 8 (byteAt e_1.Data 0) &&& BitVec.ofInt 8 127).toNat : Int)))) (IntKind.i64.wrap (e_1.From - r0.snd.fst.to_)) (e_1.Data.extract 1 ((e_1.Data.size : Int)).toNat) 0])
 else
 none
 else
 none
 else
 none)
 else
 none
theorem pair_packet_pre (m : Nat) (l_0 : List Pair_request) (e_1 : Event) : funE Try.prog (Ψ_pair_packet m) keep m 1 29 [.row, .no] [(dRow 57).e l_0, (dS of_Event cells_Event of_Event_ok).e e_1] = b_pair_packet m (fun x0 x1 => some (w_pair_packet (x0, x1))) l_0 e_1 := by kernel_rfl
theorem b_pair_packet_map (m : Nat) (l_0 : List Pair_request) (e_1 : Event) : b_pair_packet m (fun x0 x1 => some (w_pair_packet (x0, x1))) l_0 e_1 = (b_pair_packet m (fun x0 x1 => some (x0, x1)) l_0 e_1).map w_pair_packet := by
  simp only [b_pair_packet, cond_map, bind_map, map_none, map_some]
noncomputable def pair_packet (m : Nat) (l_0 : List Pair_request) (e_1 : Event) : Option (List Pair_request × List Event) := b_pair_packet m (fun x0 x1 => some (x0, x1)) l_0 e_1
theorem pair_packet_fun (m : Nat) (l_0 : List Pair_request) (e_1 : Event) : funE Try.prog (Ψ_pair_packet m) keep m 1 29 [.row, .no] [(dRow 57).e l_0, (dS of_Event cells_Event of_Event_ok).e e_1] = (pair_packet m l_0 e_1).map w_pair_packet := by
  rw [pair_packet_pre]
  exact b_pair_packet_map m l_0 e_1
noncomputable def K_pair_packet (m : Nat) : KnownF C := mkE [.row, .no] (dCons (dRow 57) (dCons (dS of_Event cells_Event of_Event_ok) dNil)) (fun a => pair_packet m a.1 a.2.1) w_pair_packet
theorem K_pair_packet_ok (m : Nat) : KnownAtE C Try.prog 29 [.row, .no] fun l => (K_pair_packet m).run _ l some :=
  mkE_known good fit (Ψ_pair_packet_ok m) (keep := keep) (m := m) (d := 1) fun a => pair_packet_fun m a.1 a.2.1
/-! ### signalbench/pair.Step -/
noncomputable def Ψ_pair_Step (m : Nat) : Known C := fun f => match f with
  | 14 => some (K_pair_Check m)
  | 25 => some (K_pair_accepts m)
  | 26 => some (K_pair_load m)
  | 27 => some (K_pair_given m)
  | 28 => some (K_pair_store m)
  | 29 => some (K_pair_packet m)
  | _ => none
theorem Ψ_pair_Step_ok (m : Nat) : KnownOk C Try.prog (Ψ_pair_Step m) := by
  intro f φ h
  unfold Ψ_pair_Step at h
  split at h
  · injection h with h; subst h; exact K_pair_Check_ok m
  · injection h with h; subst h; exact K_pair_accepts_ok m
  · injection h with h; subst h; exact K_pair_load_ok m
  · injection h with h; subst h; exact K_pair_given_ok m
  · injection h with h; subst h; exact K_pair_store_ok m
  · injection h with h; subst h; exact K_pair_packet_ok m
  · cases h
def w_pair_Step (b : State × List Event) : List (RV C) := [(dS of_State cells_State of_State_ok).e b.1, (dRow 32).e b.2]
noncomputable def Q_pair_Step_7 (m : Nat) : St C → (Exit → St C → Option (List (RV C))) → Option (List (RV C)) := fun σ k => codeK Try.prog (Ψ_pair_Step m) (callK Try.prog (Ψ_pair_Step m) keep m 0) (keep 11) m (subC body11 [.r, .r, .r, .r, .r, .l, .r, .b, .o]) σ k
noncomputable def KL_pair_Step_7 (m : Nat) : Exit → St C → Option (List (RV C)) := contK Try.prog (Ψ_pair_Step m) (callK Try.prog (Ψ_pair_Step m) keep m 0) (keep 11) m body11 [.r, .r, .r, .r, .r, .l, .r, .b, .o] (leaveK Try.prog Try.f11.results.toList (finK Try.prog Try.f11.resultTypes.toList))
noncomputable def Q_pair_Step_15 (m : Nat) : St C → (Exit → St C → Option (List (RV C))) → Option (List (RV C)) := fun σ k => codeK Try.prog (Ψ_pair_Step m) (callK Try.prog (Ψ_pair_Step m) keep m 0) (keep 11) m (subC body11 [.r, .r, .r, .r, .r, .r, .l, .r, .l, .l, .r, .b, .o]) σ k
noncomputable def KL_pair_Step_15 (m : Nat) : Exit → St C → Option (List (RV C)) := contK Try.prog (Ψ_pair_Step m) (callK Try.prog (Ψ_pair_Step m) keep m 0) (keep 11) m body11 [.r, .r, .r, .r, .r, .r, .l, .r, .l, .l, .r, .b, .o] (leaveK Try.prog Try.f11.results.toList (finK Try.prog Try.f11.resultTypes.toList))
noncomputable def L_pair_Step_l7 (m n : Nat) (t33 : Int) (t34 : Int) (c0 : Pair) (c1 : State) (c2 : Event) (c3 : State) (l_8 : List Pair_request) (out_9 : List Event) (t32 : List Pair_request) : Option (List (RV C)) := iterK (Q_pair_Step_7 m) (St.norm (keep 11 7)) n ({ T := [.dead, .dead, .dead, .fl (.one (.ptr 0 0)), .fl (.one (.ptr 1 0)), .fl (.one (.ptr 2 0)), .fl (.one (.ptr 3 0)), .dead, .fl (.one (.sl 4)), .fl (.one (.sl 5)), .dead, .dead, .dead, .dead, .dead, .dead, .dead, .dead, .dead, .dead, .dead, .dead, .dead, .dead, .dead, .dead, .dead, .dead, .dead, .dead, .dead, .dead, .fl (.one (.sl 6)), .fl (.one (.int .i64 t33)), .fl (.one (.int .i64 t34))] ++ List.replicate 58 .dead, F := [[]], H := [.box 23 (cells_Pair c0), .box 27 (cells_State c1), .box 32 (cells_Event c2), .box 27 (cells_State c3), .row 57 true l_8, .row 32 true out_9, .row 57 true t32] } : St C) (KL_pair_Step_7 m)
noncomputable def L_pair_Step_l15 (m n : Nat) (t65 : Int) (t66 : Int) (c0 : State) (c1 : Event) (c2 : State) (out_9 : List Event) (t64 : List Pair_request) : Option (List (RV C)) := iterK (Q_pair_Step_15 m) (St.norm (keep 11 15)) n ({ T := [.dead, .dead, .dead, .dead, .fl (.one (.ptr 0 0)), .fl (.one (.ptr 1 0)), .fl (.one (.ptr 2 0)), .dead, .dead, .fl (.one (.sl 3)), .dead, .dead, .dead, .dead, .dead, .dead, .dead, .dead, .dead, .dead, .dead, .dead, .dead, .dead, .dead, .dead, .dead, .dead, .dead, .dead, .dead, .dead, .dead, .dead, .dead, .dead, .dead, .dead, .dead, .dead, .dead, .dead, .dead, .dead, .dead, .dead, .dead, .dead, .dead, .dead, .dead, .dead, .dead, .dead, .dead, .dead, .dead, .dead, .dead, .dead, .dead, .dead, .dead, .dead, .fl (.one (.sl 4)), .fl (.one (.int .i64 t65)), .fl (.one (.int .i64 t66))] ++ List.replicate 26 .dead, F := [[]], H := [.box 27 (cells_State c0), .box 32 (cells_Event c1), .box 27 (cells_State c2), .row 32 true out_9, .row 57 true t64] } : St C) (KL_pair_Step_15 m)
noncomputable def b_pair_Step_l15 {R : Type} (m : Nat) (ret : State → List Event → Option R) (k_l15 : Int → Int → State → Event → State → List Event → List Pair_request → Option R) (t65 : Int) (t66 : Int) (c0 : State) (c1 : Event) (c2 : State) (out_9 : List Event) (t64 : List Pair_request) : Option R :=
 bif decide (t66 < t65) then
 bif decide (0 ≤ t66) then
 bif decide (t66 < (t64.length : Int)) then
 bif decide ((out_9.length + 1) * 64 ≤ 140737488355328) then
 k_l15 t65 (IntKind.i64.wrap (t66 + 1)) c0 c1 c2 (out_9 ++ [Event.mk 8 (t64.getD t66.toNat dflt_Pair_request).from_ c1.From (t64.getD t66.toNat dflt_Pair_request).tag_ 0 (bs []) 7]) t64
 else
 none
 else
 none
 else
 none
 else
 (pair_store m c0 []).bind fun r0 =>
 ret r0 out_9
theorem L_pair_Step_l15_step (m n : Nat) (t65 : Int) (t66 : Int) (c0 : State) (c1 : Event) (c2 : State) (out_9 : List Event) (t64 : List Pair_request) : L_pair_Step_l15 m (n + 1) t65 t66 c0 c1 c2 out_9 t64 = b_pair_Step_l15 m (fun x0 x1 => some (w_pair_Step (x0, x1))) (fun t65 t66 c0 c1 c2 out_9 t64 => L_pair_Step_l15 m n t65 t66 c0 c1 c2 out_9 t64) t65 t66 c0 c1 c2 out_9 t64 := by kernel_rfl
theorem b_pair_Step_l15_map (m : Nat) {k_l15 : Int → Int → State → Event → State → List Event → List Pair_request → Option (List (RV C))} {q_l15 : Int → Int → State → Event → State → List Event → List Pair_request → Option (State × List Event)} (h_l15 : ∀ t65 t66 c0 c1 c2 out_9 t64, k_l15 t65 t66 c0 c1 c2 out_9 t64 = (q_l15 t65 t66 c0 c1 c2 out_9 t64).map w_pair_Step) (t65 : Int) (t66 : Int) (c0 : State) (c1 : Event) (c2 : State) (out_9 : List Event) (t64 : List Pair_request) : b_pair_Step_l15 m (fun x0 x1 => some (w_pair_Step (x0, x1))) k_l15 t65 t66 c0 c1 c2 out_9 t64 = (b_pair_Step_l15 m (fun x0 x1 => some (x0, x1)) q_l15 t65 t66 c0 c1 c2 out_9 t64).map w_pair_Step := by
  simp only [b_pair_Step_l15, cond_map, bind_map, map_none, map_some, h_l15]
noncomputable def pair_Step_l15 (m : Nat) : Nat → Int → Int → State → Event → State → List Event → List Pair_request → Option (State × List Event)
  | 0, _, _, _, _, _, _, _ => none
  | n + 1, t65, t66, c0, c1, c2, out_9, t64 => b_pair_Step_l15 m (fun x0 x1 => some (x0, x1)) (fun t65 t66 c0 c1 c2 out_9 t64 => pair_Step_l15 m n t65 t66 c0 c1 c2 out_9 t64) t65 t66 c0 c1 c2 out_9 t64
theorem L_pair_Step_l15_eq (m : Nat) : ∀ (n : Nat) (t65 : Int) (t66 : Int) (c0 : State) (c1 : Event) (c2 : State) (out_9 : List Event) (t64 : List Pair_request), L_pair_Step_l15 m n t65 t66 c0 c1 c2 out_9 t64 = (pair_Step_l15 m n t65 t66 c0 c1 c2 out_9 t64).map w_pair_Step
  | 0, t65, t66, c0, c1, c2, out_9, t64 => by kernel_rfl
  | n + 1, t65, t66, c0, c1, c2, out_9, t64 => by
    rw [L_pair_Step_l15_step]
    exact b_pair_Step_l15_map m (fun t65 t66 c0 c1 c2 out_9 t64 => L_pair_Step_l15_eq m n t65 t66 c0 c1 c2 out_9 t64) t65 t66 c0 c1 c2 out_9 t64
noncomputable def b_pair_Step_l7 {R : Type} (m : Nat) (ret : State → List Event → Option R) (k_l7 : Int → Int → Pair → State → Event → State → List Pair_request → List Event → List Pair_request → Option R) (k_l15 : Int → Int → State → Event → State → List Event → List Pair_request → Option R) (t33 : Int) (t34 : Int) (c0 : Pair) (c1 : State) (c2 : Event) (c3 : State) (l_8 : List Pair_request) (out_9 : List Event) (t32 : List Pair_request) : Option R :=
 bif decide (t34 < t33) then
 bif decide (0 ≤ t34) then
 bif decide (t34 < (t32.length : Int)) then
 bif decide (IntKind.i64.wrap (c2.From - (t32.getD t34.toNat dflt_Pair_request).to_) > c0.Timeout) then
 bif decide ((out_9.length + 1) * 64 ≤ 140737488355328) then
 k_l7 t33 (IntKind.i64.wrap (t34 + 1)) c0 c1 c2 c3 l_8 (out_9 ++ [Event.mk 8 (t32.getD t34.toNat dflt_Pair_request).from_ (IntKind.i64.wrap ((t32.getD t34.toNat dflt_Pair_request).to_ + c0.Timeout)) (t32.getD t34.toNat dflt_Pair_request).tag_ 0 (bs []) 11]) t32
 else
 none
 else
 bif decide ((l_8.length + 1) * 24 ≤ 140737488355328) then
 k_l7 t33 (IntKind.i64.wrap (t34 + 1)) c0 c1 c2 c3 (l_8 ++ [t32.getD t34.toNat dflt_Pair_request]) out_9 t32
 else
 none
 else
 none
 else
 none
 else
 bif c2.Fault != 0 then
 k_l15 (l_8.length : Int) 0 c1 c2 c3 out_9 l_8
 else
 (pair_packet m l_8 c2).bind fun r0 =>
 (pair_store m c1 r0.fst).bind fun r1 =>
 bif decide ((out_9.length + r0.snd.length) * 64 ≤ 140737488355328) then
 ret r1 (out_9 ++ r0.snd)
 else
 none
theorem L_pair_Step_l7_step (m n : Nat) (t33 : Int) (t34 : Int) (c0 : Pair) (c1 : State) (c2 : Event) (c3 : State) (l_8 : List Pair_request) (out_9 : List Event) (t32 : List Pair_request) : L_pair_Step_l7 m (n + 1) t33 t34 c0 c1 c2 c3 l_8 out_9 t32 = b_pair_Step_l7 m (fun x0 x1 => some (w_pair_Step (x0, x1))) (fun t33 t34 c0 c1 c2 c3 l_8 out_9 t32 => L_pair_Step_l7 m n t33 t34 c0 c1 c2 c3 l_8 out_9 t32) (fun t65 t66 c0 c1 c2 out_9 t64 => L_pair_Step_l15 m m t65 t66 c0 c1 c2 out_9 t64) t33 t34 c0 c1 c2 c3 l_8 out_9 t32 := by kernel_rfl
theorem b_pair_Step_l7_map (m : Nat) {k_l7 : Int → Int → Pair → State → Event → State → List Pair_request → List Event → List Pair_request → Option (List (RV C))} {q_l7 : Int → Int → Pair → State → Event → State → List Pair_request → List Event → List Pair_request → Option (State × List Event)} (h_l7 : ∀ t33 t34 c0 c1 c2 c3 l_8 out_9 t32, k_l7 t33 t34 c0 c1 c2 c3 l_8 out_9 t32 = (q_l7 t33 t34 c0 c1 c2 c3 l_8 out_9 t32).map w_pair_Step) {k_l15 : Int → Int → State → Event → State → List Event → List Pair_request → Option (List (RV C))} {q_l15 : Int → Int → State → Event → State → List Event → List Pair_request → Option (State × List Event)} (h_l15 : ∀ t65 t66 c0 c1 c2 out_9 t64, k_l15 t65 t66 c0 c1 c2 out_9 t64 = (q_l15 t65 t66 c0 c1 c2 out_9 t64).map w_pair_Step) (t33 : Int) (t34 : Int) (c0 : Pair) (c1 : State) (c2 : Event) (c3 : State) (l_8 : List Pair_request) (out_9 : List Event) (t32 : List Pair_request) : b_pair_Step_l7 m (fun x0 x1 => some (w_pair_Step (x0, x1))) k_l7 k_l15 t33 t34 c0 c1 c2 c3 l_8 out_9 t32 = (b_pair_Step_l7 m (fun x0 x1 => some (x0, x1)) q_l7 q_l15 t33 t34 c0 c1 c2 c3 l_8 out_9 t32).map w_pair_Step := by
  simp only [b_pair_Step_l7, cond_map, bind_map, map_none, map_some, h_l7, h_l15]
noncomputable def pair_Step_l7 (m : Nat) : Nat → Int → Int → Pair → State → Event → State → List Pair_request → List Event → List Pair_request → Option (State × List Event)
  | 0, _, _, _, _, _, _, _, _, _ => none
  | n + 1, t33, t34, c0, c1, c2, c3, l_8, out_9, t32 => b_pair_Step_l7 m (fun x0 x1 => some (x0, x1)) (fun t33 t34 c0 c1 c2 c3 l_8 out_9 t32 => pair_Step_l7 m n t33 t34 c0 c1 c2 c3 l_8 out_9 t32) (fun t65 t66 c0 c1 c2 out_9 t64 => pair_Step_l15 m m t65 t66 c0 c1 c2 out_9 t64) t33 t34 c0 c1 c2 c3 l_8 out_9 t32
theorem L_pair_Step_l7_eq (m : Nat) : ∀ (n : Nat) (t33 : Int) (t34 : Int) (c0 : Pair) (c1 : State) (c2 : Event) (c3 : State) (l_8 : List Pair_request) (out_9 : List Event) (t32 : List Pair_request), L_pair_Step_l7 m n t33 t34 c0 c1 c2 c3 l_8 out_9 t32 = (pair_Step_l7 m n t33 t34 c0 c1 c2 c3 l_8 out_9 t32).map w_pair_Step
  | 0, t33, t34, c0, c1, c2, c3, l_8, out_9, t32 => by kernel_rfl
  | n + 1, t33, t34, c0, c1, c2, c3, l_8, out_9, t32 => by
    rw [L_pair_Step_l7_step]
    exact b_pair_Step_l7_map m (fun t33 t34 c0 c1 c2 c3 l_8 out_9 t32 => L_pair_Step_l7_eq m n t33 t34 c0 c1 c2 c3 l_8 out_9 t32) (fun t65 t66 c0 c1 c2 out_9 t64 => L_pair_Step_l15_eq m m t65 t66 c0 c1 c2 out_9 t64) t33 t34 c0 c1 c2 c3 l_8 out_9 t32
noncomputable def b_pair_Step {R : Type} (m : Nat) (ret : State → List Event → Option R) (k_l7 : Int → Int → Pair → State → Event → State → List Pair_request → List Event → List Pair_request → Option R) (c_0 : Pair) (s_1 : State) (e_2 : Event) : Option R :=
 (pair_Check m c_0).bind fun r0 =>
 bif r0 != 0 then
 ret s_1 []
 else
 (pair_accepts m s_1 e_2).bind fun r1 =>
 bif !r1 then
 ret s_1 []
 else
 (pair_load m (State.mk s_1.Phase e_2.From s_1.From s_1.Count s_1.Acc s_1.Aux e_2.To s_1.Data)).bind fun r2 =>
 k_l7 (r2.length : Int) 0 c_0 { s_1 with At := e_2.From, Prev := e_2.To } e_2 (State.mk 0 0 0 0 0 0 0 (bs [])) [] [] r2
theorem pair_Step_pre (m : Nat) (c_0 : Pair) (s_1 : State) (e_2 : Event) : funK Try.prog (Ψ_pair_Step m) keep m 1 11 [(dS of_Pair cells_Pair of_Pair_ok).e c_0, (dS of_State cells_State of_State_ok).e s_1, (dS of_Event cells_Event of_Event_ok).e e_2] = b_pair_Step m (fun x0 x1 => some (w_pair_Step (x0, x1))) (fun t33 t34 c0 c1 c2 c3 l_8 out_9 t32 => L_pair_Step_l7 m m t33 t34 c0 c1 c2 c3 l_8 out_9 t32) c_0 s_1 e_2 := by kernel_rfl
theorem b_pair_Step_map (m : Nat) {k_l7 : Int → Int → Pair → State → Event → State → List Pair_request → List Event → List Pair_request → Option (List (RV C))} {q_l7 : Int → Int → Pair → State → Event → State → List Pair_request → List Event → List Pair_request → Option (State × List Event)} (h_l7 : ∀ t33 t34 c0 c1 c2 c3 l_8 out_9 t32, k_l7 t33 t34 c0 c1 c2 c3 l_8 out_9 t32 = (q_l7 t33 t34 c0 c1 c2 c3 l_8 out_9 t32).map w_pair_Step) (c_0 : Pair) (s_1 : State) (e_2 : Event) : b_pair_Step m (fun x0 x1 => some (w_pair_Step (x0, x1))) k_l7 c_0 s_1 e_2 = (b_pair_Step m (fun x0 x1 => some (x0, x1)) q_l7 c_0 s_1 e_2).map w_pair_Step := by
  simp only [b_pair_Step, cond_map, bind_map, map_none, map_some, h_l7]
noncomputable def pair_Step (m : Nat) (c_0 : Pair) (s_1 : State) (e_2 : Event) : Option (State × List Event) := b_pair_Step m (fun x0 x1 => some (x0, x1)) (fun t33 t34 c0 c1 c2 c3 l_8 out_9 t32 => pair_Step_l7 m m t33 t34 c0 c1 c2 c3 l_8 out_9 t32) c_0 s_1 e_2
theorem pair_Step_fun (m : Nat) (c_0 : Pair) (s_1 : State) (e_2 : Event) : funK Try.prog (Ψ_pair_Step m) keep m 1 11 [(dS of_Pair cells_Pair of_Pair_ok).e c_0, (dS of_State cells_State of_State_ok).e s_1, (dS of_Event cells_Event of_Event_ok).e e_2] = (pair_Step m c_0 s_1 e_2).map w_pair_Step := by
  rw [pair_Step_pre]
  exact b_pair_Step_map m (fun t33 t34 c0 c1 c2 c3 l_8 out_9 t32 => L_pair_Step_l7_eq m m t33 t34 c0 c1 c2 c3 l_8 out_9 t32) c_0 s_1 e_2
noncomputable def K_pair_Step (m : Nat) : KnownF C := mkK (dCons (dS of_Pair cells_Pair of_Pair_ok) (dCons (dS of_State cells_State of_State_ok) (dCons (dS of_Event cells_Event of_Event_ok) dNil))) (fun a => pair_Step m a.1 a.2.1 a.2.2.1) w_pair_Step
theorem K_pair_Step_ok (m : Nat) : KnownAt C Try.prog 11 fun l => (K_pair_Step m).run _ l some :=
  mkK_known good fit (Ψ_pair_Step_ok m) (keep := keep) (m := m) (d := 1) fun a => pair_Step_fun m a.1 a.2.1 a.2.2.1
/-! ### signalbench/pair.End -/
noncomputable def Ψ_pair_End (m : Nat) : Known C := fun f => match f with
  | 14 => some (K_pair_Check m)
  | 26 => some (K_pair_load m)
  | 27 => some (K_pair_given m)
  | _ => none
theorem Ψ_pair_End_ok (m : Nat) : KnownOk C Try.prog (Ψ_pair_End m) := by
  intro f φ h
  unfold Ψ_pair_End at h
  split at h
  · injection h with h; subst h; exact K_pair_Check_ok m
  · injection h with h; subst h; exact K_pair_load_ok m
  · injection h with h; subst h; exact K_pair_given_ok m
  · cases h
def w_pair_End (b : List Event) : List (RV C) := [(dRow 32).e b]
noncomputable def Q_pair_End_5 (m : Nat) : St C → (Exit → St C → Option (List (RV C))) → Option (List (RV C)) := fun σ k => codeK Try.prog (Ψ_pair_End m) (callK Try.prog (Ψ_pair_End m) keep m 0) (keep 16) m (subC body16 [.r, .r, .r, .l, .r, .b, .o]) σ k
noncomputable def KL_pair_End_5 (m : Nat) : Exit → St C → Option (List (RV C)) := contK Try.prog (Ψ_pair_End m) (callK Try.prog (Ψ_pair_End m) keep m 0) (keep 16) m body16 [.r, .r, .r, .l, .r, .b, .o] (leaveK Try.prog Try.f16.results.toList (finK Try.prog Try.f16.resultTypes.toList))
noncomputable def L_pair_End_l5 (m n : Nat) (t13 : Int) (t14 : Int) (c0 : State) (out_5 : List Event) (t12 : List Pair_request) : Option (List (RV C)) := iterK (Q_pair_End_5 m) (St.norm (keep 16 5)) n ({ T := [.dead, .dead, .dead, .fl (.one (.ptr 0 0)), .dead, .fl (.one (.sl 1)), .dead, .dead, .dead, .dead, .dead, .dead, .fl (.one (.sl 2)), .fl (.one (.int .i64 t13)), .fl (.one (.int .i64 t14))] ++ List.replicate 12 .dead, F := [[]], H := [.box 27 (cells_State c0), .row 32 true out_5, .row 57 true t12] } : St C) (KL_pair_End_5 m)
noncomputable def b_pair_End_l5 {R : Type} (m : Nat) (ret : List Event → Option R) (k_l5 : Int → Int → State → List Event → List Pair_request → Option R) (t13 : Int) (t14 : Int) (c0 : State) (out_5 : List Event) (t12 : List Pair_request) : Option R :=
 bif decide (t14 < t13) then
 bif decide (0 ≤ t14) then
 bif decide (t14 < (t12.length : Int)) then
 bif decide ((out_5.length + 1) * 64 ≤ 140737488355328) then
 k_l5 t13 (IntKind.i64.wrap (t14 + 1)) c0 (out_5 ++ [Event.mk 8 (t12.getD t14.toNat dflt_Pair_request).from_ c0.Prev (t12.getD t14.toNat dflt_Pair_request).tag_ 0 (bs []) 7]) t12
 else
 none
 else
 none
 else
 none
 else
 ret out_5
theorem L_pair_End_l5_step (m n : Nat) (t13 : Int) (t14 : Int) (c0 : State) (out_5 : List Event) (t12 : List Pair_request) : L_pair_End_l5 m (n + 1) t13 t14 c0 out_5 t12 = b_pair_End_l5 m (fun x0 => some (w_pair_End x0)) (fun t13 t14 c0 out_5 t12 => L_pair_End_l5 m n t13 t14 c0 out_5 t12) t13 t14 c0 out_5 t12 := by kernel_rfl
theorem b_pair_End_l5_map (m : Nat) {k_l5 : Int → Int → State → List Event → List Pair_request → Option (List (RV C))} {q_l5 : Int → Int → State → List Event → List Pair_request → Option (List Event)} (h_l5 : ∀ t13 t14 c0 out_5 t12, k_l5 t13 t14 c0 out_5 t12 = (q_l5 t13 t14 c0 out_5 t12).map w_pair_End) (t13 : Int) (t14 : Int) (c0 : State) (out_5 : List Event) (t12 : List Pair_request) : b_pair_End_l5 m (fun x0 => some (w_pair_End x0)) k_l5 t13 t14 c0 out_5 t12 = (b_pair_End_l5 m (fun x0 => some x0) q_l5 t13 t14 c0 out_5 t12).map w_pair_End := by
  simp only [b_pair_End_l5, cond_map, bind_map, map_none, map_some, h_l5]
noncomputable def pair_End_l5 (m : Nat) : Nat → Int → Int → State → List Event → List Pair_request → Option (List Event)
  | 0, _, _, _, _, _ => none
  | n + 1, t13, t14, c0, out_5, t12 => b_pair_End_l5 m (fun x0 => some x0) (fun t13 t14 c0 out_5 t12 => pair_End_l5 m n t13 t14 c0 out_5 t12) t13 t14 c0 out_5 t12
theorem L_pair_End_l5_eq (m : Nat) : ∀ (n : Nat) (t13 : Int) (t14 : Int) (c0 : State) (out_5 : List Event) (t12 : List Pair_request), L_pair_End_l5 m n t13 t14 c0 out_5 t12 = (pair_End_l5 m n t13 t14 c0 out_5 t12).map w_pair_End
  | 0, t13, t14, c0, out_5, t12 => by kernel_rfl
  | n + 1, t13, t14, c0, out_5, t12 => by
    rw [L_pair_End_l5_step]
    exact b_pair_End_l5_map m (fun t13 t14 c0 out_5 t12 => L_pair_End_l5_eq m n t13 t14 c0 out_5 t12) t13 t14 c0 out_5 t12
noncomputable def b_pair_End {R : Type} (m : Nat) (ret : List Event → Option R) (k_l5 : Int → Int → State → List Event → List Pair_request → Option R) (c_0 : Pair) (s_1 : State) : Option R :=
 (pair_Check m c_0).bind fun r0 =>
 bif r0 != 0 then
 ret []
 else
 (pair_load m s_1).bind fun r1 =>
 k_l5 (r1.length : Int) 0 s_1 [] r1
theorem pair_End_pre (m : Nat) (c_0 : Pair) (s_1 : State) : funK Try.prog (Ψ_pair_End m) keep m 1 16 [(dS of_Pair cells_Pair of_Pair_ok).e c_0, (dS of_State cells_State of_State_ok).e s_1] = b_pair_End m (fun x0 => some (w_pair_End x0)) (fun t13 t14 c0 out_5 t12 => L_pair_End_l5 m m t13 t14 c0 out_5 t12) c_0 s_1 := by kernel_rfl
theorem b_pair_End_map (m : Nat) {k_l5 : Int → Int → State → List Event → List Pair_request → Option (List (RV C))} {q_l5 : Int → Int → State → List Event → List Pair_request → Option (List Event)} (h_l5 : ∀ t13 t14 c0 out_5 t12, k_l5 t13 t14 c0 out_5 t12 = (q_l5 t13 t14 c0 out_5 t12).map w_pair_End) (c_0 : Pair) (s_1 : State) : b_pair_End m (fun x0 => some (w_pair_End x0)) k_l5 c_0 s_1 = (b_pair_End m (fun x0 => some x0) q_l5 c_0 s_1).map w_pair_End := by
  simp only [b_pair_End, cond_map, bind_map, map_none, map_some, h_l5]
noncomputable def pair_End (m : Nat) (c_0 : Pair) (s_1 : State) : Option (List Event) := b_pair_End m (fun x0 => some x0) (fun t13 t14 c0 out_5 t12 => pair_End_l5 m m t13 t14 c0 out_5 t12) c_0 s_1
theorem pair_End_fun (m : Nat) (c_0 : Pair) (s_1 : State) : funK Try.prog (Ψ_pair_End m) keep m 1 16 [(dS of_Pair cells_Pair of_Pair_ok).e c_0, (dS of_State cells_State of_State_ok).e s_1] = (pair_End m c_0 s_1).map w_pair_End := by
  rw [pair_End_pre]
  exact b_pair_End_map m (fun t13 t14 c0 out_5 t12 => L_pair_End_l5_eq m m t13 t14 c0 out_5 t12) c_0 s_1
noncomputable def K_pair_End (m : Nat) : KnownF C := mkK (dCons (dS of_Pair cells_Pair of_Pair_ok) (dCons (dS of_State cells_State of_State_ok) dNil)) (fun a => pair_End m a.1 a.2.1) w_pair_End
theorem K_pair_End_ok (m : Nat) : KnownAt C Try.prog 16 fun l => (K_pair_End m).run _ l some :=
  mkK_known good fit (Ψ_pair_End_ok m) (keep := keep) (m := m) (d := 1) fun a => pair_End_fun m a.1 a.2.1
/-! ### signalbench/pair.Decode -/
noncomputable def Ψ_pair_Decode (m : Nat) : Known C := fun f => match f with
  | 9 => some (K_pair_Start m)
  | 11 => some (K_pair_Step m)
  | 16 => some (K_pair_End m)
  | _ => none
theorem Ψ_pair_Decode_ok (m : Nat) : KnownOk C Try.prog (Ψ_pair_Decode m) := by
  intro f φ h
  unfold Ψ_pair_Decode at h
  split at h
  · injection h with h; subst h; exact K_pair_Start_ok m
  · injection h with h; subst h; exact K_pair_Step_ok m
  · injection h with h; subst h; exact K_pair_End_ok m
  · cases h
def w_pair_Decode (b : List Event) : List (RV C) := [(dRow 32).e b]
noncomputable def Q_pair_Decode_4 (m : Nat) : St C → (Exit → St C → Option (List (RV C))) → Option (List (RV C)) := fun σ k => codeK Try.prog (Ψ_pair_Decode m) (callK Try.prog (Ψ_pair_Decode m) keep m 0) (keep 18) m (subC body18 [.r, .r, .r, .l, .r, .b, .o]) σ k
noncomputable def KL_pair_Decode_4 (m : Nat) : Exit → St C → Option (List (RV C)) := contK Try.prog (Ψ_pair_Decode m) (callK Try.prog (Ψ_pair_Decode m) keep m 0) (keep 18) m body18 [.r, .r, .r, .l, .r, .b, .o] (leaveK Try.prog Try.f18.results.toList (finK Try.prog Try.f18.resultTypes.toList))
noncomputable def L_pair_Decode_l4 (m n : Nat) (t14 : Int) (t15 : Int) (c0 : Pair) (c1 : State) (out_6 : List Event) (t13 : List Event) : Option (List (RV C)) := iterK (Q_pair_Decode_4 m) (St.norm (keep 18 4)) n ({ T := [.dead, .dead, .fl (.one (.ptr 0 0)), .dead, .dead, .fl (.one (.ptr 1 0)), .fl (.one (.sl 2)), .dead, .dead, .dead, .dead, .dead, .dead, .fl (.one (.sl 3)), .fl (.one (.int .i64 t14)), .fl (.one (.int .i64 t15))] ++ List.replicate 20 .dead, F := [[]], H := [.box 23 (cells_Pair c0), .box 27 (cells_State c1), .row 32 true out_6, .row 32 false t13] } : St C) (KL_pair_Decode_4 m)
noncomputable def b_pair_Decode_l4 {R : Type} (m : Nat) (ret : List Event → Option R) (k_l4 : Int → Int → Pair → State → List Event → List Event → Option R) (t14 : Int) (t15 : Int) (c0 : Pair) (c1 : State) (out_6 : List Event) (t13 : List Event) : Option R :=
 bif decide (t15 < t14) then
 (bif decide (0 ≤ t15) then
 (bif decide (t15 < (t13.length : Int)) then
 ((pair_Step m c0 c1 (t13.getD t15.toNat dflt_Event)).bind fun r0 =>
 bif decide ((out_6.length + r0.snd.length) * 64 ≤ 140737488355328) then
 k_l4 t14 (IntKind.i64.wrap (t15 + 1)) c0 r0.fst (out_6 ++ r0.snd) t13
 else
 none)
 else
 none)
 else
 none)
 else
 (pair_End m c0 c1).bind fun r1 =>
 bif decide ((out_6.length + r1.length) * 64 ≤ 140737488355328) then
 ret (out_6 ++ r1)
 else
 none
theorem L_pair_Decode_l4_step (m n : Nat) (t14 : Int) (t15 : Int) (c0 : Pair) (c1 : State) (out_6 : List Event) (t13 : List Event) : L_pair_Decode_l4 m (n + 1) t14 t15 c0 c1 out_6 t13 = b_pair_Decode_l4 m (fun x0 => some (w_pair_Decode x0)) (fun t14 t15 c0 c1 out_6 t13 => L_pair_Decode_l4 m n t14 t15 c0 c1 out_6 t13) t14 t15 c0 c1 out_6 t13 := by kernel_rfl
theorem b_pair_Decode_l4_map (m : Nat) {k_l4 : Int → Int → Pair → State → List Event → List Event → Option (List (RV C))} {q_l4 : Int → Int → Pair → State → List Event → List Event → Option (List Event)} (h_l4 : ∀ t14 t15 c0 c1 out_6 t13, k_l4 t14 t15 c0 c1 out_6 t13 = (q_l4 t14 t15 c0 c1 out_6 t13).map w_pair_Decode) (t14 : Int) (t15 : Int) (c0 : Pair) (c1 : State) (out_6 : List Event) (t13 : List Event) : b_pair_Decode_l4 m (fun x0 => some (w_pair_Decode x0)) k_l4 t14 t15 c0 c1 out_6 t13 = (b_pair_Decode_l4 m (fun x0 => some x0) q_l4 t14 t15 c0 c1 out_6 t13).map w_pair_Decode := by
  simp only [b_pair_Decode_l4, cond_map, bind_map, map_none, map_some, h_l4]
noncomputable def pair_Decode_l4 (m : Nat) : Nat → Int → Int → Pair → State → List Event → List Event → Option (List Event)
  | 0, _, _, _, _, _, _ => none
  | n + 1, t14, t15, c0, c1, out_6, t13 => b_pair_Decode_l4 m (fun x0 => some x0) (fun t14 t15 c0 c1 out_6 t13 => pair_Decode_l4 m n t14 t15 c0 c1 out_6 t13) t14 t15 c0 c1 out_6 t13
theorem L_pair_Decode_l4_eq (m : Nat) : ∀ (n : Nat) (t14 : Int) (t15 : Int) (c0 : Pair) (c1 : State) (out_6 : List Event) (t13 : List Event), L_pair_Decode_l4 m n t14 t15 c0 c1 out_6 t13 = (pair_Decode_l4 m n t14 t15 c0 c1 out_6 t13).map w_pair_Decode
  | 0, t14, t15, c0, c1, out_6, t13 => by kernel_rfl
  | n + 1, t14, t15, c0, c1, out_6, t13 => by
    rw [L_pair_Decode_l4_step]
    exact b_pair_Decode_l4_map m (fun t14 t15 c0 c1 out_6 t13 => L_pair_Decode_l4_eq m n t14 t15 c0 c1 out_6 t13) t14 t15 c0 c1 out_6 t13
noncomputable def b_pair_Decode {R : Type} (m : Nat) (ret : List Event → Option R) (k_l4 : Int → Int → Pair → State → List Event → List Event → Option R) (c_0 : Pair) (l_1 : List Event) : Option R :=
 k_l4 (l_1.length : Int) 0 c_0 (State.mk 0 0 0 0 0 0 0 (bs [])) [] l_1
theorem pair_Decode_pre (m : Nat) (c_0 : Pair) (l_1 : List Event) : funK Try.prog (Ψ_pair_Decode m) keep m 1 18 [(dS of_Pair cells_Pair of_Pair_ok).e c_0, (dRow 32).e l_1] = b_pair_Decode m (fun x0 => some (w_pair_Decode x0)) (fun t14 t15 c0 c1 out_6 t13 => L_pair_Decode_l4 m m t14 t15 c0 c1 out_6 t13) c_0 l_1 := by kernel_rfl
theorem b_pair_Decode_map (m : Nat) {k_l4 : Int → Int → Pair → State → List Event → List Event → Option (List (RV C))} {q_l4 : Int → Int → Pair → State → List Event → List Event → Option (List Event)} (h_l4 : ∀ t14 t15 c0 c1 out_6 t13, k_l4 t14 t15 c0 c1 out_6 t13 = (q_l4 t14 t15 c0 c1 out_6 t13).map w_pair_Decode) (c_0 : Pair) (l_1 : List Event) : b_pair_Decode m (fun x0 => some (w_pair_Decode x0)) k_l4 c_0 l_1 = (b_pair_Decode m (fun x0 => some x0) q_l4 c_0 l_1).map w_pair_Decode := by
  simp only [b_pair_Decode, cond_map, bind_map, map_none, map_some, h_l4]
noncomputable def pair_Decode (m : Nat) (c_0 : Pair) (l_1 : List Event) : Option (List Event) := b_pair_Decode m (fun x0 => some x0) (fun t14 t15 c0 c1 out_6 t13 => pair_Decode_l4 m m t14 t15 c0 c1 out_6 t13) c_0 l_1
theorem pair_Decode_fun (m : Nat) (c_0 : Pair) (l_1 : List Event) : funK Try.prog (Ψ_pair_Decode m) keep m 1 18 [(dS of_Pair cells_Pair of_Pair_ok).e c_0, (dRow 32).e l_1] = (pair_Decode m c_0 l_1).map w_pair_Decode := by
  rw [pair_Decode_pre]
  exact b_pair_Decode_map m (fun t14 t15 c0 c1 out_6 t13 => L_pair_Decode_l4_eq m m t14 t15 c0 c1 out_6 t13) c_0 l_1
noncomputable def K_pair_Decode (m : Nat) : KnownF C := mkK (dCons (dS of_Pair cells_Pair of_Pair_ok) (dCons (dRow 32) dNil)) (fun a => pair_Decode m a.1 a.2.1) w_pair_Decode
theorem K_pair_Decode_ok (m : Nat) : KnownAt C Try.prog 18 fun l => (K_pair_Decode m).run _ l some :=
  mkK_known good fit (Ψ_pair_Decode_ok m) (keep := keep) (m := m) (d := 1) fun a => pair_Decode_fun m a.1 a.2.1
/-! ### signalbench/signalbenchlaw33.lives -/
noncomputable def Ψ_law33_lives (m : Nat) : Known C := fun f => match f with
  | 21 => some (K_pair_Encode m)
  | 14 => some (K_pair_Check m)
  | 18 => some (K_pair_Decode m)
  | _ => none
theorem Ψ_law33_lives_ok (m : Nat) : KnownOk C Try.prog (Ψ_law33_lives m) := by
  intro f φ h
  unfold Ψ_law33_lives at h
  split at h
  · injection h with h; subst h; exact K_pair_Encode_ok m
  · injection h with h; subst h; exact K_pair_Check_ok m
  · injection h with h; subst h; exact K_pair_Decode_ok m
  · cases h
def w_law33_lives (b : Bool) : List (RV C) := [dBool.e b]
noncomputable def b_law33_lives {R : Type} (m : Nat) (ret : Bool → Option R) : Option R :=
 (pair_Encode m (Pair.mk 50) [Item.mk 0 5 0 (bs [97, 98]) 0]).bind fun r0 =>
 bif r0.snd != 0 then
 ret false
 else
 bif (r0.fst.length : Int) != 2 then
 ret false
 else
 bif decide (0 < (r0.fst.length : Int)) then
 (bif !(r0.fst.getD 0 dflt_Item).Data.toList == (bs [5]).toList then
 ret false
 else
 bif decide (1 < (r0.fst.length : Int)) then
 (bif !(r0.fst.getD 1 dflt_Item).Data.toList == (bs [133, 97, 98]).toList then
 ret false
 else
 (pair_Decode m (Pair.mk 50) [Event.mk 6 0 10 0 0 (bs [5]) 0, Event.mk 6 30 60 0 0 (bs [133, 97, 98]) 0]).bind fun r1 =>
 bif (r1.length : Int) == 1 then
 bif decide (0 < (r1.length : Int)) then
 ret ((r1.getD 0 dflt_Event).Kind == 8 && ((r1.getD 0 dflt_Event).From == 0 && ((r1.getD 0 dflt_Event).To == 60 && ((r1.getD 0 dflt_Event).Value == 5 && ((r1.getD 0 dflt_Event).Aux == 20 && ((r1.getD 0 dflt_Event).Data == bs [97, 98] && ((r1.getD 0 dflt_Event).Fault == 0 && true)))))))
 else
 none
 else
 ret false)
 else
 none)
 else
 none
theorem law33_lives_pre (m : Nat) : funK Try.prog (Ψ_law33_lives m) keep m 1 8 [] = b_law33_lives m (fun x0 => some (w_law33_lives x0)) := by kernel_rfl
theorem b_law33_lives_map (m : Nat) : b_law33_lives m (fun x0 => some (w_law33_lives x0)) = (b_law33_lives m (fun x0 => some x0)).map w_law33_lives := by
  simp only [b_law33_lives, cond_map, bind_map, map_none, map_some]
noncomputable def law33_lives (m : Nat) : Option (Bool) := b_law33_lives m (fun x0 => some x0)
theorem law33_lives_fun (m : Nat) : funK Try.prog (Ψ_law33_lives m) keep m 1 8 [] = (law33_lives m).map w_law33_lives := by
  rw [law33_lives_pre]
  exact b_law33_lives_map m
noncomputable def K_law33_lives (m : Nat) : KnownF C := mkK dNil (fun a => law33_lives m) w_law33_lives
theorem K_law33_lives_ok (m : Nat) : KnownAt C Try.prog 8 fun l => (K_law33_lives m).run _ l some :=
  mkK_known good fit (Ψ_law33_lives_ok m) (keep := keep) (m := m) (d := 1) fun a => law33_lives_fun m
/-! ### signalbench/signalbenchref33.Start -/
def w_ref33_Start (b : State) : List (RV C) := [(dS of_State cells_State of_State_ok).e b]
noncomputable def b_ref33_Start {R : Type} (m : Nat) (ret : State → Option R) (c_0 : Pair) : Option R :=
 ret (State.mk 0 0 0 0 0 0 0 (bs []))
theorem ref33_Start_pre (m : Nat) (c_0 : Pair) : funK Try.prog Ψ0 keep m 1 10 [(dS of_Pair cells_Pair of_Pair_ok).e c_0] = b_ref33_Start m (fun x0 => some (w_ref33_Start x0)) c_0 := by kernel_rfl
theorem b_ref33_Start_map (m : Nat) (c_0 : Pair) : b_ref33_Start m (fun x0 => some (w_ref33_Start x0)) c_0 = (b_ref33_Start m (fun x0 => some x0) c_0).map w_ref33_Start := by
  simp only [b_ref33_Start, cond_map, bind_map, map_none, map_some]
noncomputable def ref33_Start (m : Nat) (c_0 : Pair) : Option (State) := b_ref33_Start m (fun x0 => some x0) c_0
theorem ref33_Start_fun (m : Nat) (c_0 : Pair) : funK Try.prog Ψ0 keep m 1 10 [(dS of_Pair cells_Pair of_Pair_ok).e c_0] = (ref33_Start m c_0).map w_ref33_Start := by
  rw [ref33_Start_pre]
  exact b_ref33_Start_map m c_0
noncomputable def K_ref33_Start (m : Nat) : KnownF C := mkK (dCons (dS of_Pair cells_Pair of_Pair_ok) dNil) (fun a => ref33_Start m a.1) w_ref33_Start
theorem K_ref33_Start_ok (m : Nat) : KnownAt C Try.prog 10 fun l => (K_ref33_Start m).run _ l some :=
  mkK_known good fit Ψ0_ok (keep := keep) (m := m) (d := 1) fun a => ref33_Start_fun m a.1
/-! ### signalbench/signalbenchref33.Check -/
def w_ref33_Check (b : Int) : List (RV C) := [(dInt .i64).e b]
noncomputable def b_ref33_Check {R : Type} (m : Nat) (ret : Int → Option R) (c_0 : Pair) : Option R :=
 bif decide (c_0.Timeout < 1) then
 ret 2
 else
 bif decide (c_0.Timeout > 1099511627776) then
 ret 2
 else
 ret 0
theorem ref33_Check_pre (m : Nat) (c_0 : Pair) : funK Try.prog Ψ0 keep m 1 15 [(dS of_Pair cells_Pair of_Pair_ok).e c_0] = b_ref33_Check m (fun x0 => some (w_ref33_Check x0)) c_0 := by kernel_rfl
theorem b_ref33_Check_map (m : Nat) (c_0 : Pair) : b_ref33_Check m (fun x0 => some (w_ref33_Check x0)) c_0 = (b_ref33_Check m (fun x0 => some x0) c_0).map w_ref33_Check := by
  simp only [b_ref33_Check, cond_map, bind_map, map_none, map_some]
noncomputable def ref33_Check (m : Nat) (c_0 : Pair) : Option (Int) := b_ref33_Check m (fun x0 => some x0) c_0
theorem ref33_Check_fun (m : Nat) (c_0 : Pair) : funK Try.prog Ψ0 keep m 1 15 [(dS of_Pair cells_Pair of_Pair_ok).e c_0] = (ref33_Check m c_0).map w_ref33_Check := by
  rw [ref33_Check_pre]
  exact b_ref33_Check_map m c_0
noncomputable def K_ref33_Check (m : Nat) : KnownF C := mkK (dCons (dS of_Pair cells_Pair of_Pair_ok) dNil) (fun a => ref33_Check m a.1) w_ref33_Check
theorem K_ref33_Check_ok (m : Nat) : KnownAt C Try.prog 15 fun l => (K_ref33_Check m).run _ l some :=
  mkK_known good fit Ψ0_ok (keep := keep) (m := m) (d := 1) fun a => ref33_Check_fun m a.1
/-! ### signalbench/signalbenchref07.Valid -/
def w_ref07_Valid (b : Bool) : List (RV C) := [dBool.e b]
noncomputable def b_ref07_Valid {R : Type} (m : Nat) (ret : Bool → Option R) (e_0 : Event) : Option R :=
 bif decide (e_0.Kind < 1) then
 ret false
 else
 bif decide (e_0.Kind > 8) then
 ret false
 else
 bif decide (e_0.From < 0) then
 ret false
 else
 bif decide (e_0.From > e_0.To) then
 ret false
 else
 bif decide (e_0.To > 1099511627776) then
 ret false
 else
 bif decide ((e_0.Data.size : Int) > 4096) then
 ret false
 else
 bif decide (e_0.Fault < 0) then
 ret false
 else
 bif decide (e_0.Fault > 12) then
 ret false
 else
 bif decide (e_0.Value ≥ -9007199254740992) then
 bif decide (e_0.Value ≤ 9007199254740992) then
 bif decide (e_0.Aux ≥ -9007199254740992) then
 ret (decide (e_0.Aux ≤ 9007199254740992))
 else
 ret false
 else
 ret false
 else
 ret false
theorem ref07_Valid_pre (m : Nat) (e_0 : Event) : funK Try.prog Ψ0 keep m 1 30 [(dS of_Event cells_Event of_Event_ok).e e_0] = b_ref07_Valid m (fun x0 => some (w_ref07_Valid x0)) e_0 := by kernel_rfl
theorem b_ref07_Valid_map (m : Nat) (e_0 : Event) : b_ref07_Valid m (fun x0 => some (w_ref07_Valid x0)) e_0 = (b_ref07_Valid m (fun x0 => some x0) e_0).map w_ref07_Valid := by
  simp only [b_ref07_Valid, cond_map, bind_map, map_none, map_some]
noncomputable def ref07_Valid (m : Nat) (e_0 : Event) : Option (Bool) := b_ref07_Valid m (fun x0 => some x0) e_0
theorem ref07_Valid_fun (m : Nat) (e_0 : Event) : funK Try.prog Ψ0 keep m 1 30 [(dS of_Event cells_Event of_Event_ok).e e_0] = (ref07_Valid m e_0).map w_ref07_Valid := by
  rw [ref07_Valid_pre]
  exact b_ref07_Valid_map m e_0
noncomputable def K_ref07_Valid (m : Nat) : KnownF C := mkK (dCons (dS of_Event cells_Event of_Event_ok) dNil) (fun a => ref07_Valid m a.1) w_ref07_Valid
theorem K_ref07_Valid_ok (m : Nat) : KnownAt C Try.prog 30 fun l => (K_ref07_Valid m).run _ l some :=
  mkK_known good fit Ψ0_ok (keep := keep) (m := m) (d := 1) fun a => ref07_Valid_fun m a.1
/-! ### signalbench/signalbenchref33.number -/
def w_ref33_number (b : Int) : List (RV C) := [(dInt .i64).e b]
noncomputable def Q_ref33_number_3 (m : Nat) : St C → (Exit → St C → Option (List (RV C))) → Option (List (RV C)) := fun σ k => codeK Try.prog Ψ0 (callK Try.prog Ψ0 keep m 0) (keep 40) m (subC body40 [.r, .r, .l, .r, .b, .o]) σ k
noncomputable def KL_ref33_number_3 (m : Nat) : Exit → St C → Option (List (RV C)) := contK Try.prog Ψ0 (callK Try.prog Ψ0 keep m 0) (keep 40) m body40 [.r, .r, .l, .r, .b, .o] (leaveK Try.prog Try.f40.results.toList (finK Try.prog Try.f40.resultTypes.toList))
noncomputable def L_ref33_number_l3 (m n : Nat) (s_0 : ByteArray) (n_3 : Int) (i_4 : Int) : Option (List (RV C)) := iterK (Q_ref33_number_3 m) (St.norm (keep 40 3)) n ({ T := [.fl (.one (.str s_0)), .dead, .dead, .fl (.one (.int .i64 n_3)), .fl (.one (.int .i64 i_4))] ++ List.replicate 14 .dead, F := [[]], H := [] } : St C) (KL_ref33_number_3 m)
noncomputable def b_ref33_number_l3 {R : Type} (m : Nat) (ret : Int → Option R) (k_l3 : ByteArray → Int → Int → Option R) (s_0 : ByteArray) (n_3 : Int) (i_4 : Int) : Option R :=
 bif decide (i_4 < (s_0.size : Int)) then
 bif decide (0 ≤ i_4) then
 bif decide (i_4 < (s_0.size : Int)) then
 k_l3 s_0 (IntKind.i64.wrap (IntKind.i64.wrap (256 * n_3) + IntKind.i64.wrap (byteAt s_0 i_4))) (IntKind.i64.wrap (i_4 + 1))
 else
 none
 else
 none
 else
 ret n_3
theorem L_ref33_number_l3_step (m n : Nat) (s_0 : ByteArray) (n_3 : Int) (i_4 : Int) : L_ref33_number_l3 m (n + 1) s_0 n_3 i_4 = b_ref33_number_l3 m (fun x0 => some (w_ref33_number x0)) (fun s_0 n_3 i_4 => L_ref33_number_l3 m n s_0 n_3 i_4) s_0 n_3 i_4 := by kernel_rfl
theorem b_ref33_number_l3_map (m : Nat) {k_l3 : ByteArray → Int → Int → Option (List (RV C))} {q_l3 : ByteArray → Int → Int → Option (Int)} (h_l3 : ∀ s_0 n_3 i_4, k_l3 s_0 n_3 i_4 = (q_l3 s_0 n_3 i_4).map w_ref33_number) (s_0 : ByteArray) (n_3 : Int) (i_4 : Int) : b_ref33_number_l3 m (fun x0 => some (w_ref33_number x0)) k_l3 s_0 n_3 i_4 = (b_ref33_number_l3 m (fun x0 => some x0) q_l3 s_0 n_3 i_4).map w_ref33_number := by
  simp only [b_ref33_number_l3, cond_map, bind_map, map_none, map_some, h_l3]
noncomputable def ref33_number_l3 (m : Nat) : Nat → ByteArray → Int → Int → Option (Int)
  | 0, _, _, _ => none
  | n + 1, s_0, n_3, i_4 => b_ref33_number_l3 m (fun x0 => some x0) (fun s_0 n_3 i_4 => ref33_number_l3 m n s_0 n_3 i_4) s_0 n_3 i_4
theorem L_ref33_number_l3_eq (m : Nat) : ∀ (n : Nat) (s_0 : ByteArray) (n_3 : Int) (i_4 : Int), L_ref33_number_l3 m n s_0 n_3 i_4 = (ref33_number_l3 m n s_0 n_3 i_4).map w_ref33_number
  | 0, s_0, n_3, i_4 => by kernel_rfl
  | n + 1, s_0, n_3, i_4 => by
    rw [L_ref33_number_l3_step]
    exact b_ref33_number_l3_map m (fun s_0 n_3 i_4 => L_ref33_number_l3_eq m n s_0 n_3 i_4) s_0 n_3 i_4
noncomputable def b_ref33_number {R : Type} (m : Nat) (ret : Int → Option R) (k_l3 : ByteArray → Int → Int → Option R) (s_0 : ByteArray) : Option R :=
 k_l3 s_0 0 0
theorem ref33_number_pre (m : Nat) (s_0 : ByteArray) : funK Try.prog Ψ0 keep m 1 40 [dStr.e s_0] = b_ref33_number m (fun x0 => some (w_ref33_number x0)) (fun s_0 n_3 i_4 => L_ref33_number_l3 m m s_0 n_3 i_4) s_0 := by kernel_rfl
theorem b_ref33_number_map (m : Nat) {k_l3 : ByteArray → Int → Int → Option (List (RV C))} {q_l3 : ByteArray → Int → Int → Option (Int)} (h_l3 : ∀ s_0 n_3 i_4, k_l3 s_0 n_3 i_4 = (q_l3 s_0 n_3 i_4).map w_ref33_number) (s_0 : ByteArray) : b_ref33_number m (fun x0 => some (w_ref33_number x0)) k_l3 s_0 = (b_ref33_number m (fun x0 => some x0) q_l3 s_0).map w_ref33_number := by
  simp only [b_ref33_number, cond_map, bind_map, map_none, map_some, h_l3]
noncomputable def ref33_number (m : Nat) (s_0 : ByteArray) : Option (Int) := b_ref33_number m (fun x0 => some x0) (fun s_0 n_3 i_4 => ref33_number_l3 m m s_0 n_3 i_4) s_0
theorem ref33_number_fun (m : Nat) (s_0 : ByteArray) : funK Try.prog Ψ0 keep m 1 40 [dStr.e s_0] = (ref33_number m s_0).map w_ref33_number := by
  rw [ref33_number_pre]
  exact b_ref33_number_map m (fun s_0 n_3 i_4 => L_ref33_number_l3_eq m m s_0 n_3 i_4) s_0
noncomputable def K_ref33_number (m : Nat) : KnownF C := mkK (dCons dStr dNil) (fun a => ref33_number m a.1) w_ref33_number
theorem K_ref33_number_ok (m : Nat) : KnownAt C Try.prog 40 fun l => (K_ref33_number m).run _ l some :=
  mkK_known good fit Ψ0_ok (keep := keep) (m := m) (d := 1) fun a => ref33_number_fun m a.1
/-! ### signalbench/signalbenchref33.unpack -/
noncomputable def Ψ_ref33_unpack (m : Nat) : Known C := fun f => match f with
  | 40 => some (K_ref33_number m)
  | _ => none
theorem Ψ_ref33_unpack_ok (m : Nat) : KnownOk C Try.prog (Ψ_ref33_unpack m) := by
  intro f φ h
  unfold Ψ_ref33_unpack at h
  split at h
  · injection h with h; subst h; exact K_ref33_number_ok m
  · cases h
def w_ref33_unpack (b : List Signalbenchref33_request) : List (RV C) := [(dRow 66).e b]
noncomputable def Q_ref33_unpack_3 (m : Nat) : St C → (Exit → St C → Option (List (RV C))) → Option (List (RV C)) := fun σ k => codeK Try.prog (Ψ_ref33_unpack m) (callK Try.prog (Ψ_ref33_unpack m) keep m 0) (keep 31) m (subC body31 [.r, .r, .l, .r, .b, .o]) σ k
noncomputable def KL_ref33_unpack_3 (m : Nat) : Exit → St C → Option (List (RV C)) := contK Try.prog (Ψ_ref33_unpack m) (callK Try.prog (Ψ_ref33_unpack m) keep m 0) (keep 31) m body31 [.r, .r, .l, .r, .b, .o] (leaveK Try.prog Try.f31.results.toList (finK Try.prog Try.f31.resultTypes.toList))
noncomputable def L_ref33_unpack_l3 (m n : Nat) (i_4 : Int) (c0 : State) (out_3 : List Signalbenchref33_request) : Option (List (RV C)) := iterK (Q_ref33_unpack_3 m) (St.norm (keep 31 3)) n ({ T := [.dead, .fl (.one (.ptr 0 0)), .dead, .fl (.one (.sl 1)), .fl (.one (.int .i64 i_4))] ++ List.replicate 35 .dead, F := [[]], H := [.box 27 (cells_State c0), .row 66 true out_3] } : St C) (KL_ref33_unpack_3 m)
noncomputable def b_ref33_unpack_l3 {R : Type} (m : Nat) (ret : List Signalbenchref33_request → Option R) (k_l3 : Int → State → List Signalbenchref33_request → Option R) (i_4 : Int) (c0 : State) (out_3 : List Signalbenchref33_request) : Option R :=
 bif decide (IntKind.i64.wrap (i_4 + 13) ≤ (c0.Data.size : Int)) then
 (bif decide (0 ≤ i_4) then
 (bif decide (i_4 < (c0.Data.size : Int)) then
 (bif decide (0 ≤ IntKind.i64.wrap (i_4 + 7)) then
 (bif decide (IntKind.i64.wrap (i_4 + 7) ≤ (c0.Data.size : Int)) then
 (bif decide (0 ≤ IntKind.i64.wrap (i_4 + 1)) then
 (bif decide (IntKind.i64.wrap (i_4 + 1) ≤ IntKind.i64.wrap (i_4 + 7)) then
 ((ref33_number m (c0.Data.extract (IntKind.i64.wrap (i_4 + 1)).toNat (IntKind.i64.wrap (i_4 + 7)).toNat)).bind fun r0 =>
 bif decide (0 ≤ IntKind.i64.wrap (i_4 + 13)) then
 (bif decide (IntKind.i64.wrap (i_4 + 13) ≤ (c0.Data.size : Int)) then
 (bif decide (0 ≤ IntKind.i64.wrap (i_4 + 7)) then
 (bif decide (IntKind.i64.wrap (i_4 + 7) ≤ IntKind.i64.wrap (i_4 + 13)) then
 ((ref33_number m (c0.Data.extract (IntKind.i64.wrap (i_4 + 7)).toNat (IntKind.i64.wrap (i_4 + 13)).toNat)).bind fun r1 =>
 bif decide ((out_3.length + 1) * 24 ≤ 140737488355328) then
 k_l3 (IntKind.i64.wrap (i_4 + 13)) c0 (out_3 ++ [Signalbenchref33_request.mk (IntKind.i64.wrap (byteAt c0.Data i_4)) r0 r1])
 else
 none)
 else
 none)
 else
 none)
 else
 none)
 else
 none)
 else
 none)
 else
 none)
 else
 none)
 else
 none)
 else
 none)
 else
 none)
 else
 ret out_3
theorem L_ref33_unpack_l3_step (m n : Nat) (i_4 : Int) (c0 : State) (out_3 : List Signalbenchref33_request) : L_ref33_unpack_l3 m (n + 1) i_4 c0 out_3 = b_ref33_unpack_l3 m (fun x0 => some (w_ref33_unpack x0)) (fun i_4 c0 out_3 => L_ref33_unpack_l3 m n i_4 c0 out_3) i_4 c0 out_3 := by kernel_rfl
theorem b_ref33_unpack_l3_map (m : Nat) {k_l3 : Int → State → List Signalbenchref33_request → Option (List (RV C))} {q_l3 : Int → State → List Signalbenchref33_request → Option (List Signalbenchref33_request)} (h_l3 : ∀ i_4 c0 out_3, k_l3 i_4 c0 out_3 = (q_l3 i_4 c0 out_3).map w_ref33_unpack) (i_4 : Int) (c0 : State) (out_3 : List Signalbenchref33_request) : b_ref33_unpack_l3 m (fun x0 => some (w_ref33_unpack x0)) k_l3 i_4 c0 out_3 = (b_ref33_unpack_l3 m (fun x0 => some x0) q_l3 i_4 c0 out_3).map w_ref33_unpack := by
  simp only [b_ref33_unpack_l3, cond_map, bind_map, map_none, map_some, h_l3]
noncomputable def ref33_unpack_l3 (m : Nat) : Nat → Int → State → List Signalbenchref33_request → Option (List Signalbenchref33_request)
  | 0, _, _, _ => none
  | n + 1, i_4, c0, out_3 => b_ref33_unpack_l3 m (fun x0 => some x0) (fun i_4 c0 out_3 => ref33_unpack_l3 m n i_4 c0 out_3) i_4 c0 out_3
theorem L_ref33_unpack_l3_eq (m : Nat) : ∀ (n : Nat) (i_4 : Int) (c0 : State) (out_3 : List Signalbenchref33_request), L_ref33_unpack_l3 m n i_4 c0 out_3 = (ref33_unpack_l3 m n i_4 c0 out_3).map w_ref33_unpack
  | 0, i_4, c0, out_3 => by kernel_rfl
  | n + 1, i_4, c0, out_3 => by
    rw [L_ref33_unpack_l3_step]
    exact b_ref33_unpack_l3_map m (fun i_4 c0 out_3 => L_ref33_unpack_l3_eq m n i_4 c0 out_3) i_4 c0 out_3
noncomputable def b_ref33_unpack {R : Type} (m : Nat) (ret : List Signalbenchref33_request → Option R) (k_l3 : Int → State → List Signalbenchref33_request → Option R) (s_0 : State) : Option R :=
 k_l3 0 s_0 []
theorem ref33_unpack_pre (m : Nat) (s_0 : State) : funK Try.prog (Ψ_ref33_unpack m) keep m 1 31 [(dS of_State cells_State of_State_ok).e s_0] = b_ref33_unpack m (fun x0 => some (w_ref33_unpack x0)) (fun i_4 c0 out_3 => L_ref33_unpack_l3 m m i_4 c0 out_3) s_0 := by kernel_rfl
theorem b_ref33_unpack_map (m : Nat) {k_l3 : Int → State → List Signalbenchref33_request → Option (List (RV C))} {q_l3 : Int → State → List Signalbenchref33_request → Option (List Signalbenchref33_request)} (h_l3 : ∀ i_4 c0 out_3, k_l3 i_4 c0 out_3 = (q_l3 i_4 c0 out_3).map w_ref33_unpack) (s_0 : State) : b_ref33_unpack m (fun x0 => some (w_ref33_unpack x0)) k_l3 s_0 = (b_ref33_unpack m (fun x0 => some x0) q_l3 s_0).map w_ref33_unpack := by
  simp only [b_ref33_unpack, cond_map, bind_map, map_none, map_some, h_l3]
noncomputable def ref33_unpack (m : Nat) (s_0 : State) : Option (List Signalbenchref33_request) := b_ref33_unpack m (fun x0 => some x0) (fun i_4 c0 out_3 => ref33_unpack_l3 m m i_4 c0 out_3) s_0
theorem ref33_unpack_fun (m : Nat) (s_0 : State) : funK Try.prog (Ψ_ref33_unpack m) keep m 1 31 [(dS of_State cells_State of_State_ok).e s_0] = (ref33_unpack m s_0).map w_ref33_unpack := by
  rw [ref33_unpack_pre]
  exact b_ref33_unpack_map m (fun i_4 c0 out_3 => L_ref33_unpack_l3_eq m m i_4 c0 out_3) s_0
noncomputable def K_ref33_unpack (m : Nat) : KnownF C := mkK (dCons (dS of_State cells_State of_State_ok) dNil) (fun a => ref33_unpack m a.1) w_ref33_unpack
theorem K_ref33_unpack_ok (m : Nat) : KnownAt C Try.prog 31 fun l => (K_ref33_unpack m).run _ l some :=
  mkK_known good fit (Ψ_ref33_unpack_ok m) (keep := keep) (m := m) (d := 1) fun a => ref33_unpack_fun m a.1
/-! ### signalbench/signalbenchref33.give -/
def w_ref33_give (b : Event) : List (RV C) := [(dS of_Event cells_Event of_Event_ok).e b]
noncomputable def b_ref33_give {R : Type} (m : Nat) (ret : Event → Option R) (q_0 : Signalbenchref33_request) (to_1 : Int) (fault_2 : Int) : Option R :=
 ret (Event.mk 8 q_0.from_ to_1 q_0.tag_ 0 (bs []) fault_2)
theorem ref33_give_pre (m : Nat) (q_0 : Signalbenchref33_request) (to_1 : Int) (fault_2 : Int) : funK Try.prog Ψ0 keep m 1 32 [(dS of_Signalbenchref33_request cells_Signalbenchref33_request of_Signalbenchref33_request_ok).e q_0, (dInt .i64).e to_1, (dInt .i64).e fault_2] = b_ref33_give m (fun x0 => some (w_ref33_give x0)) q_0 to_1 fault_2 := by kernel_rfl
theorem b_ref33_give_map (m : Nat) (q_0 : Signalbenchref33_request) (to_1 : Int) (fault_2 : Int) : b_ref33_give m (fun x0 => some (w_ref33_give x0)) q_0 to_1 fault_2 = (b_ref33_give m (fun x0 => some x0) q_0 to_1 fault_2).map w_ref33_give := by
  simp only [b_ref33_give, cond_map, bind_map, map_none, map_some]
noncomputable def ref33_give (m : Nat) (q_0 : Signalbenchref33_request) (to_1 : Int) (fault_2 : Int) : Option (Event) := b_ref33_give m (fun x0 => some x0) q_0 to_1 fault_2
theorem ref33_give_fun (m : Nat) (q_0 : Signalbenchref33_request) (to_1 : Int) (fault_2 : Int) : funK Try.prog Ψ0 keep m 1 32 [(dS of_Signalbenchref33_request cells_Signalbenchref33_request of_Signalbenchref33_request_ok).e q_0, (dInt .i64).e to_1, (dInt .i64).e fault_2] = (ref33_give m q_0 to_1 fault_2).map w_ref33_give := by
  rw [ref33_give_pre]
  exact b_ref33_give_map m q_0 to_1 fault_2
noncomputable def K_ref33_give (m : Nat) : KnownF C := mkK (dCons (dS of_Signalbenchref33_request cells_Signalbenchref33_request of_Signalbenchref33_request_ok) (dCons (dInt .i64) (dCons (dInt .i64) dNil))) (fun a => ref33_give m a.1 a.2.1 a.2.2.1) w_ref33_give
theorem K_ref33_give_ok (m : Nat) : KnownAt C Try.prog 32 fun l => (K_ref33_give m).run _ l some :=
  mkK_known good fit Ψ0_ok (keep := keep) (m := m) (d := 1) fun a => ref33_give_fun m a.1 a.2.1 a.2.2.1
/-! ### signalbench/signalbenchref33.bytes -/
def w_ref33_bytes (b : ByteArray) : List (RV C) := [dStr.e b]
noncomputable def Q_ref33_bytes_3 (m : Nat) : St C → (Exit → St C → Option (List (RV C))) → Option (List (RV C)) := fun σ k => codeK Try.prog Ψ0 (callK Try.prog Ψ0 keep m 0) (keep 41) m (subC body41 [.r, .r, .l, .r, .b, .o]) σ k
noncomputable def KL_ref33_bytes_3 (m : Nat) : Exit → St C → Option (List (RV C)) := contK Try.prog Ψ0 (callK Try.prog Ψ0 keep m 0) (keep 41) m body41 [.r, .r, .l, .r, .b, .o] (leaveK Try.prog Try.f41.results.toList (finK Try.prog Try.f41.resultTypes.toList))
noncomputable def L_ref33_bytes_l3 (m n : Nat) (n_0 : Int) (i_4 : Int) (b_3 : List Int) : Option (List (RV C)) := iterK (Q_ref33_bytes_3 m) (St.norm (keep 41 3)) n ({ T := [.fl (.one (.int .i64 n_0)), .dead, .dead, .fl (.one (.sl 0)), .fl (.one (.int .i64 i_4))] ++ List.replicate 15 .dead, F := [[]], H := [.row 5 true b_3] } : St C) (KL_ref33_bytes_3 m)
noncomputable def b_ref33_bytes_l3 {R : Type} (m : Nat) (ret : ByteArray → Option R) (k_l3 : Int → Int → List Int → Option R) (n_0 : Int) (i_4 : Int) (b_3 : List Int) : Option R :=
 bif decide (i_4 ≥ 0) then
 bif decide (IntKind.i64.wrap (8 * i_4) < 0) then
 none
 else
 bif decide ((b_3.length + 1) * 1 ≤ 140737488355328) then
 k_l3 n_0 (IntKind.i64.wrap (i_4 - 1)) (b_3 ++ [IntKind.u8.wrap (n_0.fdiv (2 ^ min (IntKind.i64.wrap (8 * i_4)).toNat 64))])
 else
 none
 else
 ret (toBytes b_3)
theorem L_ref33_bytes_l3_step (m n : Nat) (n_0 : Int) (i_4 : Int) (b_3 : List Int) : L_ref33_bytes_l3 m (n + 1) n_0 i_4 b_3 = b_ref33_bytes_l3 m (fun x0 => some (w_ref33_bytes x0)) (fun n_0 i_4 b_3 => L_ref33_bytes_l3 m n n_0 i_4 b_3) n_0 i_4 b_3 := by kernel_rfl
theorem b_ref33_bytes_l3_map (m : Nat) {k_l3 : Int → Int → List Int → Option (List (RV C))} {q_l3 : Int → Int → List Int → Option (ByteArray)} (h_l3 : ∀ n_0 i_4 b_3, k_l3 n_0 i_4 b_3 = (q_l3 n_0 i_4 b_3).map w_ref33_bytes) (n_0 : Int) (i_4 : Int) (b_3 : List Int) : b_ref33_bytes_l3 m (fun x0 => some (w_ref33_bytes x0)) k_l3 n_0 i_4 b_3 = (b_ref33_bytes_l3 m (fun x0 => some x0) q_l3 n_0 i_4 b_3).map w_ref33_bytes := by
  simp only [b_ref33_bytes_l3, cond_map, bind_map, map_none, map_some, h_l3]
noncomputable def ref33_bytes_l3 (m : Nat) : Nat → Int → Int → List Int → Option (ByteArray)
  | 0, _, _, _ => none
  | n + 1, n_0, i_4, b_3 => b_ref33_bytes_l3 m (fun x0 => some x0) (fun n_0 i_4 b_3 => ref33_bytes_l3 m n n_0 i_4 b_3) n_0 i_4 b_3
theorem L_ref33_bytes_l3_eq (m : Nat) : ∀ (n : Nat) (n_0 : Int) (i_4 : Int) (b_3 : List Int), L_ref33_bytes_l3 m n n_0 i_4 b_3 = (ref33_bytes_l3 m n n_0 i_4 b_3).map w_ref33_bytes
  | 0, n_0, i_4, b_3 => by kernel_rfl
  | n + 1, n_0, i_4, b_3 => by
    rw [L_ref33_bytes_l3_step]
    exact b_ref33_bytes_l3_map m (fun n_0 i_4 b_3 => L_ref33_bytes_l3_eq m n n_0 i_4 b_3) n_0 i_4 b_3
noncomputable def b_ref33_bytes {R : Type} (m : Nat) (ret : ByteArray → Option R) (k_l3 : Int → Int → List Int → Option R) (n_0 : Int) : Option R :=
 k_l3 n_0 5 []
theorem ref33_bytes_pre (m : Nat) (n_0 : Int) : funK Try.prog Ψ0 keep m 1 41 [(dInt .i64).e n_0] = b_ref33_bytes m (fun x0 => some (w_ref33_bytes x0)) (fun n_0 i_4 b_3 => L_ref33_bytes_l3 m m n_0 i_4 b_3) n_0 := by kernel_rfl
theorem b_ref33_bytes_map (m : Nat) {k_l3 : Int → Int → List Int → Option (List (RV C))} {q_l3 : Int → Int → List Int → Option (ByteArray)} (h_l3 : ∀ n_0 i_4 b_3, k_l3 n_0 i_4 b_3 = (q_l3 n_0 i_4 b_3).map w_ref33_bytes) (n_0 : Int) : b_ref33_bytes m (fun x0 => some (w_ref33_bytes x0)) k_l3 n_0 = (b_ref33_bytes m (fun x0 => some x0) q_l3 n_0).map w_ref33_bytes := by
  simp only [b_ref33_bytes, cond_map, bind_map, map_none, map_some, h_l3]
noncomputable def ref33_bytes (m : Nat) (n_0 : Int) : Option (ByteArray) := b_ref33_bytes m (fun x0 => some x0) (fun n_0 i_4 b_3 => ref33_bytes_l3 m m n_0 i_4 b_3) n_0
theorem ref33_bytes_fun (m : Nat) (n_0 : Int) : funK Try.prog Ψ0 keep m 1 41 [(dInt .i64).e n_0] = (ref33_bytes m n_0).map w_ref33_bytes := by
  rw [ref33_bytes_pre]
  exact b_ref33_bytes_map m (fun n_0 i_4 b_3 => L_ref33_bytes_l3_eq m m n_0 i_4 b_3) n_0
noncomputable def K_ref33_bytes (m : Nat) : KnownF C := mkK (dCons (dInt .i64) dNil) (fun a => ref33_bytes m a.1) w_ref33_bytes
theorem K_ref33_bytes_ok (m : Nat) : KnownAt C Try.prog 41 fun l => (K_ref33_bytes m).run _ l some :=
  mkK_known good fit Ψ0_ok (keep := keep) (m := m) (d := 1) fun a => ref33_bytes_fun m a.1
/-! ### signalbench/signalbenchref33.pack -/
noncomputable def Ψ_ref33_pack (m : Nat) : Known C := fun f => match f with
  | 41 => some (K_ref33_bytes m)
  | _ => none
theorem Ψ_ref33_pack_ok (m : Nat) : KnownOk C Try.prog (Ψ_ref33_pack m) := by
  intro f φ h
  unfold Ψ_ref33_pack at h
  split at h
  · injection h with h; subst h; exact K_ref33_bytes_ok m
  · cases h
def w_ref33_pack (b : State) : List (RV C) := [(dS of_State cells_State of_State_ok).e b]
noncomputable def Q_ref33_pack_3 (m : Nat) : St C → (Exit → St C → Option (List (RV C))) → Option (List (RV C)) := fun σ k => codeK Try.prog (Ψ_ref33_pack m) (callK Try.prog (Ψ_ref33_pack m) keep m 0) (keep 33) m (subC body33 [.r, .r, .l, .r, .b, .o]) σ k
noncomputable def KL_ref33_pack_3 (m : Nat) : Exit → St C → Option (List (RV C)) := contK Try.prog (Ψ_ref33_pack m) (callK Try.prog (Ψ_ref33_pack m) keep m 0) (keep 33) m body33 [.r, .r, .l, .r, .b, .o] (leaveK Try.prog Try.f33.results.toList (finK Try.prog Try.f33.resultTypes.toList))
noncomputable def L_ref33_pack_l3 (m n : Nat) (i_5 : Int) (l_1 : List Signalbenchref33_request) (c1 : State) (c2 : State) : Option (List (RV C)) := iterK (Q_ref33_pack_3 m) (St.norm (keep 33 3)) n ({ T := [.dead, .fl (.one (.sl 0)), .fl (.one (.ptr 1 0)), .dead, .fl (.one (.ptr 2 0)), .fl (.one (.int .i64 i_5))] ++ List.replicate 34 .dead, F := [[]], H := [.row 66 false l_1, .box 27 (cells_State c1), .box 27 (cells_State c2)] } : St C) (KL_ref33_pack_3 m)
noncomputable def b_ref33_pack_l3 {R : Type} (m : Nat) (ret : State → Option R) (k_l3 : Int → List Signalbenchref33_request → State → State → Option R) (i_5 : Int) (l_1 : List Signalbenchref33_request) (c1 : State) (c2 : State) : Option R :=
 bif decide (i_5 < (l_1.length : Int)) then
 (bif decide (0 ≤ i_5) then
 (bif decide (i_5 < (l_1.length : Int)) then
 (bif decide (((c1.Data.size + (toBytes [IntKind.u8.wrap (l_1.getD i_5.toNat dflt_Signalbenchref33_request).tag_]).size) : Int) > 9223372036854775807) then
 none
 else
 bif decide (0 ≤ i_5) then
 (bif decide (i_5 < (l_1.length : Int)) then
 ((ref33_bytes m (l_1.getD i_5.toNat dflt_Signalbenchref33_request).from_).bind fun r0 =>
 bif decide ((((c1.Data ++ toBytes [IntKind.u8.wrap (l_1.getD i_5.toNat dflt_Signalbenchref33_request).tag_]).size + r0.size) : Int) > 9223372036854775807) then
 none
 else
 bif decide (0 ≤ i_5) then
 (bif decide (i_5 < (l_1.length : Int)) then
 ((ref33_bytes m (l_1.getD i_5.toNat dflt_Signalbenchref33_request).to_).bind fun r1 =>
 bif decide ((((c1.Data ++ toBytes [IntKind.u8.wrap (l_1.getD i_5.toNat dflt_Signalbenchref33_request).tag_] ++ r0).size + r1.size) : Int) > 9223372036854775807) then
 none
 else
 k_l3 (IntKind.i64.wrap (i_5 + 1)) l_1 { c1 with Data := c1.Data ++ toBytes [IntKind.u8.wrap (l_1.getD i_5.toNat dflt_Signalbenchref33_request).tag_] ++ r0 ++ r1 } c2)
 else
 none)
 else
 none)
 else
 none)
 else
 none)
 else
 none)
 else
 none)
 else
 ret c1
theorem L_ref33_pack_l3_step (m n : Nat) (i_5 : Int) (l_1 : List Signalbenchref33_request) (c1 : State) (c2 : State) : L_ref33_pack_l3 m (n + 1) i_5 l_1 c1 c2 = b_ref33_pack_l3 m (fun x0 => some (w_ref33_pack x0)) (fun i_5 l_1 c1 c2 => L_ref33_pack_l3 m n i_5 l_1 c1 c2) i_5 l_1 c1 c2 := by kernel_rfl
theorem b_ref33_pack_l3_map (m : Nat) {k_l3 : Int → List Signalbenchref33_request → State → State → Option (List (RV C))} {q_l3 : Int → List Signalbenchref33_request → State → State → Option (State)} (h_l3 : ∀ i_5 l_1 c1 c2, k_l3 i_5 l_1 c1 c2 = (q_l3 i_5 l_1 c1 c2).map w_ref33_pack) (i_5 : Int) (l_1 : List Signalbenchref33_request) (c1 : State) (c2 : State) : b_ref33_pack_l3 m (fun x0 => some (w_ref33_pack x0)) k_l3 i_5 l_1 c1 c2 = (b_ref33_pack_l3 m (fun x0 => some x0) q_l3 i_5 l_1 c1 c2).map w_ref33_pack := by
  simp only [b_ref33_pack_l3, cond_map, bind_map, map_none, map_some, h_l3]
noncomputable def ref33_pack_l3 (m : Nat) : Nat → Int → List Signalbenchref33_request → State → State → Option (State)
  | 0, _, _, _, _ => none
  | n + 1, i_5, l_1, c1, c2 => b_ref33_pack_l3 m (fun x0 => some x0) (fun i_5 l_1 c1 c2 => ref33_pack_l3 m n i_5 l_1 c1 c2) i_5 l_1 c1 c2
theorem L_ref33_pack_l3_eq (m : Nat) : ∀ (n : Nat) (i_5 : Int) (l_1 : List Signalbenchref33_request) (c1 : State) (c2 : State), L_ref33_pack_l3 m n i_5 l_1 c1 c2 = (ref33_pack_l3 m n i_5 l_1 c1 c2).map w_ref33_pack
  | 0, i_5, l_1, c1, c2 => by kernel_rfl
  | n + 1, i_5, l_1, c1, c2 => by
    rw [L_ref33_pack_l3_step]
    exact b_ref33_pack_l3_map m (fun i_5 l_1 c1 c2 => L_ref33_pack_l3_eq m n i_5 l_1 c1 c2) i_5 l_1 c1 c2
noncomputable def b_ref33_pack {R : Type} (m : Nat) (ret : State → Option R) (k_l3 : Int → List Signalbenchref33_request → State → State → Option R) (s_0 : State) (l_1 : List Signalbenchref33_request) : Option R :=
 k_l3 0 l_1 { s_0 with Data := bs [] } (State.mk 0 0 0 0 0 0 0 (bs []))
theorem ref33_pack_pre (m : Nat) (s_0 : State) (l_1 : List Signalbenchref33_request) : funK Try.prog (Ψ_ref33_pack m) keep m 1 33 [(dS of_State cells_State of_State_ok).e s_0, (dRow 66).e l_1] = b_ref33_pack m (fun x0 => some (w_ref33_pack x0)) (fun i_5 l_1 c1 c2 => L_ref33_pack_l3 m m i_5 l_1 c1 c2) s_0 l_1 := by kernel_rfl
theorem b_ref33_pack_map (m : Nat) {k_l3 : Int → List Signalbenchref33_request → State → State → Option (List (RV C))} {q_l3 : Int → List Signalbenchref33_request → State → State → Option (State)} (h_l3 : ∀ i_5 l_1 c1 c2, k_l3 i_5 l_1 c1 c2 = (q_l3 i_5 l_1 c1 c2).map w_ref33_pack) (s_0 : State) (l_1 : List Signalbenchref33_request) : b_ref33_pack m (fun x0 => some (w_ref33_pack x0)) k_l3 s_0 l_1 = (b_ref33_pack m (fun x0 => some x0) q_l3 s_0 l_1).map w_ref33_pack := by
  simp only [b_ref33_pack, cond_map, bind_map, map_none, map_some, h_l3]
noncomputable def ref33_pack (m : Nat) (s_0 : State) (l_1 : List Signalbenchref33_request) : Option (State) := b_ref33_pack m (fun x0 => some x0) (fun i_5 l_1 c1 c2 => ref33_pack_l3 m m i_5 l_1 c1 c2) s_0 l_1
theorem ref33_pack_fun (m : Nat) (s_0 : State) (l_1 : List Signalbenchref33_request) : funK Try.prog (Ψ_ref33_pack m) keep m 1 33 [(dS of_State cells_State of_State_ok).e s_0, (dRow 66).e l_1] = (ref33_pack m s_0 l_1).map w_ref33_pack := by
  rw [ref33_pack_pre]
  exact b_ref33_pack_map m (fun i_5 l_1 c1 c2 => L_ref33_pack_l3_eq m m i_5 l_1 c1 c2) s_0 l_1
noncomputable def K_ref33_pack (m : Nat) : KnownF C := mkK (dCons (dS of_State cells_State of_State_ok) (dCons (dRow 66) dNil)) (fun a => ref33_pack m a.1 a.2.1) w_ref33_pack
theorem K_ref33_pack_ok (m : Nat) : KnownAt C Try.prog 33 fun l => (K_ref33_pack m).run _ l some :=
  mkK_known good fit (Ψ_ref33_pack_ok m) (keep := keep) (m := m) (d := 1) fun a => ref33_pack_fun m a.1 a.2.1
/-! ### signalbench/signalbenchref33.place -/
def w_ref33_place (b : Int) : List (RV C) := [(dInt .i64).e b]
noncomputable def Q_ref33_place_2 (m : Nat) : St C → (Exit → St C → Option (List (RV C))) → Option (List (RV C)) := fun σ k => codeK Try.prog Ψ0 (callK Try.prog Ψ0 keep m 0) (keep 42) m (subC body42 [.r, .l, .r, .b, .o]) σ k
noncomputable def KL_ref33_place_2 (m : Nat) : Exit → St C → Option (List (RV C)) := contK Try.prog Ψ0 (callK Try.prog Ψ0 keep m 0) (keep 42) m body42 [.r, .l, .r, .b, .o] (leaveK Try.prog Try.f42.results.toList (finK Try.prog Try.f42.resultTypes.toList))
noncomputable def L_ref33_place_l2 (m n : Nat) (tag_1 : Int) (i_5 : Int) (l_0 : List Signalbenchref33_request) : Option (List (RV C)) := iterK (Q_ref33_place_2 m) (St.norm (keep 42 2)) n ({ T := [.fl (.one (.sl 0)), .fl (.one (.int .i64 tag_1)), .dead, .dead, .dead, .fl (.one (.int .i64 i_5))] ++ List.replicate 14 .dead, F := [[]], H := [.row 66 false l_0] } : St C) (KL_ref33_place_2 m)
noncomputable def b_ref33_place_l2 {R : Type} (m : Nat) (ret : Int → Option R) (k_l2 : Int → Int → List Signalbenchref33_request → Option R) (tag_1 : Int) (i_5 : Int) (l_0 : List Signalbenchref33_request) : Option R :=
 bif decide (i_5 < (l_0.length : Int)) then
 bif decide (0 ≤ i_5) then
 bif decide (i_5 < (l_0.length : Int)) then
 bif (l_0.getD i_5.toNat dflt_Signalbenchref33_request).tag_ == tag_1 then
 ret i_5
 else
 k_l2 tag_1 (IntKind.i64.wrap (i_5 + 1)) l_0
 else
 none
 else
 none
 else
 ret (-1)
theorem L_ref33_place_l2_step (m n : Nat) (tag_1 : Int) (i_5 : Int) (l_0 : List Signalbenchref33_request) : L_ref33_place_l2 m (n + 1) tag_1 i_5 l_0 = b_ref33_place_l2 m (fun x0 => some (w_ref33_place x0)) (fun tag_1 i_5 l_0 => L_ref33_place_l2 m n tag_1 i_5 l_0) tag_1 i_5 l_0 := by kernel_rfl
theorem b_ref33_place_l2_map (m : Nat) {k_l2 : Int → Int → List Signalbenchref33_request → Option (List (RV C))} {q_l2 : Int → Int → List Signalbenchref33_request → Option (Int)} (h_l2 : ∀ tag_1 i_5 l_0, k_l2 tag_1 i_5 l_0 = (q_l2 tag_1 i_5 l_0).map w_ref33_place) (tag_1 : Int) (i_5 : Int) (l_0 : List Signalbenchref33_request) : b_ref33_place_l2 m (fun x0 => some (w_ref33_place x0)) k_l2 tag_1 i_5 l_0 = (b_ref33_place_l2 m (fun x0 => some x0) q_l2 tag_1 i_5 l_0).map w_ref33_place := by
  simp only [b_ref33_place_l2, cond_map, bind_map, map_none, map_some, h_l2]
noncomputable def ref33_place_l2 (m : Nat) : Nat → Int → Int → List Signalbenchref33_request → Option (Int)
  | 0, _, _, _ => none
  | n + 1, tag_1, i_5, l_0 => b_ref33_place_l2 m (fun x0 => some x0) (fun tag_1 i_5 l_0 => ref33_place_l2 m n tag_1 i_5 l_0) tag_1 i_5 l_0
theorem L_ref33_place_l2_eq (m : Nat) : ∀ (n : Nat) (tag_1 : Int) (i_5 : Int) (l_0 : List Signalbenchref33_request), L_ref33_place_l2 m n tag_1 i_5 l_0 = (ref33_place_l2 m n tag_1 i_5 l_0).map w_ref33_place
  | 0, tag_1, i_5, l_0 => by kernel_rfl
  | n + 1, tag_1, i_5, l_0 => by
    rw [L_ref33_place_l2_step]
    exact b_ref33_place_l2_map m (fun tag_1 i_5 l_0 => L_ref33_place_l2_eq m n tag_1 i_5 l_0) tag_1 i_5 l_0
noncomputable def b_ref33_place {R : Type} (m : Nat) (ret : Int → Option R) (k_l2 : Int → Int → List Signalbenchref33_request → Option R) (l_0 : List Signalbenchref33_request) (tag_1 : Int) : Option R :=
 k_l2 tag_1 0 l_0
theorem ref33_place_pre (m : Nat) (l_0 : List Signalbenchref33_request) (tag_1 : Int) : funK Try.prog Ψ0 keep m 1 42 [(dRow 66).e l_0, (dInt .i64).e tag_1] = b_ref33_place m (fun x0 => some (w_ref33_place x0)) (fun tag_1 i_5 l_0 => L_ref33_place_l2 m m tag_1 i_5 l_0) l_0 tag_1 := by kernel_rfl
theorem b_ref33_place_map (m : Nat) {k_l2 : Int → Int → List Signalbenchref33_request → Option (List (RV C))} {q_l2 : Int → Int → List Signalbenchref33_request → Option (Int)} (h_l2 : ∀ tag_1 i_5 l_0, k_l2 tag_1 i_5 l_0 = (q_l2 tag_1 i_5 l_0).map w_ref33_place) (l_0 : List Signalbenchref33_request) (tag_1 : Int) : b_ref33_place m (fun x0 => some (w_ref33_place x0)) k_l2 l_0 tag_1 = (b_ref33_place m (fun x0 => some x0) q_l2 l_0 tag_1).map w_ref33_place := by
  simp only [b_ref33_place, cond_map, bind_map, map_none, map_some, h_l2]
noncomputable def ref33_place (m : Nat) (l_0 : List Signalbenchref33_request) (tag_1 : Int) : Option (Int) := b_ref33_place m (fun x0 => some x0) (fun tag_1 i_5 l_0 => ref33_place_l2 m m tag_1 i_5 l_0) l_0 tag_1
theorem ref33_place_fun (m : Nat) (l_0 : List Signalbenchref33_request) (tag_1 : Int) : funK Try.prog Ψ0 keep m 1 42 [(dRow 66).e l_0, (dInt .i64).e tag_1] = (ref33_place m l_0 tag_1).map w_ref33_place := by
  rw [ref33_place_pre]
  exact b_ref33_place_map m (fun tag_1 i_5 l_0 => L_ref33_place_l2_eq m m tag_1 i_5 l_0) l_0 tag_1
noncomputable def K_ref33_place (m : Nat) : KnownF C := mkK (dCons (dRow 66) (dCons (dInt .i64) dNil)) (fun a => ref33_place m a.1 a.2.1) w_ref33_place
theorem K_ref33_place_ok (m : Nat) : KnownAt C Try.prog 42 fun l => (K_ref33_place m).run _ l some :=
  mkK_known good fit Ψ0_ok (keep := keep) (m := m) (d := 1) fun a => ref33_place_fun m a.1 a.2.1
/-! ### signalbench/signalbenchref33.without -/
def w_ref33_without (b : List Signalbenchref33_request) : List (RV C) := [(dRow 66).e b]
noncomputable def b_ref33_without {R : Type} (m : Nat) (ret : List Signalbenchref33_request → Option R) (l_0 : List Signalbenchref33_request) (k_1 : Int) : Option R :=
 bif decide (0 ≤ k_1) then
 bif decide (k_1 ≤ (l_0.length : Int)) then
 bif decide (0 ≤ k_1) then
 bif decide ((0 + (List.drop 0 (List.take k_1.toNat l_0)).length) * 24 ≤ 140737488355328) then
 bif decide ((l_0.length : Int) ≤ (l_0.length : Int)) then
 bif decide (0 ≤ IntKind.i64.wrap (k_1 + 1)) then
 bif decide (IntKind.i64.wrap (k_1 + 1) ≤ (l_0.length : Int)) then
 bif decide ((([] ++ List.drop 0 (List.take k_1.toNat l_0)).length + (List.drop (IntKind.i64.wrap (k_1 + 1)).toNat (List.take ((l_0.length : Int)).toNat l_0)).length) * 24 ≤ 140737488355328) then
 ret ([] ++ List.drop 0 (List.take k_1.toNat l_0) ++ List.drop (IntKind.i64.wrap (k_1 + 1)).toNat (List.take ((l_0.length : Int)).toNat l_0))
 else
 none
 else
 none
 else
 none
 else
 none
 else
 none
 else
 none
 else
 none
 else
 none
theorem ref33_without_pre (m : Nat) (l_0 : List Signalbenchref33_request) (k_1 : Int) : funK Try.prog Ψ0 keep m 1 43 [(dRow 66).e l_0, (dInt .i64).e k_1] = b_ref33_without m (fun x0 => some (w_ref33_without x0)) l_0 k_1 := by kernel_rfl
theorem b_ref33_without_map (m : Nat) (l_0 : List Signalbenchref33_request) (k_1 : Int) : b_ref33_without m (fun x0 => some (w_ref33_without x0)) l_0 k_1 = (b_ref33_without m (fun x0 => some x0) l_0 k_1).map w_ref33_without := by
  simp only [b_ref33_without, cond_map, bind_map, map_none, map_some]
noncomputable def ref33_without (m : Nat) (l_0 : List Signalbenchref33_request) (k_1 : Int) : Option (List Signalbenchref33_request) := b_ref33_without m (fun x0 => some x0) l_0 k_1
theorem ref33_without_fun (m : Nat) (l_0 : List Signalbenchref33_request) (k_1 : Int) : funK Try.prog Ψ0 keep m 1 43 [(dRow 66).e l_0, (dInt .i64).e k_1] = (ref33_without m l_0 k_1).map w_ref33_without := by
  rw [ref33_without_pre]
  exact b_ref33_without_map m l_0 k_1
noncomputable def K_ref33_without (m : Nat) : KnownF C := mkK (dCons (dRow 66) (dCons (dInt .i64) dNil)) (fun a => ref33_without m a.1 a.2.1) w_ref33_without
theorem K_ref33_without_ok (m : Nat) : KnownAt C Try.prog 43 fun l => (K_ref33_without m).run _ l some :=
  mkK_known good fit Ψ0_ok (keep := keep) (m := m) (d := 1) fun a => ref33_without_fun m a.1 a.2.1
/-! ### signalbench/signalbenchref33.handle -/
noncomputable def Ψ_ref33_handle (m : Nat) : Known C := fun f => match f with
  | 42 => some (K_ref33_place m)
  | 32 => some (K_ref33_give m)
  | 43 => some (K_ref33_without m)
  | _ => none
theorem Ψ_ref33_handle_ok (m : Nat) : KnownOk C Try.prog (Ψ_ref33_handle m) := by
  intro f φ h
  unfold Ψ_ref33_handle at h
  split at h
  · injection h with h; subst h; exact K_ref33_place_ok m
  · injection h with h; subst h; exact K_ref33_give_ok m
  · injection h with h; subst h; exact K_ref33_without_ok m
  · cases h
def w_ref33_handle (b : List Signalbenchref33_request × List Event) : List (RV C) := [(dRow 66).e b.1, (dRow 32).e b.2]
noncomputable def b_ref33_handle {R : Type} (m : Nat) (ret : List Signalbenchref33_request → List Event → Option R) (l_0 : List Signalbenchref33_request) (e_1 : Event) : Option R :=
 bif e_1.Data.toList == (bs []).toList then
 ret l_0 ([Event.mk 8 e_1.From e_1.To 0 0 (bs []) 8])
 else
 bif decide (0 < (e_1.Data.size : Int)) then
 (bif decide (byteAt e_1.Data 0 < 128) then
 (bif decide (0 < (e_1.Data.size : Int)) then
 ((ref33_place m l_0 (IntKind.i64.wrap (byteAt e_1.Data 0))).bind fun r0 =>
 bif decide (r0 ≥ 0) then
 (bif decide (0 ≤ r0) then
 (bif decide (r0 < (l_0.length : Int)) then
 ((ref33_without m l_0 r0).bind fun r1 =>
 bif decide ((r1.length + 1) * 24 ≤ 140737488355328) then
 ret (r1 ++ [Signalbenchref33_request.mk (IntKind.i64.wrap (byteAt e_1.Data 0)) e_1.From e_1.To]) ([] ++ [Event.mk 8 (l_0.getD r0.toNat dflt_Signalbenchref33_request).from_ e_1.From (l_0.getD r0.toNat dflt_Signalbenchref33_request).tag_ 0 (bs []) 7])
 else
 none)
 else
 none)
 else
 none)
 else
 bif decide ((l_0.length + 1) * 24 ≤ 140737488355328) then
 ret (l_0 ++ [Signalbenchref33_request.mk (IntKind.i64.wrap (byteAt e_1.Data 0)) e_1.From e_1.To]) []
 else
 none)
 else
 none)
 else
 bif decide (0 < (e_1.Data.size : Int)) then
 (bif decide ((e_1.Data.size : Int) ≤ (e_1.Data.size : Int)) then
 (bif decide (1 ≤ (e_1.Data.size : Int)) then
 ((ref33_place m l_0 (IntKind.i64.wrap (IntKind.i64.wrap (byteAt e_1.Data 0) - 128))).bind fun r2 =>
 bif decide (r2 < 0) then
 ret l_0 ([Event.mk 8 e_1.From e_1.To (IntKind.i64.wrap (IntKind.i64.wrap (byteAt e_1.Data 0) - 128)) 0 (e_1.Data.extract 1 ((e_1.Data.size : Int)).toNat) 12])
 else
 bif decide (0 ≤ r2) then
 (bif decide (r2 < (l_0.length : Int)) then
 (bif decide (0 ≤ r2) then
 (bif decide (r2 < (l_0.length : Int)) then
 (bif decide (0 ≤ r2) then
 (bif decide (r2 < (l_0.length : Int)) then
 (bif decide ((l_0.getD r2.toNat dflt_Signalbenchref33_request).to_ > e_1.To) then
 (bif decide (0 ≤ r2) then
 (bif decide (r2 < (l_0.length : Int)) then
 ((ref33_without m l_0 r2).bind fun r3 =>
 ret r3 ([Event.mk 8 (l_0.getD r2.toNat dflt_Signalbenchref33_request).from_ (l_0.getD r2.toNat dflt_Signalbenchref33_request).to_ (IntKind.i64.wrap (IntKind.i64.wrap (byteAt e_1.Data 0) - 128)) (IntKind.i64.wrap (e_1.From - (l_0.getD r2.toNat dflt_Signalbenchref33_request).to_)) (e_1.Data.extract 1 ((e_1.Data.size : Int)).toNat) 0]))
 else
 none)
 else
 none)
 else
 (ref33_without m l_0 r2).bind fun r4 =>
 ret r4 ([Event.mk 8 (l_0.getD r2.toNat dflt_Signalbenchref33_request).from_ e_1.To (IntKind.i64.wrap (IntKind.i64.wrap (byteAt e_1.Data 0) - 128)) (IntKind.i64.wrap (e_1.From - (l_0.getD r2.toNat dflt_Signalbenchref33_request).to_)) (e_1.Data.extract 1 ((e_1.Data.size : Int)).toNat) 0]))
 else
 none)
 else
 none)
 else
 none)
 else
 none)
 else
 none)
 else
 none)
 else
 none)
 else
 none)
 else
 none)
 else
 none
theorem ref33_handle_pre (m : Nat) (l_0 : List Signalbenchref33_request) (e_1 : Event) : funE Try.prog (Ψ_ref33_handle m) keep m 1 34 [.row, .no] [(dRow 66).e l_0, (dS of_Event cells_Event of_Event_ok).e e_1] = b_ref33_handle m (fun x0 x1 => some (w_ref33_handle (x0, x1))) l_0 e_1 := by kernel_rfl
theorem b_ref33_handle_map (m : Nat) (l_0 : List Signalbenchref33_request) (e_1 : Event) : b_ref33_handle m (fun x0 x1 => some (w_ref33_handle (x0, x1))) l_0 e_1 = (b_ref33_handle m (fun x0 x1 => some (x0, x1)) l_0 e_1).map w_ref33_handle := by
  simp only [b_ref33_handle, cond_map, bind_map, map_none, map_some]
noncomputable def ref33_handle (m : Nat) (l_0 : List Signalbenchref33_request) (e_1 : Event) : Option (List Signalbenchref33_request × List Event) := b_ref33_handle m (fun x0 x1 => some (x0, x1)) l_0 e_1
theorem ref33_handle_fun (m : Nat) (l_0 : List Signalbenchref33_request) (e_1 : Event) : funE Try.prog (Ψ_ref33_handle m) keep m 1 34 [.row, .no] [(dRow 66).e l_0, (dS of_Event cells_Event of_Event_ok).e e_1] = (ref33_handle m l_0 e_1).map w_ref33_handle := by
  rw [ref33_handle_pre]
  exact b_ref33_handle_map m l_0 e_1
noncomputable def K_ref33_handle (m : Nat) : KnownF C := mkE [.row, .no] (dCons (dRow 66) (dCons (dS of_Event cells_Event of_Event_ok) dNil)) (fun a => ref33_handle m a.1 a.2.1) w_ref33_handle
theorem K_ref33_handle_ok (m : Nat) : KnownAtE C Try.prog 34 [.row, .no] fun l => (K_ref33_handle m).run _ l some :=
  mkE_known good fit (Ψ_ref33_handle_ok m) (keep := keep) (m := m) (d := 1) fun a => ref33_handle_fun m a.1 a.2.1
/-! ### signalbench/signalbenchref33.Step -/
noncomputable def Ψ_ref33_Step (m : Nat) : Known C := fun f => match f with
  | 15 => some (K_ref33_Check m)
  | 30 => some (K_ref07_Valid m)
  | 31 => some (K_ref33_unpack m)
  | 32 => some (K_ref33_give m)
  | 33 => some (K_ref33_pack m)
  | 34 => some (K_ref33_handle m)
  | _ => none
theorem Ψ_ref33_Step_ok (m : Nat) : KnownOk C Try.prog (Ψ_ref33_Step m) := by
  intro f φ h
  unfold Ψ_ref33_Step at h
  split at h
  · injection h with h; subst h; exact K_ref33_Check_ok m
  · injection h with h; subst h; exact K_ref07_Valid_ok m
  · injection h with h; subst h; exact K_ref33_unpack_ok m
  · injection h with h; subst h; exact K_ref33_give_ok m
  · injection h with h; subst h; exact K_ref33_pack_ok m
  · injection h with h; subst h; exact K_ref33_handle_ok m
  · cases h
def w_ref33_Step (b : State × List Event) : List (RV C) := [(dS of_State cells_State of_State_ok).e b.1, (dRow 32).e b.2]
noncomputable def Q_ref33_Step_7 (m : Nat) : St C → (Exit → St C → Option (List (RV C))) → Option (List (RV C)) := fun σ k => codeK Try.prog (Ψ_ref33_Step m) (callK Try.prog (Ψ_ref33_Step m) keep m 0) (keep 12) m (subC body12 [.r, .r, .r, .r, .r, .l, .r, .b, .o]) σ k
noncomputable def KL_ref33_Step_7 (m : Nat) : Exit → St C → Option (List (RV C)) := contK Try.prog (Ψ_ref33_Step m) (callK Try.prog (Ψ_ref33_Step m) keep m 0) (keep 12) m body12 [.r, .r, .r, .r, .r, .l, .r, .b, .o] (leaveK Try.prog Try.f12.results.toList (finK Try.prog Try.f12.resultTypes.toList))
noncomputable def Q_ref33_Step_15 (m : Nat) : St C → (Exit → St C → Option (List (RV C))) → Option (List (RV C)) := fun σ k => codeK Try.prog (Ψ_ref33_Step m) (callK Try.prog (Ψ_ref33_Step m) keep m 0) (keep 12) m (subC body12 [.r, .r, .r, .r, .r, .r, .r, .l, .r, .l, .l, .r, .b, .o]) σ k
noncomputable def KL_ref33_Step_15 (m : Nat) : Exit → St C → Option (List (RV C)) := contK Try.prog (Ψ_ref33_Step m) (callK Try.prog (Ψ_ref33_Step m) keep m 0) (keep 12) m body12 [.r, .r, .r, .r, .r, .r, .r, .l, .r, .l, .l, .r, .b, .o] (leaveK Try.prog Try.f12.results.toList (finK Try.prog Try.f12.resultTypes.toList))
noncomputable def L_ref33_Step_l7 (m n : Nat) (i_11 : Int) (c0 : Pair) (c1 : State) (c2 : Event) (c3 : State) (out_8 : List Event) (open_9 : List Signalbenchref33_request) (all_10 : List Signalbenchref33_request) : Option (List (RV C)) := iterK (Q_ref33_Step_7 m) (St.norm (keep 12 7)) n ({ T := [.dead, .dead, .dead, .fl (.one (.ptr 0 0)), .fl (.one (.ptr 1 0)), .fl (.one (.ptr 2 0)), .fl (.one (.ptr 3 0)), .dead, .fl (.one (.sl 4)), .fl (.one (.sl 5)), .fl (.one (.sl 6)), .fl (.one (.int .i64 i_11))] ++ List.replicate 108 .dead, F := [[]], H := [.box 23 (cells_Pair c0), .box 27 (cells_State c1), .box 32 (cells_Event c2), .box 27 (cells_State c3), .row 32 true out_8, .row 66 true open_9, .row 66 true all_10] } : St C) (KL_ref33_Step_7 m)
noncomputable def L_ref33_Step_l15 (m n : Nat) (i_12 : Int) (c0 : State) (c1 : Event) (c2 : State) (out_8 : List Event) (open_9 : List Signalbenchref33_request) : Option (List (RV C)) := iterK (Q_ref33_Step_15 m) (St.norm (keep 12 15)) n ({ T := [.dead, .dead, .dead, .dead, .fl (.one (.ptr 0 0)), .fl (.one (.ptr 1 0)), .fl (.one (.ptr 2 0)), .dead, .fl (.one (.sl 3)), .fl (.one (.sl 4)), .dead, .dead, .fl (.one (.int .i64 i_12))] ++ List.replicate 107 .dead, F := [[]], H := [.box 27 (cells_State c0), .box 32 (cells_Event c1), .box 27 (cells_State c2), .row 32 true out_8, .row 66 true open_9] } : St C) (KL_ref33_Step_15 m)
noncomputable def b_ref33_Step_l15 {R : Type} (m : Nat) (ret : State → List Event → Option R) (k_l15 : Int → State → Event → State → List Event → List Signalbenchref33_request → Option R) (i_12 : Int) (c0 : State) (c1 : Event) (c2 : State) (out_8 : List Event) (open_9 : List Signalbenchref33_request) : Option R :=
 bif decide (i_12 < (open_9.length : Int)) then
 bif decide (0 ≤ i_12) then
 bif decide (i_12 < (open_9.length : Int)) then
 bif decide ((out_8.length + 1) * 64 ≤ 140737488355328) then
 k_l15 (IntKind.i64.wrap (i_12 + 1)) c0 c1 c2 (out_8 ++ [Event.mk 8 (open_9.getD i_12.toNat dflt_Signalbenchref33_request).from_ c1.From (open_9.getD i_12.toNat dflt_Signalbenchref33_request).tag_ 0 (bs []) 7]) open_9
 else
 none
 else
 none
 else
 none
 else
 (ref33_pack m c0 []).bind fun r0 =>
 ret r0 out_8
theorem L_ref33_Step_l15_step (m n : Nat) (i_12 : Int) (c0 : State) (c1 : Event) (c2 : State) (out_8 : List Event) (open_9 : List Signalbenchref33_request) : L_ref33_Step_l15 m (n + 1) i_12 c0 c1 c2 out_8 open_9 = b_ref33_Step_l15 m (fun x0 x1 => some (w_ref33_Step (x0, x1))) (fun i_12 c0 c1 c2 out_8 open_9 => L_ref33_Step_l15 m n i_12 c0 c1 c2 out_8 open_9) i_12 c0 c1 c2 out_8 open_9 := by kernel_rfl
theorem b_ref33_Step_l15_map (m : Nat) {k_l15 : Int → State → Event → State → List Event → List Signalbenchref33_request → Option (List (RV C))} {q_l15 : Int → State → Event → State → List Event → List Signalbenchref33_request → Option (State × List Event)} (h_l15 : ∀ i_12 c0 c1 c2 out_8 open_9, k_l15 i_12 c0 c1 c2 out_8 open_9 = (q_l15 i_12 c0 c1 c2 out_8 open_9).map w_ref33_Step) (i_12 : Int) (c0 : State) (c1 : Event) (c2 : State) (out_8 : List Event) (open_9 : List Signalbenchref33_request) : b_ref33_Step_l15 m (fun x0 x1 => some (w_ref33_Step (x0, x1))) k_l15 i_12 c0 c1 c2 out_8 open_9 = (b_ref33_Step_l15 m (fun x0 x1 => some (x0, x1)) q_l15 i_12 c0 c1 c2 out_8 open_9).map w_ref33_Step := by
  simp only [b_ref33_Step_l15, cond_map, bind_map, map_none, map_some, h_l15]
noncomputable def ref33_Step_l15 (m : Nat) : Nat → Int → State → Event → State → List Event → List Signalbenchref33_request → Option (State × List Event)
  | 0, _, _, _, _, _, _ => none
  | n + 1, i_12, c0, c1, c2, out_8, open_9 => b_ref33_Step_l15 m (fun x0 x1 => some (x0, x1)) (fun i_12 c0 c1 c2 out_8 open_9 => ref33_Step_l15 m n i_12 c0 c1 c2 out_8 open_9) i_12 c0 c1 c2 out_8 open_9
theorem L_ref33_Step_l15_eq (m : Nat) : ∀ (n : Nat) (i_12 : Int) (c0 : State) (c1 : Event) (c2 : State) (out_8 : List Event) (open_9 : List Signalbenchref33_request), L_ref33_Step_l15 m n i_12 c0 c1 c2 out_8 open_9 = (ref33_Step_l15 m n i_12 c0 c1 c2 out_8 open_9).map w_ref33_Step
  | 0, i_12, c0, c1, c2, out_8, open_9 => by kernel_rfl
  | n + 1, i_12, c0, c1, c2, out_8, open_9 => by
    rw [L_ref33_Step_l15_step]
    exact b_ref33_Step_l15_map m (fun i_12 c0 c1 c2 out_8 open_9 => L_ref33_Step_l15_eq m n i_12 c0 c1 c2 out_8 open_9) i_12 c0 c1 c2 out_8 open_9
noncomputable def b_ref33_Step_l7 {R : Type} (m : Nat) (ret : State → List Event → Option R) (k_l7 : Int → Pair → State → Event → State → List Event → List Signalbenchref33_request → List Signalbenchref33_request → Option R) (k_l15 : Int → State → Event → State → List Event → List Signalbenchref33_request → Option R) (i_11 : Int) (c0 : Pair) (c1 : State) (c2 : Event) (c3 : State) (out_8 : List Event) (open_9 : List Signalbenchref33_request) (all_10 : List Signalbenchref33_request) : Option R :=
 bif decide (i_11 < (all_10.length : Int)) then
 bif decide (0 ≤ i_11) then
 bif decide (i_11 < (all_10.length : Int)) then
 bif decide (IntKind.i64.wrap (c2.From - (all_10.getD i_11.toNat dflt_Signalbenchref33_request).to_) > c0.Timeout) then
 bif decide (0 ≤ i_11) then
 bif decide (i_11 < (all_10.length : Int)) then
 bif decide (0 ≤ i_11) then
 bif decide (i_11 < (all_10.length : Int)) then
 bif decide ((out_8.length + 1) * 64 ≤ 140737488355328) then
 k_l7 (IntKind.i64.wrap (i_11 + 1)) c0 c1 c2 c3 (out_8 ++ [Event.mk 8 (all_10.getD i_11.toNat dflt_Signalbenchref33_request).from_ (IntKind.i64.wrap ((all_10.getD i_11.toNat dflt_Signalbenchref33_request).to_ + c0.Timeout)) (all_10.getD i_11.toNat dflt_Signalbenchref33_request).tag_ 0 (bs []) 11]) open_9 all_10
 else
 none
 else
 none
 else
 none
 else
 none
 else
 none
 else
 bif decide (0 ≤ i_11) then
 bif decide (i_11 < (all_10.length : Int)) then
 bif decide ((open_9.length + 1) * 24 ≤ 140737488355328) then
 k_l7 (IntKind.i64.wrap (i_11 + 1)) c0 c1 c2 c3 out_8 (open_9 ++ [all_10.getD i_11.toNat dflt_Signalbenchref33_request]) all_10
 else
 none
 else
 none
 else
 none
 else
 none
 else
 none
 else
 bif c2.Fault != 0 then
 k_l15 0 { c1 with At := c2.To, Prev := c2.From } c2 c3 out_8 open_9
 else
 (ref33_handle m open_9 c2).bind fun r0 =>
 (ref33_pack m (State.mk c1.Phase c2.To c1.From c1.Count c1.Acc c1.Aux c2.From c1.Data) r0.fst).bind fun r1 =>
 bif decide ((out_8.length + r0.snd.length) * 64 ≤ 140737488355328) then
 ret r1 (out_8 ++ r0.snd)
 else
 none
theorem L_ref33_Step_l7_step (m n : Nat) (i_11 : Int) (c0 : Pair) (c1 : State) (c2 : Event) (c3 : State) (out_8 : List Event) (open_9 : List Signalbenchref33_request) (all_10 : List Signalbenchref33_request) : L_ref33_Step_l7 m (n + 1) i_11 c0 c1 c2 c3 out_8 open_9 all_10 = b_ref33_Step_l7 m (fun x0 x1 => some (w_ref33_Step (x0, x1))) (fun i_11 c0 c1 c2 c3 out_8 open_9 all_10 => L_ref33_Step_l7 m n i_11 c0 c1 c2 c3 out_8 open_9 all_10) (fun i_12 c0 c1 c2 out_8 open_9 => L_ref33_Step_l15 m m i_12 c0 c1 c2 out_8 open_9) i_11 c0 c1 c2 c3 out_8 open_9 all_10 := by kernel_rfl
theorem b_ref33_Step_l7_map (m : Nat) {k_l7 : Int → Pair → State → Event → State → List Event → List Signalbenchref33_request → List Signalbenchref33_request → Option (List (RV C))} {q_l7 : Int → Pair → State → Event → State → List Event → List Signalbenchref33_request → List Signalbenchref33_request → Option (State × List Event)} (h_l7 : ∀ i_11 c0 c1 c2 c3 out_8 open_9 all_10, k_l7 i_11 c0 c1 c2 c3 out_8 open_9 all_10 = (q_l7 i_11 c0 c1 c2 c3 out_8 open_9 all_10).map w_ref33_Step) {k_l15 : Int → State → Event → State → List Event → List Signalbenchref33_request → Option (List (RV C))} {q_l15 : Int → State → Event → State → List Event → List Signalbenchref33_request → Option (State × List Event)} (h_l15 : ∀ i_12 c0 c1 c2 out_8 open_9, k_l15 i_12 c0 c1 c2 out_8 open_9 = (q_l15 i_12 c0 c1 c2 out_8 open_9).map w_ref33_Step) (i_11 : Int) (c0 : Pair) (c1 : State) (c2 : Event) (c3 : State) (out_8 : List Event) (open_9 : List Signalbenchref33_request) (all_10 : List Signalbenchref33_request) : b_ref33_Step_l7 m (fun x0 x1 => some (w_ref33_Step (x0, x1))) k_l7 k_l15 i_11 c0 c1 c2 c3 out_8 open_9 all_10 = (b_ref33_Step_l7 m (fun x0 x1 => some (x0, x1)) q_l7 q_l15 i_11 c0 c1 c2 c3 out_8 open_9 all_10).map w_ref33_Step := by
  simp only [b_ref33_Step_l7, cond_map, bind_map, map_none, map_some, h_l7, h_l15]
noncomputable def ref33_Step_l7 (m : Nat) : Nat → Int → Pair → State → Event → State → List Event → List Signalbenchref33_request → List Signalbenchref33_request → Option (State × List Event)
  | 0, _, _, _, _, _, _, _, _ => none
  | n + 1, i_11, c0, c1, c2, c3, out_8, open_9, all_10 => b_ref33_Step_l7 m (fun x0 x1 => some (x0, x1)) (fun i_11 c0 c1 c2 c3 out_8 open_9 all_10 => ref33_Step_l7 m n i_11 c0 c1 c2 c3 out_8 open_9 all_10) (fun i_12 c0 c1 c2 out_8 open_9 => ref33_Step_l15 m m i_12 c0 c1 c2 out_8 open_9) i_11 c0 c1 c2 c3 out_8 open_9 all_10
theorem L_ref33_Step_l7_eq (m : Nat) : ∀ (n : Nat) (i_11 : Int) (c0 : Pair) (c1 : State) (c2 : Event) (c3 : State) (out_8 : List Event) (open_9 : List Signalbenchref33_request) (all_10 : List Signalbenchref33_request), L_ref33_Step_l7 m n i_11 c0 c1 c2 c3 out_8 open_9 all_10 = (ref33_Step_l7 m n i_11 c0 c1 c2 c3 out_8 open_9 all_10).map w_ref33_Step
  | 0, i_11, c0, c1, c2, c3, out_8, open_9, all_10 => by kernel_rfl
  | n + 1, i_11, c0, c1, c2, c3, out_8, open_9, all_10 => by
    rw [L_ref33_Step_l7_step]
    exact b_ref33_Step_l7_map m (fun i_11 c0 c1 c2 c3 out_8 open_9 all_10 => L_ref33_Step_l7_eq m n i_11 c0 c1 c2 c3 out_8 open_9 all_10) (fun i_12 c0 c1 c2 out_8 open_9 => L_ref33_Step_l15_eq m m i_12 c0 c1 c2 out_8 open_9) i_11 c0 c1 c2 c3 out_8 open_9 all_10
noncomputable def b_ref33_Step {R : Type} (m : Nat) (ret : State → List Event → Option R) (k_l7 : Int → Pair → State → Event → State → List Event → List Signalbenchref33_request → List Signalbenchref33_request → Option R) (c_0 : Pair) (s_1 : State) (e_2 : Event) : Option R :=
 (ref33_Check m c_0).bind fun r0 =>
 bif r0 != 0 then
 ret s_1 []
 else
 (ref07_Valid m e_2).bind fun r1 =>
 bif !r1 then
 ret s_1 []
 else
 bif e_2.Kind != 6 then
 ret s_1 []
 else
 bif decide (e_2.From < s_1.Prev) then
 ret s_1 []
 else
 (ref33_unpack m s_1).bind fun r2 =>
 k_l7 0 c_0 s_1 e_2 (State.mk 0 0 0 0 0 0 0 (bs [])) [] [] r2
theorem ref33_Step_pre (m : Nat) (c_0 : Pair) (s_1 : State) (e_2 : Event) : funK Try.prog (Ψ_ref33_Step m) keep m 1 12 [(dS of_Pair cells_Pair of_Pair_ok).e c_0, (dS of_State cells_State of_State_ok).e s_1, (dS of_Event cells_Event of_Event_ok).e e_2] = b_ref33_Step m (fun x0 x1 => some (w_ref33_Step (x0, x1))) (fun i_11 c0 c1 c2 c3 out_8 open_9 all_10 => L_ref33_Step_l7 m m i_11 c0 c1 c2 c3 out_8 open_9 all_10) c_0 s_1 e_2 := by kernel_rfl
theorem b_ref33_Step_map (m : Nat) {k_l7 : Int → Pair → State → Event → State → List Event → List Signalbenchref33_request → List Signalbenchref33_request → Option (List (RV C))} {q_l7 : Int → Pair → State → Event → State → List Event → List Signalbenchref33_request → List Signalbenchref33_request → Option (State × List Event)} (h_l7 : ∀ i_11 c0 c1 c2 c3 out_8 open_9 all_10, k_l7 i_11 c0 c1 c2 c3 out_8 open_9 all_10 = (q_l7 i_11 c0 c1 c2 c3 out_8 open_9 all_10).map w_ref33_Step) (c_0 : Pair) (s_1 : State) (e_2 : Event) : b_ref33_Step m (fun x0 x1 => some (w_ref33_Step (x0, x1))) k_l7 c_0 s_1 e_2 = (b_ref33_Step m (fun x0 x1 => some (x0, x1)) q_l7 c_0 s_1 e_2).map w_ref33_Step := by
  simp only [b_ref33_Step, cond_map, bind_map, map_none, map_some, h_l7]
noncomputable def ref33_Step (m : Nat) (c_0 : Pair) (s_1 : State) (e_2 : Event) : Option (State × List Event) := b_ref33_Step m (fun x0 x1 => some (x0, x1)) (fun i_11 c0 c1 c2 c3 out_8 open_9 all_10 => ref33_Step_l7 m m i_11 c0 c1 c2 c3 out_8 open_9 all_10) c_0 s_1 e_2
theorem ref33_Step_fun (m : Nat) (c_0 : Pair) (s_1 : State) (e_2 : Event) : funK Try.prog (Ψ_ref33_Step m) keep m 1 12 [(dS of_Pair cells_Pair of_Pair_ok).e c_0, (dS of_State cells_State of_State_ok).e s_1, (dS of_Event cells_Event of_Event_ok).e e_2] = (ref33_Step m c_0 s_1 e_2).map w_ref33_Step := by
  rw [ref33_Step_pre]
  exact b_ref33_Step_map m (fun i_11 c0 c1 c2 c3 out_8 open_9 all_10 => L_ref33_Step_l7_eq m m i_11 c0 c1 c2 c3 out_8 open_9 all_10) c_0 s_1 e_2
noncomputable def K_ref33_Step (m : Nat) : KnownF C := mkK (dCons (dS of_Pair cells_Pair of_Pair_ok) (dCons (dS of_State cells_State of_State_ok) (dCons (dS of_Event cells_Event of_Event_ok) dNil))) (fun a => ref33_Step m a.1 a.2.1 a.2.2.1) w_ref33_Step
theorem K_ref33_Step_ok (m : Nat) : KnownAt C Try.prog 12 fun l => (K_ref33_Step m).run _ l some :=
  mkK_known good fit (Ψ_ref33_Step_ok m) (keep := keep) (m := m) (d := 1) fun a => ref33_Step_fun m a.1 a.2.1 a.2.2.1
/-! ### signalbench/signalbenchlaw33.same -/
def w_law33_same (b : Bool) : List (RV C) := [dBool.e b]
noncomputable def Q_law33_same_4 (m : Nat) : St C → (Exit → St C → Option (List (RV C))) → Option (List (RV C)) := fun σ k => codeK Try.prog Ψ0 (callK Try.prog Ψ0 keep m 0) (keep 13) m (subC body13 [.r, .r, .l, .r, .b, .o]) σ k
noncomputable def KL_law33_same_4 (m : Nat) : Exit → St C → Option (List (RV C)) := contK Try.prog Ψ0 (callK Try.prog Ψ0 keep m 0) (keep 13) m body13 [.r, .r, .l, .r, .b, .o] (leaveK Try.prog Try.f13.results.toList (finK Try.prog Try.f13.resultTypes.toList))
noncomputable def L_law33_same_l4 (m n : Nat) (i_5 : Int) (a_0 : List Event) (b_1 : List Event) : Option (List (RV C)) := iterK (Q_law33_same_4 m) (St.norm (keep 13 4)) n ({ T := [.fl (.one (.sl 0)), .fl (.one (.sl 1)), .dead, .dead, .dead, .fl (.one (.int .i64 i_5))] ++ List.replicate 20 .dead, F := [[]], H := [.row 32 false a_0, .row 32 false b_1] } : St C) (KL_law33_same_4 m)
noncomputable def b_law33_same_l4 {R : Type} (m : Nat) (ret : Bool → Option R) (k_l4 : Int → List Event → List Event → Option R) (i_5 : Int) (a_0 : List Event) (b_1 : List Event) : Option R :=
 bif decide (i_5 < (a_0.length : Int)) then
 bif decide (0 ≤ i_5) then
 bif decide (i_5 < (a_0.length : Int)) then
 bif decide (0 ≤ i_5) then
 bif decide (i_5 < (b_1.length : Int)) then
 bif !((a_0.getD i_5.toNat dflt_Event).Kind == (b_1.getD i_5.toNat dflt_Event).Kind && ((a_0.getD i_5.toNat dflt_Event).From == (b_1.getD i_5.toNat dflt_Event).From && ((a_0.getD i_5.toNat dflt_Event).To == (b_1.getD i_5.toNat dflt_Event).To && ((a_0.getD i_5.toNat dflt_Event).Value == (b_1.getD i_5.toNat dflt_Event).Value && ((a_0.getD i_5.toNat dflt_Event).Aux == (b_1.getD i_5.toNat dflt_Event).Aux && ((a_0.getD i_5.toNat dflt_Event).Data == (b_1.getD i_5.toNat dflt_Event).Data && ((a_0.getD i_5.toNat dflt_Event).Fault == (b_1.getD i_5.toNat dflt_Event).Fault && true))))))) then
 ret false
 else
 k_l4 (IntKind.i64.wrap (i_5 + 1)) a_0 b_1
 else
 none
 else
 none
 else
 none
 else
 none
 else
 ret true
theorem L_law33_same_l4_step (m n : Nat) (i_5 : Int) (a_0 : List Event) (b_1 : List Event) : L_law33_same_l4 m (n + 1) i_5 a_0 b_1 = b_law33_same_l4 m (fun x0 => some (w_law33_same x0)) (fun i_5 a_0 b_1 => L_law33_same_l4 m n i_5 a_0 b_1) i_5 a_0 b_1 := by kernel_rfl
theorem b_law33_same_l4_map (m : Nat) {k_l4 : Int → List Event → List Event → Option (List (RV C))} {q_l4 : Int → List Event → List Event → Option (Bool)} (h_l4 : ∀ i_5 a_0 b_1, k_l4 i_5 a_0 b_1 = (q_l4 i_5 a_0 b_1).map w_law33_same) (i_5 : Int) (a_0 : List Event) (b_1 : List Event) : b_law33_same_l4 m (fun x0 => some (w_law33_same x0)) k_l4 i_5 a_0 b_1 = (b_law33_same_l4 m (fun x0 => some x0) q_l4 i_5 a_0 b_1).map w_law33_same := by
  simp only [b_law33_same_l4, cond_map, bind_map, map_none, map_some, h_l4]
noncomputable def law33_same_l4 (m : Nat) : Nat → Int → List Event → List Event → Option (Bool)
  | 0, _, _, _ => none
  | n + 1, i_5, a_0, b_1 => b_law33_same_l4 m (fun x0 => some x0) (fun i_5 a_0 b_1 => law33_same_l4 m n i_5 a_0 b_1) i_5 a_0 b_1
theorem L_law33_same_l4_eq (m : Nat) : ∀ (n : Nat) (i_5 : Int) (a_0 : List Event) (b_1 : List Event), L_law33_same_l4 m n i_5 a_0 b_1 = (law33_same_l4 m n i_5 a_0 b_1).map w_law33_same
  | 0, i_5, a_0, b_1 => by kernel_rfl
  | n + 1, i_5, a_0, b_1 => by
    rw [L_law33_same_l4_step]
    exact b_law33_same_l4_map m (fun i_5 a_0 b_1 => L_law33_same_l4_eq m n i_5 a_0 b_1) i_5 a_0 b_1
noncomputable def b_law33_same {R : Type} (m : Nat) (ret : Bool → Option R) (k_l4 : Int → List Event → List Event → Option R) (a_0 : List Event) (b_1 : List Event) : Option R :=
 bif (a_0.length : Int) != (b_1.length : Int) then
 ret false
 else
 k_l4 0 a_0 b_1
theorem law33_same_pre (m : Nat) (a_0 : List Event) (b_1 : List Event) : funK Try.prog Ψ0 keep m 1 13 [(dRow 32).e a_0, (dRow 32).e b_1] = b_law33_same m (fun x0 => some (w_law33_same x0)) (fun i_5 a_0 b_1 => L_law33_same_l4 m m i_5 a_0 b_1) a_0 b_1 := by kernel_rfl
theorem b_law33_same_map (m : Nat) {k_l4 : Int → List Event → List Event → Option (List (RV C))} {q_l4 : Int → List Event → List Event → Option (Bool)} (h_l4 : ∀ i_5 a_0 b_1, k_l4 i_5 a_0 b_1 = (q_l4 i_5 a_0 b_1).map w_law33_same) (a_0 : List Event) (b_1 : List Event) : b_law33_same m (fun x0 => some (w_law33_same x0)) k_l4 a_0 b_1 = (b_law33_same m (fun x0 => some x0) q_l4 a_0 b_1).map w_law33_same := by
  simp only [b_law33_same, cond_map, bind_map, map_none, map_some, h_l4]
noncomputable def law33_same (m : Nat) (a_0 : List Event) (b_1 : List Event) : Option (Bool) := b_law33_same m (fun x0 => some x0) (fun i_5 a_0 b_1 => law33_same_l4 m m i_5 a_0 b_1) a_0 b_1
theorem law33_same_fun (m : Nat) (a_0 : List Event) (b_1 : List Event) : funK Try.prog Ψ0 keep m 1 13 [(dRow 32).e a_0, (dRow 32).e b_1] = (law33_same m a_0 b_1).map w_law33_same := by
  rw [law33_same_pre]
  exact b_law33_same_map m (fun i_5 a_0 b_1 => L_law33_same_l4_eq m m i_5 a_0 b_1) a_0 b_1
noncomputable def K_law33_same (m : Nat) : KnownF C := mkK (dCons (dRow 32) (dCons (dRow 32) dNil)) (fun a => law33_same m a.1 a.2.1) w_law33_same
theorem K_law33_same_ok (m : Nat) : KnownAt C Try.prog 13 fun l => (K_law33_same m).run _ l some :=
  mkK_known good fit Ψ0_ok (keep := keep) (m := m) (d := 1) fun a => law33_same_fun m a.1 a.2.1
/-! ### signalbench/signalbenchref33.End -/
noncomputable def Ψ_ref33_End (m : Nat) : Known C := fun f => match f with
  | 15 => some (K_ref33_Check m)
  | 31 => some (K_ref33_unpack m)
  | 32 => some (K_ref33_give m)
  | _ => none
theorem Ψ_ref33_End_ok (m : Nat) : KnownOk C Try.prog (Ψ_ref33_End m) := by
  intro f φ h
  unfold Ψ_ref33_End at h
  split at h
  · injection h with h; subst h; exact K_ref33_Check_ok m
  · injection h with h; subst h; exact K_ref33_unpack_ok m
  · injection h with h; subst h; exact K_ref33_give_ok m
  · cases h
def w_ref33_End (b : List Event) : List (RV C) := [(dRow 32).e b]
noncomputable def Q_ref33_End_6 (m : Nat) : St C → (Exit → St C → Option (List (RV C))) → Option (List (RV C)) := fun σ k => codeK Try.prog (Ψ_ref33_End m) (callK Try.prog (Ψ_ref33_End m) keep m 0) (keep 17) m (subC body17 [.r, .r, .r, .r, .l, .r, .b, .o]) σ k
noncomputable def KL_ref33_End_6 (m : Nat) : Exit → St C → Option (List (RV C)) := contK Try.prog (Ψ_ref33_End m) (callK Try.prog (Ψ_ref33_End m) keep m 0) (keep 17) m body17 [.r, .r, .r, .r, .l, .r, .b, .o] (leaveK Try.prog Try.f17.results.toList (finK Try.prog Try.f17.resultTypes.toList))
noncomputable def L_ref33_End_l6 (m n : Nat) (i_7 : Int) (c0 : State) (out_5 : List Event) (l_6 : List Signalbenchref33_request) : Option (List (RV C)) := iterK (Q_ref33_End_6 m) (St.norm (keep 17 6)) n ({ T := [.dead, .dead, .dead, .fl (.one (.ptr 0 0)), .dead, .fl (.one (.sl 1)), .fl (.one (.sl 2)), .fl (.one (.int .i64 i_7))] ++ List.replicate 24 .dead, F := [[]], H := [.box 27 (cells_State c0), .row 32 true out_5, .row 66 true l_6] } : St C) (KL_ref33_End_6 m)
noncomputable def b_ref33_End_l6 {R : Type} (m : Nat) (ret : List Event → Option R) (k_l6 : Int → State → List Event → List Signalbenchref33_request → Option R) (i_7 : Int) (c0 : State) (out_5 : List Event) (l_6 : List Signalbenchref33_request) : Option R :=
 bif decide (i_7 < (l_6.length : Int)) then
 bif decide (0 ≤ i_7) then
 bif decide (i_7 < (l_6.length : Int)) then
 bif decide ((out_5.length + 1) * 64 ≤ 140737488355328) then
 k_l6 (IntKind.i64.wrap (i_7 + 1)) c0 (out_5 ++ [Event.mk 8 (l_6.getD i_7.toNat dflt_Signalbenchref33_request).from_ c0.At (l_6.getD i_7.toNat dflt_Signalbenchref33_request).tag_ 0 (bs []) 7]) l_6
 else
 none
 else
 none
 else
 none
 else
 ret out_5
theorem L_ref33_End_l6_step (m n : Nat) (i_7 : Int) (c0 : State) (out_5 : List Event) (l_6 : List Signalbenchref33_request) : L_ref33_End_l6 m (n + 1) i_7 c0 out_5 l_6 = b_ref33_End_l6 m (fun x0 => some (w_ref33_End x0)) (fun i_7 c0 out_5 l_6 => L_ref33_End_l6 m n i_7 c0 out_5 l_6) i_7 c0 out_5 l_6 := by kernel_rfl
theorem b_ref33_End_l6_map (m : Nat) {k_l6 : Int → State → List Event → List Signalbenchref33_request → Option (List (RV C))} {q_l6 : Int → State → List Event → List Signalbenchref33_request → Option (List Event)} (h_l6 : ∀ i_7 c0 out_5 l_6, k_l6 i_7 c0 out_5 l_6 = (q_l6 i_7 c0 out_5 l_6).map w_ref33_End) (i_7 : Int) (c0 : State) (out_5 : List Event) (l_6 : List Signalbenchref33_request) : b_ref33_End_l6 m (fun x0 => some (w_ref33_End x0)) k_l6 i_7 c0 out_5 l_6 = (b_ref33_End_l6 m (fun x0 => some x0) q_l6 i_7 c0 out_5 l_6).map w_ref33_End := by
  simp only [b_ref33_End_l6, cond_map, bind_map, map_none, map_some, h_l6]
noncomputable def ref33_End_l6 (m : Nat) : Nat → Int → State → List Event → List Signalbenchref33_request → Option (List Event)
  | 0, _, _, _, _ => none
  | n + 1, i_7, c0, out_5, l_6 => b_ref33_End_l6 m (fun x0 => some x0) (fun i_7 c0 out_5 l_6 => ref33_End_l6 m n i_7 c0 out_5 l_6) i_7 c0 out_5 l_6
theorem L_ref33_End_l6_eq (m : Nat) : ∀ (n : Nat) (i_7 : Int) (c0 : State) (out_5 : List Event) (l_6 : List Signalbenchref33_request), L_ref33_End_l6 m n i_7 c0 out_5 l_6 = (ref33_End_l6 m n i_7 c0 out_5 l_6).map w_ref33_End
  | 0, i_7, c0, out_5, l_6 => by kernel_rfl
  | n + 1, i_7, c0, out_5, l_6 => by
    rw [L_ref33_End_l6_step]
    exact b_ref33_End_l6_map m (fun i_7 c0 out_5 l_6 => L_ref33_End_l6_eq m n i_7 c0 out_5 l_6) i_7 c0 out_5 l_6
noncomputable def b_ref33_End {R : Type} (m : Nat) (ret : List Event → Option R) (k_l6 : Int → State → List Event → List Signalbenchref33_request → Option R) (c_0 : Pair) (s_1 : State) : Option R :=
 (ref33_Check m c_0).bind fun r0 =>
 bif r0 != 0 then
 ret []
 else
 (ref33_unpack m s_1).bind fun r1 =>
 k_l6 0 s_1 [] r1
theorem ref33_End_pre (m : Nat) (c_0 : Pair) (s_1 : State) : funK Try.prog (Ψ_ref33_End m) keep m 1 17 [(dS of_Pair cells_Pair of_Pair_ok).e c_0, (dS of_State cells_State of_State_ok).e s_1] = b_ref33_End m (fun x0 => some (w_ref33_End x0)) (fun i_7 c0 out_5 l_6 => L_ref33_End_l6 m m i_7 c0 out_5 l_6) c_0 s_1 := by kernel_rfl
theorem b_ref33_End_map (m : Nat) {k_l6 : Int → State → List Event → List Signalbenchref33_request → Option (List (RV C))} {q_l6 : Int → State → List Event → List Signalbenchref33_request → Option (List Event)} (h_l6 : ∀ i_7 c0 out_5 l_6, k_l6 i_7 c0 out_5 l_6 = (q_l6 i_7 c0 out_5 l_6).map w_ref33_End) (c_0 : Pair) (s_1 : State) : b_ref33_End m (fun x0 => some (w_ref33_End x0)) k_l6 c_0 s_1 = (b_ref33_End m (fun x0 => some x0) q_l6 c_0 s_1).map w_ref33_End := by
  simp only [b_ref33_End, cond_map, bind_map, map_none, map_some, h_l6]
noncomputable def ref33_End (m : Nat) (c_0 : Pair) (s_1 : State) : Option (List Event) := b_ref33_End m (fun x0 => some x0) (fun i_7 c0 out_5 l_6 => ref33_End_l6 m m i_7 c0 out_5 l_6) c_0 s_1
theorem ref33_End_fun (m : Nat) (c_0 : Pair) (s_1 : State) : funK Try.prog (Ψ_ref33_End m) keep m 1 17 [(dS of_Pair cells_Pair of_Pair_ok).e c_0, (dS of_State cells_State of_State_ok).e s_1] = (ref33_End m c_0 s_1).map w_ref33_End := by
  rw [ref33_End_pre]
  exact b_ref33_End_map m (fun i_7 c0 out_5 l_6 => L_ref33_End_l6_eq m m i_7 c0 out_5 l_6) c_0 s_1
noncomputable def K_ref33_End (m : Nat) : KnownF C := mkK (dCons (dS of_Pair cells_Pair of_Pair_ok) (dCons (dS of_State cells_State of_State_ok) dNil)) (fun a => ref33_End m a.1 a.2.1) w_ref33_End
theorem K_ref33_End_ok (m : Nat) : KnownAt C Try.prog 17 fun l => (K_ref33_End m).run _ l some :=
  mkK_known good fit (Ψ_ref33_End_ok m) (keep := keep) (m := m) (d := 1) fun a => ref33_End_fun m a.1 a.2.1
/-! ### signalbench/signalbenchref33.Decode -/
noncomputable def Ψ_ref33_Decode (m : Nat) : Known C := fun f => match f with
  | 10 => some (K_ref33_Start m)
  | 12 => some (K_ref33_Step m)
  | 17 => some (K_ref33_End m)
  | _ => none
theorem Ψ_ref33_Decode_ok (m : Nat) : KnownOk C Try.prog (Ψ_ref33_Decode m) := by
  intro f φ h
  unfold Ψ_ref33_Decode at h
  split at h
  · injection h with h; subst h; exact K_ref33_Start_ok m
  · injection h with h; subst h; exact K_ref33_Step_ok m
  · injection h with h; subst h; exact K_ref33_End_ok m
  · cases h
def w_ref33_Decode (b : List Event) : List (RV C) := [(dRow 32).e b]
noncomputable def Q_ref33_Decode_4 (m : Nat) : St C → (Exit → St C → Option (List (RV C))) → Option (List (RV C)) := fun σ k => codeK Try.prog (Ψ_ref33_Decode m) (callK Try.prog (Ψ_ref33_Decode m) keep m 0) (keep 19) m (subC body19 [.r, .r, .r, .l, .r, .b, .o]) σ k
noncomputable def KL_ref33_Decode_4 (m : Nat) : Exit → St C → Option (List (RV C)) := contK Try.prog (Ψ_ref33_Decode m) (callK Try.prog (Ψ_ref33_Decode m) keep m 0) (keep 19) m body19 [.r, .r, .r, .l, .r, .b, .o] (leaveK Try.prog Try.f19.results.toList (finK Try.prog Try.f19.resultTypes.toList))
noncomputable def L_ref33_Decode_l4 (m n : Nat) (i_7 : Int) (l_1 : List Event) (c1 : Pair) (out_5 : List Event) (c3 : State) : Option (List (RV C)) := iterK (Q_ref33_Decode_4 m) (St.norm (keep 19 4)) n ({ T := [.dead, .fl (.one (.sl 0)), .fl (.one (.ptr 1 0)), .dead, .dead, .fl (.one (.sl 2)), .fl (.one (.ptr 3 0)), .fl (.one (.int .i64 i_7))] ++ List.replicate 30 .dead, F := [[]], H := [.row 32 false l_1, .box 23 (cells_Pair c1), .row 32 true out_5, .box 27 (cells_State c3)] } : St C) (KL_ref33_Decode_4 m)
noncomputable def b_ref33_Decode_l4 {R : Type} (m : Nat) (ret : List Event → Option R) (k_l4 : Int → List Event → Pair → List Event → State → Option R) (i_7 : Int) (l_1 : List Event) (c1 : Pair) (out_5 : List Event) (c3 : State) : Option R :=
 bif decide (i_7 < (l_1.length : Int)) then
 (bif decide (0 ≤ i_7) then
 (bif decide (i_7 < (l_1.length : Int)) then
 ((ref33_Step m c1 c3 (l_1.getD i_7.toNat dflt_Event)).bind fun r0 =>
 bif decide ((out_5.length + r0.snd.length) * 64 ≤ 140737488355328) then
 k_l4 (IntKind.i64.wrap (i_7 + 1)) l_1 c1 (out_5 ++ r0.snd) r0.fst
 else
 none)
 else
 none)
 else
 none)
 else
 (ref33_End m c1 c3).bind fun r1 =>
 bif decide ((out_5.length + r1.length) * 64 ≤ 140737488355328) then
 ret (out_5 ++ r1)
 else
 none
theorem L_ref33_Decode_l4_step (m n : Nat) (i_7 : Int) (l_1 : List Event) (c1 : Pair) (out_5 : List Event) (c3 : State) : L_ref33_Decode_l4 m (n + 1) i_7 l_1 c1 out_5 c3 = b_ref33_Decode_l4 m (fun x0 => some (w_ref33_Decode x0)) (fun i_7 l_1 c1 out_5 c3 => L_ref33_Decode_l4 m n i_7 l_1 c1 out_5 c3) i_7 l_1 c1 out_5 c3 := by kernel_rfl
theorem b_ref33_Decode_l4_map (m : Nat) {k_l4 : Int → List Event → Pair → List Event → State → Option (List (RV C))} {q_l4 : Int → List Event → Pair → List Event → State → Option (List Event)} (h_l4 : ∀ i_7 l_1 c1 out_5 c3, k_l4 i_7 l_1 c1 out_5 c3 = (q_l4 i_7 l_1 c1 out_5 c3).map w_ref33_Decode) (i_7 : Int) (l_1 : List Event) (c1 : Pair) (out_5 : List Event) (c3 : State) : b_ref33_Decode_l4 m (fun x0 => some (w_ref33_Decode x0)) k_l4 i_7 l_1 c1 out_5 c3 = (b_ref33_Decode_l4 m (fun x0 => some x0) q_l4 i_7 l_1 c1 out_5 c3).map w_ref33_Decode := by
  simp only [b_ref33_Decode_l4, cond_map, bind_map, map_none, map_some, h_l4]
noncomputable def ref33_Decode_l4 (m : Nat) : Nat → Int → List Event → Pair → List Event → State → Option (List Event)
  | 0, _, _, _, _, _ => none
  | n + 1, i_7, l_1, c1, out_5, c3 => b_ref33_Decode_l4 m (fun x0 => some x0) (fun i_7 l_1 c1 out_5 c3 => ref33_Decode_l4 m n i_7 l_1 c1 out_5 c3) i_7 l_1 c1 out_5 c3
theorem L_ref33_Decode_l4_eq (m : Nat) : ∀ (n : Nat) (i_7 : Int) (l_1 : List Event) (c1 : Pair) (out_5 : List Event) (c3 : State), L_ref33_Decode_l4 m n i_7 l_1 c1 out_5 c3 = (ref33_Decode_l4 m n i_7 l_1 c1 out_5 c3).map w_ref33_Decode
  | 0, i_7, l_1, c1, out_5, c3 => by kernel_rfl
  | n + 1, i_7, l_1, c1, out_5, c3 => by
    rw [L_ref33_Decode_l4_step]
    exact b_ref33_Decode_l4_map m (fun i_7 l_1 c1 out_5 c3 => L_ref33_Decode_l4_eq m n i_7 l_1 c1 out_5 c3) i_7 l_1 c1 out_5 c3
noncomputable def b_ref33_Decode {R : Type} (m : Nat) (ret : List Event → Option R) (k_l4 : Int → List Event → Pair → List Event → State → Option R) (c_0 : Pair) (l_1 : List Event) : Option R :=
 k_l4 0 l_1 c_0 [] (State.mk 0 0 0 0 0 0 0 (bs []))
theorem ref33_Decode_pre (m : Nat) (c_0 : Pair) (l_1 : List Event) : funK Try.prog (Ψ_ref33_Decode m) keep m 1 19 [(dS of_Pair cells_Pair of_Pair_ok).e c_0, (dRow 32).e l_1] = b_ref33_Decode m (fun x0 => some (w_ref33_Decode x0)) (fun i_7 l_1 c1 out_5 c3 => L_ref33_Decode_l4 m m i_7 l_1 c1 out_5 c3) c_0 l_1 := by kernel_rfl
theorem b_ref33_Decode_map (m : Nat) {k_l4 : Int → List Event → Pair → List Event → State → Option (List (RV C))} {q_l4 : Int → List Event → Pair → List Event → State → Option (List Event)} (h_l4 : ∀ i_7 l_1 c1 out_5 c3, k_l4 i_7 l_1 c1 out_5 c3 = (q_l4 i_7 l_1 c1 out_5 c3).map w_ref33_Decode) (c_0 : Pair) (l_1 : List Event) : b_ref33_Decode m (fun x0 => some (w_ref33_Decode x0)) k_l4 c_0 l_1 = (b_ref33_Decode m (fun x0 => some x0) q_l4 c_0 l_1).map w_ref33_Decode := by
  simp only [b_ref33_Decode, cond_map, bind_map, map_none, map_some, h_l4]
noncomputable def ref33_Decode (m : Nat) (c_0 : Pair) (l_1 : List Event) : Option (List Event) := b_ref33_Decode m (fun x0 => some x0) (fun i_7 l_1 c1 out_5 c3 => ref33_Decode_l4 m m i_7 l_1 c1 out_5 c3) c_0 l_1
theorem ref33_Decode_fun (m : Nat) (c_0 : Pair) (l_1 : List Event) : funK Try.prog (Ψ_ref33_Decode m) keep m 1 19 [(dS of_Pair cells_Pair of_Pair_ok).e c_0, (dRow 32).e l_1] = (ref33_Decode m c_0 l_1).map w_ref33_Decode := by
  rw [ref33_Decode_pre]
  exact b_ref33_Decode_map m (fun i_7 l_1 c1 out_5 c3 => L_ref33_Decode_l4_eq m m i_7 l_1 c1 out_5 c3) c_0 l_1
noncomputable def K_ref33_Decode (m : Nat) : KnownF C := mkK (dCons (dS of_Pair cells_Pair of_Pair_ok) (dCons (dRow 32) dNil)) (fun a => ref33_Decode m a.1 a.2.1) w_ref33_Decode
theorem K_ref33_Decode_ok (m : Nat) : KnownAt C Try.prog 19 fun l => (K_ref33_Decode m).run _ l some :=
  mkK_known good fit (Ψ_ref33_Decode_ok m) (keep := keep) (m := m) (d := 1) fun a => ref33_Decode_fun m a.1 a.2.1
/-! ### signalbench/signalbenchlaw33.PairDecodes -/
noncomputable def Ψ_law33_PairDecodes (m : Nat) : Known C := fun f => match f with
  | 8 => some (K_law33_lives m)
  | 9 => some (K_pair_Start m)
  | 10 => some (K_ref33_Start m)
  | 11 => some (K_pair_Step m)
  | 12 => some (K_ref33_Step m)
  | 13 => some (K_law33_same m)
  | 14 => some (K_pair_Check m)
  | 15 => some (K_ref33_Check m)
  | 16 => some (K_pair_End m)
  | 17 => some (K_ref33_End m)
  | 18 => some (K_pair_Decode m)
  | 19 => some (K_ref33_Decode m)
  | _ => none
theorem Ψ_law33_PairDecodes_ok (m : Nat) : KnownOk C Try.prog (Ψ_law33_PairDecodes m) := by
  intro f φ h
  unfold Ψ_law33_PairDecodes at h
  split at h
  · injection h with h; subst h; exact K_law33_lives_ok m
  · injection h with h; subst h; exact K_pair_Start_ok m
  · injection h with h; subst h; exact K_ref33_Start_ok m
  · injection h with h; subst h; exact K_pair_Step_ok m
  · injection h with h; subst h; exact K_ref33_Step_ok m
  · injection h with h; subst h; exact K_law33_same_ok m
  · injection h with h; subst h; exact K_pair_Check_ok m
  · injection h with h; subst h; exact K_ref33_Check_ok m
  · injection h with h; subst h; exact K_pair_End_ok m
  · injection h with h; subst h; exact K_ref33_End_ok m
  · injection h with h; subst h; exact K_pair_Decode_ok m
  · injection h with h; subst h; exact K_ref33_Decode_ok m
  · cases h
def w_law33_PairDecodes (b : Bool) : List (RV C) := [dBool.e b]
noncomputable def Q_law33_PairDecodes_7 (m : Nat) : St C → (Exit → St C → Option (List (RV C))) → Option (List (RV C)) := fun σ k => codeK Try.prog (Ψ_law33_PairDecodes m) (callK Try.prog (Ψ_law33_PairDecodes m) keep m 0) (keep 3) m (subC body3 [.r, .r, .r, .r, .l, .r, .b, .o]) σ k
noncomputable def KL_law33_PairDecodes_7 (m : Nat) : Exit → St C → Option (List (RV C)) := contK Try.prog (Ψ_law33_PairDecodes m) (callK Try.prog (Ψ_law33_PairDecodes m) keep m 0) (keep 3) m body3 [.r, .r, .r, .r, .l, .r, .b, .o] (leaveK Try.prog Try.f3.results.toList (finK Try.prog Try.f3.resultTypes.toList))
noncomputable def L_law33_PairDecodes_l7 (m n : Nat) (i_7 : Int) (l_1 : List Event) (c1 : Pair) (c2 : State) (c3 : State) : Option (List (RV C)) := iterK (Q_law33_PairDecodes_7 m) (St.norm (keep 3 7)) n ({ T := [.dead, .fl (.one (.sl 0)), .fl (.one (.ptr 1 0)), .dead, .dead, .fl (.one (.ptr 2 0)), .fl (.one (.ptr 3 0)), .fl (.one (.int .i64 i_7))] ++ List.replicate 68 .dead, F := [[]], H := [.row 32 false l_1, .box 23 (cells_Pair c1), .box 27 (cells_State c2), .box 27 (cells_State c3)] } : St C) (KL_law33_PairDecodes_7 m)
noncomputable def b_law33_PairDecodes_l7 {R : Type} (m : Nat) (ret : Bool → Option R) (k_l7 : Int → List Event → Pair → State → State → Option R) (i_7 : Int) (l_1 : List Event) (c1 : Pair) (c2 : State) (c3 : State) : Option R :=
 bif decide (i_7 < (l_1.length : Int)) then
 (bif decide (0 ≤ i_7) then
 (bif decide (i_7 < (l_1.length : Int)) then
 ((pair_Step m c1 c2 (l_1.getD i_7.toNat dflt_Event)).bind fun r0 =>
 bif decide (0 ≤ i_7) then
 (bif decide (i_7 < (l_1.length : Int)) then
 ((ref33_Step m c1 c3 (l_1.getD i_7.toNat dflt_Event)).bind fun r1 =>
 (law33_same m r0.snd r1.snd).bind fun r2 =>
 bif !r2 then
 ret false
 else
 k_l7 (IntKind.i64.wrap (i_7 + 1)) l_1 c1 r0.fst r1.fst)
 else
 none)
 else
 none)
 else
 none)
 else
 none)
 else
 (pair_Check m c1).bind fun r3 =>
 (ref33_Check m c1).bind fun r4 =>
 bif r3 == r4 then
 ((pair_End m c1 c2).bind fun r5 =>
 (ref33_End m c1 c3).bind fun r6 =>
 (law33_same m r5 r6).bind fun r7 =>
 bif r7 then
 ((pair_Decode m c1 l_1).bind fun r8 =>
 (ref33_Decode m c1 l_1).bind fun r9 =>
 (law33_same m r8 r9).bind fun r10 =>
 ret r10)
 else
 ret false)
 else
 ret false
theorem L_law33_PairDecodes_l7_step (m n : Nat) (i_7 : Int) (l_1 : List Event) (c1 : Pair) (c2 : State) (c3 : State) : L_law33_PairDecodes_l7 m (n + 1) i_7 l_1 c1 c2 c3 = b_law33_PairDecodes_l7 m (fun x0 => some (w_law33_PairDecodes x0)) (fun i_7 l_1 c1 c2 c3 => L_law33_PairDecodes_l7 m n i_7 l_1 c1 c2 c3) i_7 l_1 c1 c2 c3 := by kernel_rfl
theorem b_law33_PairDecodes_l7_map (m : Nat) {k_l7 : Int → List Event → Pair → State → State → Option (List (RV C))} {q_l7 : Int → List Event → Pair → State → State → Option (Bool)} (h_l7 : ∀ i_7 l_1 c1 c2 c3, k_l7 i_7 l_1 c1 c2 c3 = (q_l7 i_7 l_1 c1 c2 c3).map w_law33_PairDecodes) (i_7 : Int) (l_1 : List Event) (c1 : Pair) (c2 : State) (c3 : State) : b_law33_PairDecodes_l7 m (fun x0 => some (w_law33_PairDecodes x0)) k_l7 i_7 l_1 c1 c2 c3 = (b_law33_PairDecodes_l7 m (fun x0 => some x0) q_l7 i_7 l_1 c1 c2 c3).map w_law33_PairDecodes := by
  simp only [b_law33_PairDecodes_l7, cond_map, bind_map, map_none, map_some, h_l7]
noncomputable def law33_PairDecodes_l7 (m : Nat) : Nat → Int → List Event → Pair → State → State → Option (Bool)
  | 0, _, _, _, _, _ => none
  | n + 1, i_7, l_1, c1, c2, c3 => b_law33_PairDecodes_l7 m (fun x0 => some x0) (fun i_7 l_1 c1 c2 c3 => law33_PairDecodes_l7 m n i_7 l_1 c1 c2 c3) i_7 l_1 c1 c2 c3
theorem L_law33_PairDecodes_l7_eq (m : Nat) : ∀ (n : Nat) (i_7 : Int) (l_1 : List Event) (c1 : Pair) (c2 : State) (c3 : State), L_law33_PairDecodes_l7 m n i_7 l_1 c1 c2 c3 = (law33_PairDecodes_l7 m n i_7 l_1 c1 c2 c3).map w_law33_PairDecodes
  | 0, i_7, l_1, c1, c2, c3 => by kernel_rfl
  | n + 1, i_7, l_1, c1, c2, c3 => by
    rw [L_law33_PairDecodes_l7_step]
    exact b_law33_PairDecodes_l7_map m (fun i_7 l_1 c1 c2 c3 => L_law33_PairDecodes_l7_eq m n i_7 l_1 c1 c2 c3) i_7 l_1 c1 c2 c3
noncomputable def b_law33_PairDecodes {R : Type} (m : Nat) (ret : Bool → Option R) (k_l7 : Int → List Event → Pair → State → State → Option R) (c_0 : Pair) (l_1 : List Event) : Option R :=
 (law33_lives m).bind fun r0 =>
 bif !r0 then
 ret false
 else
 bif decide ((l_1.length : Int) > 1500) then
 ret true
 else
 k_l7 0 l_1 c_0 (State.mk 0 0 0 0 0 0 0 (bs [])) (State.mk 0 0 0 0 0 0 0 (bs []))
theorem law33_PairDecodes_pre (m : Nat) (c_0 : Pair) (l_1 : List Event) : funK Try.prog (Ψ_law33_PairDecodes m) keep m 1 3 [(dS of_Pair cells_Pair of_Pair_ok).e c_0, (dRow 32).e l_1] = b_law33_PairDecodes m (fun x0 => some (w_law33_PairDecodes x0)) (fun i_7 l_1 c1 c2 c3 => L_law33_PairDecodes_l7 m m i_7 l_1 c1 c2 c3) c_0 l_1 := by kernel_rfl
theorem b_law33_PairDecodes_map (m : Nat) {k_l7 : Int → List Event → Pair → State → State → Option (List (RV C))} {q_l7 : Int → List Event → Pair → State → State → Option (Bool)} (h_l7 : ∀ i_7 l_1 c1 c2 c3, k_l7 i_7 l_1 c1 c2 c3 = (q_l7 i_7 l_1 c1 c2 c3).map w_law33_PairDecodes) (c_0 : Pair) (l_1 : List Event) : b_law33_PairDecodes m (fun x0 => some (w_law33_PairDecodes x0)) k_l7 c_0 l_1 = (b_law33_PairDecodes m (fun x0 => some x0) q_l7 c_0 l_1).map w_law33_PairDecodes := by
  simp only [b_law33_PairDecodes, cond_map, bind_map, map_none, map_some, h_l7]
noncomputable def law33_PairDecodes (m : Nat) (c_0 : Pair) (l_1 : List Event) : Option (Bool) := b_law33_PairDecodes m (fun x0 => some x0) (fun i_7 l_1 c1 c2 c3 => law33_PairDecodes_l7 m m i_7 l_1 c1 c2 c3) c_0 l_1
theorem law33_PairDecodes_fun (m : Nat) (c_0 : Pair) (l_1 : List Event) : funK Try.prog (Ψ_law33_PairDecodes m) keep m 1 3 [(dS of_Pair cells_Pair of_Pair_ok).e c_0, (dRow 32).e l_1] = (law33_PairDecodes m c_0 l_1).map w_law33_PairDecodes := by
  rw [law33_PairDecodes_pre]
  exact b_law33_PairDecodes_map m (fun i_7 l_1 c1 c2 c3 => L_law33_PairDecodes_l7_eq m m i_7 l_1 c1 c2 c3) c_0 l_1
noncomputable def K_law33_PairDecodes (m : Nat) : KnownF C := mkK (dCons (dS of_Pair cells_Pair of_Pair_ok) (dCons (dRow 32) dNil)) (fun a => law33_PairDecodes m a.1 a.2.1) w_law33_PairDecodes
theorem K_law33_PairDecodes_ok (m : Nat) : KnownAt C Try.prog 3 fun l => (K_law33_PairDecodes m).run _ l some :=
  mkK_known good fit (Ψ_law33_PairDecodes_ok m) (keep := keep) (m := m) (d := 1) fun a => law33_PairDecodes_fun m a.1 a.2.1
/-! ### signalbench/signalbenchlaw33.few -/
def w_law33_few (b : Bool) : List (RV C) := [dBool.e b]
noncomputable def Q_law33_few_5 (m : Nat) : St C → (Exit → St C → Option (List (RV C))) → Option (List (RV C)) := fun σ k => codeK Try.prog Ψ0 (callK Try.prog Ψ0 keep m 0) (keep 20) m (subC body20 [.r, .r, .r, .l, .r, .b, .o]) σ k
noncomputable def KL_law33_few_5 (m : Nat) : Exit → St C → Option (List (RV C)) := contK Try.prog Ψ0 (callK Try.prog Ψ0 keep m 0) (keep 20) m body20 [.r, .r, .r, .l, .r, .b, .o] (leaveK Try.prog Try.f20.results.toList (finK Try.prog Try.f20.resultTypes.toList))
noncomputable def L_law33_few_l5 (m n : Nat) (n_3 : Int) (i_4 : Int) (l_0 : List Item) : Option (List (RV C)) := iterK (Q_law33_few_5 m) (St.norm (keep 20 5)) n ({ T := [.fl (.one (.sl 0)), .dead, .dead, .fl (.one (.int .i64 n_3)), .fl (.one (.int .i64 i_4))] ++ List.replicate 19 .dead, F := [[]], H := [.row 48 false l_0] } : St C) (KL_law33_few_5 m)
noncomputable def b_law33_few_l5 {R : Type} (m : Nat) (ret : Bool → Option R) (k_l5 : Int → Int → List Item → Option R) (n_3 : Int) (i_4 : Int) (l_0 : List Item) : Option R :=
 bif decide (i_4 < (l_0.length : Int)) then
 bif decide (0 ≤ i_4) then
 bif decide (i_4 < (l_0.length : Int)) then
 bif decide (IntKind.i64.wrap (n_3 + ((l_0.getD i_4.toNat dflt_Item).Data.size : Int)) > 20000) then
 ret false
 else
 k_l5 (IntKind.i64.wrap (n_3 + ((l_0.getD i_4.toNat dflt_Item).Data.size : Int))) (IntKind.i64.wrap (i_4 + 1)) l_0
 else
 none
 else
 none
 else
 ret true
theorem L_law33_few_l5_step (m n : Nat) (n_3 : Int) (i_4 : Int) (l_0 : List Item) : L_law33_few_l5 m (n + 1) n_3 i_4 l_0 = b_law33_few_l5 m (fun x0 => some (w_law33_few x0)) (fun n_3 i_4 l_0 => L_law33_few_l5 m n n_3 i_4 l_0) n_3 i_4 l_0 := by kernel_rfl
theorem b_law33_few_l5_map (m : Nat) {k_l5 : Int → Int → List Item → Option (List (RV C))} {q_l5 : Int → Int → List Item → Option (Bool)} (h_l5 : ∀ n_3 i_4 l_0, k_l5 n_3 i_4 l_0 = (q_l5 n_3 i_4 l_0).map w_law33_few) (n_3 : Int) (i_4 : Int) (l_0 : List Item) : b_law33_few_l5 m (fun x0 => some (w_law33_few x0)) k_l5 n_3 i_4 l_0 = (b_law33_few_l5 m (fun x0 => some x0) q_l5 n_3 i_4 l_0).map w_law33_few := by
  simp only [b_law33_few_l5, cond_map, bind_map, map_none, map_some, h_l5]
noncomputable def law33_few_l5 (m : Nat) : Nat → Int → Int → List Item → Option (Bool)
  | 0, _, _, _ => none
  | n + 1, n_3, i_4, l_0 => b_law33_few_l5 m (fun x0 => some x0) (fun n_3 i_4 l_0 => law33_few_l5 m n n_3 i_4 l_0) n_3 i_4 l_0
theorem L_law33_few_l5_eq (m : Nat) : ∀ (n : Nat) (n_3 : Int) (i_4 : Int) (l_0 : List Item), L_law33_few_l5 m n n_3 i_4 l_0 = (law33_few_l5 m n n_3 i_4 l_0).map w_law33_few
  | 0, n_3, i_4, l_0 => by kernel_rfl
  | n + 1, n_3, i_4, l_0 => by
    rw [L_law33_few_l5_step]
    exact b_law33_few_l5_map m (fun n_3 i_4 l_0 => L_law33_few_l5_eq m n n_3 i_4 l_0) n_3 i_4 l_0
noncomputable def b_law33_few {R : Type} (m : Nat) (ret : Bool → Option R) (k_l5 : Int → Int → List Item → Option R) (l_0 : List Item) : Option R :=
 bif decide ((l_0.length : Int) > 1100) then
 ret false
 else
 k_l5 0 0 l_0
theorem law33_few_pre (m : Nat) (l_0 : List Item) : funK Try.prog Ψ0 keep m 1 20 [(dRow 48).e l_0] = b_law33_few m (fun x0 => some (w_law33_few x0)) (fun n_3 i_4 l_0 => L_law33_few_l5 m m n_3 i_4 l_0) l_0 := by kernel_rfl
theorem b_law33_few_map (m : Nat) {k_l5 : Int → Int → List Item → Option (List (RV C))} {q_l5 : Int → Int → List Item → Option (Bool)} (h_l5 : ∀ n_3 i_4 l_0, k_l5 n_3 i_4 l_0 = (q_l5 n_3 i_4 l_0).map w_law33_few) (l_0 : List Item) : b_law33_few m (fun x0 => some (w_law33_few x0)) k_l5 l_0 = (b_law33_few m (fun x0 => some x0) q_l5 l_0).map w_law33_few := by
  simp only [b_law33_few, cond_map, bind_map, map_none, map_some, h_l5]
noncomputable def law33_few (m : Nat) (l_0 : List Item) : Option (Bool) := b_law33_few m (fun x0 => some x0) (fun n_3 i_4 l_0 => law33_few_l5 m m n_3 i_4 l_0) l_0
theorem law33_few_fun (m : Nat) (l_0 : List Item) : funK Try.prog Ψ0 keep m 1 20 [(dRow 48).e l_0] = (law33_few m l_0).map w_law33_few := by
  rw [law33_few_pre]
  exact b_law33_few_map m (fun n_3 i_4 l_0 => L_law33_few_l5_eq m m n_3 i_4 l_0) l_0
noncomputable def K_law33_few (m : Nat) : KnownF C := mkK (dCons (dRow 48) dNil) (fun a => law33_few m a.1) w_law33_few
theorem K_law33_few_ok (m : Nat) : KnownAt C Try.prog 20 fun l => (K_law33_few m).run _ l some :=
  mkK_known good fit Ψ0_ok (keep := keep) (m := m) (d := 1) fun a => law33_few_fun m a.1
end Go.Abs.K
