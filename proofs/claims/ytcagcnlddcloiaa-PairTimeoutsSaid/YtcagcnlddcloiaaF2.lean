/- Plain functions for the functions of the seat, printed by a program of this claim's own, with their proofs. -/
import Derived.Test.YtcagcnlddcloiaaF1
set_option linter.unusedVariables false
set_option linter.unusedSimpArgs false
set_option maxRecDepth 100000
namespace Go.Abs.K
open Go Go.Abs Go.Proofs
/-! ### signalbench/signalbenchref33.Encode -/
noncomputable def Ψ_ref33_Encode (m : Nat) : Known C := fun f => match f with
  | 15 => some (K_ref33_Check m)
  | _ => none
theorem Ψ_ref33_Encode_ok (m : Nat) : KnownOk C Try.prog (Ψ_ref33_Encode m) := by
  intro f φ h
  unfold Ψ_ref33_Encode at h
  split at h
  · injection h with h; subst h; exact K_ref33_Check_ok m
  · cases h
def w_ref33_Encode (b : List Item × Int) : List (RV C) := [(dRow 48).e b.1, (dInt .i64).e b.2]
noncomputable def Q_ref33_Encode_8 (m : Nat) : St C → (Exit → St C → Option (List (RV C))) → Option (List (RV C)) := fun σ k => codeK Try.prog (Ψ_ref33_Encode m) (callK Try.prog (Ψ_ref33_Encode m) keep m 0) (keep 22) m (subC body22 [.r, .r, .r, .r, .l, .r, .b, .o]) σ k
noncomputable def KL_ref33_Encode_8 (m : Nat) : Exit → St C → Option (List (RV C)) := contK Try.prog (Ψ_ref33_Encode m) (callK Try.prog (Ψ_ref33_Encode m) keep m 0) (keep 22) m body22 [.r, .r, .r, .r, .l, .r, .b, .o] (leaveK Try.prog Try.f22.results.toList (finK Try.prog Try.f22.resultTypes.toList))
noncomputable def L_ref33_Encode_l8 (m n : Nat) (i_8 : Int) (l_1 : List Item) (out_7 : List Item) : Option (List (RV C)) := iterK (Q_ref33_Encode_8 m) (St.norm (keep 22 8)) n ({ T := [.dead, .fl (.one (.sl 0)), .dead, .dead, .dead, .dead, .dead, .fl (.one (.sl 1)), .fl (.one (.int .i64 i_8))] ++ List.replicate 104 .dead, F := [[]], H := [.row 48 false l_1, .row 48 true out_7] } : St C) (KL_ref33_Encode_8 m)
noncomputable def b_ref33_Encode_l8 {R : Type} (m : Nat) (ret : List Item → Int → Option R) (k_l8 : Int → List Item → List Item → Option R) (i_8 : Int) (l_1 : List Item) (out_7 : List Item) : Option R :=
 bif decide (i_8 < (l_1.length : Int)) then
 bif decide (0 ≤ i_8) then
 bif decide (i_8 < (l_1.length : Int)) then
 bif decide ((l_1.getD i_8.toNat dflt_Item).Gap < 0) then
 ret [] 1
 else
 bif decide ((l_1.getD i_8.toNat dflt_Item).Gap > 1048576) then
 ret [] 1
 else
 bif decide (((l_1.getD i_8.toNat dflt_Item).Data.size : Int) > 4095) then
 ret [] 6
 else
 bif decide ((l_1.getD i_8.toNat dflt_Item).Value < 0) then
 ret [] 2
 else
 bif decide ((l_1.getD i_8.toNat dflt_Item).Value > 127) then
 ret [] 2
 else
 bif (l_1.getD i_8.toNat dflt_Item).Fault != 0 then
 bif (l_1.getD i_8.toNat dflt_Item).Fault != 12 then
 bif (l_1.getD i_8.toNat dflt_Item).Fault != 7 then
 ret [] 1
 else
 bif (l_1.getD i_8.toNat dflt_Item).Aux != 0 then
 ret [] 1
 else
 bif decide ((((toBytes [IntKind.u8.wrap (IntKind.i64.wrap (128 + (l_1.getD i_8.toNat dflt_Item).Value))]).size + (l_1.getD i_8.toNat dflt_Item).Data.size) : Int) > 9223372036854775807) then
 none
 else
 bif (l_1.getD i_8.toNat dflt_Item).Fault != 12 then
 bif decide ((out_7.length + 1) * 48 ≤ 140737488355328) then
 bif (l_1.getD i_8.toNat dflt_Item).Fault == 7 then
 bif decide (((out_7 ++ [Item.mk 0 0 0 (toBytes [IntKind.u8.wrap (l_1.getD i_8.toNat dflt_Item).Value]) 0]).length + 1) * 48 ≤ 140737488355328) then
 bif decide (((out_7 ++ [Item.mk 0 0 0 (toBytes [IntKind.u8.wrap (l_1.getD i_8.toNat dflt_Item).Value]) 0] ++ [Item.mk 0 0 0 (toBytes [IntKind.u8.wrap (l_1.getD i_8.toNat dflt_Item).Value]) 0]).length + 1) * 48 ≤ 140737488355328) then
 bif decide ((out_7.length : Int) < ((out_7 ++ [Item.mk 0 0 0 (toBytes [IntKind.u8.wrap (l_1.getD i_8.toNat dflt_Item).Value]) 0] ++ [Item.mk 0 0 0 (toBytes [IntKind.u8.wrap (l_1.getD i_8.toNat dflt_Item).Value]) 0] ++ [Item.mk 0 0 0 (toBytes [IntKind.u8.wrap (IntKind.i64.wrap (128 + (l_1.getD i_8.toNat dflt_Item).Value))] ++ (l_1.getD i_8.toNat dflt_Item).Data) 0]).length : Int)) then
 k_l8 (IntKind.i64.wrap (i_8 + 1)) l_1 ((out_7 ++ [Item.mk 0 0 0 (toBytes [IntKind.u8.wrap (l_1.getD i_8.toNat dflt_Item).Value]) 0] ++ [Item.mk 0 0 0 (toBytes [IntKind.u8.wrap (l_1.getD i_8.toNat dflt_Item).Value]) 0] ++ [Item.mk 0 0 0 (toBytes [IntKind.u8.wrap (IntKind.i64.wrap (128 + (l_1.getD i_8.toNat dflt_Item).Value))] ++ (l_1.getD i_8.toNat dflt_Item).Data) 0]).set ((out_7.length : Int)).toNat (Item.mk (l_1.getD i_8.toNat dflt_Item).Gap ((out_7 ++ [Item.mk 0 0 0 (toBytes [IntKind.u8.wrap (l_1.getD i_8.toNat dflt_Item).Value]) 0] ++ [Item.mk 0 0 0 (toBytes [IntKind.u8.wrap (l_1.getD i_8.toNat dflt_Item).Value]) 0] ++ [Item.mk 0 0 0 (toBytes [IntKind.u8.wrap (IntKind.i64.wrap (128 + (l_1.getD i_8.toNat dflt_Item).Value))] ++ (l_1.getD i_8.toNat dflt_Item).Data) 0]).getD ((out_7.length : Int)).toNat dflt_Item).Value ((out_7 ++ [Item.mk 0 0 0 (toBytes [IntKind.u8.wrap (l_1.getD i_8.toNat dflt_Item).Value]) 0] ++ [Item.mk 0 0 0 (toBytes [IntKind.u8.wrap (l_1.getD i_8.toNat dflt_Item).Value]) 0] ++ [Item.mk 0 0 0 (toBytes [IntKind.u8.wrap (IntKind.i64.wrap (128 + (l_1.getD i_8.toNat dflt_Item).Value))] ++ (l_1.getD i_8.toNat dflt_Item).Data) 0]).getD ((out_7.length : Int)).toNat dflt_Item).Aux ((out_7 ++ [Item.mk 0 0 0 (toBytes [IntKind.u8.wrap (l_1.getD i_8.toNat dflt_Item).Value]) 0] ++ [Item.mk 0 0 0 (toBytes [IntKind.u8.wrap (l_1.getD i_8.toNat dflt_Item).Value]) 0] ++ [Item.mk 0 0 0 (toBytes [IntKind.u8.wrap (IntKind.i64.wrap (128 + (l_1.getD i_8.toNat dflt_Item).Value))] ++ (l_1.getD i_8.toNat dflt_Item).Data) 0]).getD ((out_7.length : Int)).toNat dflt_Item).Data ((out_7 ++ [Item.mk 0 0 0 (toBytes [IntKind.u8.wrap (l_1.getD i_8.toNat dflt_Item).Value]) 0] ++ [Item.mk 0 0 0 (toBytes [IntKind.u8.wrap (l_1.getD i_8.toNat dflt_Item).Value]) 0] ++ [Item.mk 0 0 0 (toBytes [IntKind.u8.wrap (IntKind.i64.wrap (128 + (l_1.getD i_8.toNat dflt_Item).Value))] ++ (l_1.getD i_8.toNat dflt_Item).Data) 0]).getD ((out_7.length : Int)).toNat dflt_Item).Fault))
 else
 none
 else
 none
 else
 none
 else
 bif decide (((out_7 ++ [Item.mk 0 0 0 (toBytes [IntKind.u8.wrap (l_1.getD i_8.toNat dflt_Item).Value]) 0]).length + 1) * 48 ≤ 140737488355328) then
 bif decide ((out_7.length : Int) < ((out_7 ++ [Item.mk 0 0 0 (toBytes [IntKind.u8.wrap (l_1.getD i_8.toNat dflt_Item).Value]) 0] ++ [Item.mk 0 0 0 (toBytes [IntKind.u8.wrap (IntKind.i64.wrap (128 + (l_1.getD i_8.toNat dflt_Item).Value))] ++ (l_1.getD i_8.toNat dflt_Item).Data) 0]).length : Int)) then
 k_l8 (IntKind.i64.wrap (i_8 + 1)) l_1 ((out_7 ++ [Item.mk 0 0 0 (toBytes [IntKind.u8.wrap (l_1.getD i_8.toNat dflt_Item).Value]) 0] ++ [Item.mk 0 0 0 (toBytes [IntKind.u8.wrap (IntKind.i64.wrap (128 + (l_1.getD i_8.toNat dflt_Item).Value))] ++ (l_1.getD i_8.toNat dflt_Item).Data) 0]).set ((out_7.length : Int)).toNat (Item.mk (l_1.getD i_8.toNat dflt_Item).Gap ((out_7 ++ [Item.mk 0 0 0 (toBytes [IntKind.u8.wrap (l_1.getD i_8.toNat dflt_Item).Value]) 0] ++ [Item.mk 0 0 0 (toBytes [IntKind.u8.wrap (IntKind.i64.wrap (128 + (l_1.getD i_8.toNat dflt_Item).Value))] ++ (l_1.getD i_8.toNat dflt_Item).Data) 0]).getD ((out_7.length : Int)).toNat dflt_Item).Value ((out_7 ++ [Item.mk 0 0 0 (toBytes [IntKind.u8.wrap (l_1.getD i_8.toNat dflt_Item).Value]) 0] ++ [Item.mk 0 0 0 (toBytes [IntKind.u8.wrap (IntKind.i64.wrap (128 + (l_1.getD i_8.toNat dflt_Item).Value))] ++ (l_1.getD i_8.toNat dflt_Item).Data) 0]).getD ((out_7.length : Int)).toNat dflt_Item).Aux ((out_7 ++ [Item.mk 0 0 0 (toBytes [IntKind.u8.wrap (l_1.getD i_8.toNat dflt_Item).Value]) 0] ++ [Item.mk 0 0 0 (toBytes [IntKind.u8.wrap (IntKind.i64.wrap (128 + (l_1.getD i_8.toNat dflt_Item).Value))] ++ (l_1.getD i_8.toNat dflt_Item).Data) 0]).getD ((out_7.length : Int)).toNat dflt_Item).Data ((out_7 ++ [Item.mk 0 0 0 (toBytes [IntKind.u8.wrap (l_1.getD i_8.toNat dflt_Item).Value]) 0] ++ [Item.mk 0 0 0 (toBytes [IntKind.u8.wrap (IntKind.i64.wrap (128 + (l_1.getD i_8.toNat dflt_Item).Value))] ++ (l_1.getD i_8.toNat dflt_Item).Data) 0]).getD ((out_7.length : Int)).toNat dflt_Item).Fault))
 else
 none
 else
 none
 else
 none
 else
 bif (l_1.getD i_8.toNat dflt_Item).Fault == 7 then
 bif decide ((out_7.length + 1) * 48 ≤ 140737488355328) then
 bif decide (((out_7 ++ [Item.mk 0 0 0 (toBytes [IntKind.u8.wrap (l_1.getD i_8.toNat dflt_Item).Value]) 0]).length + 1) * 48 ≤ 140737488355328) then
 bif decide ((out_7.length : Int) < ((out_7 ++ [Item.mk 0 0 0 (toBytes [IntKind.u8.wrap (l_1.getD i_8.toNat dflt_Item).Value]) 0] ++ [Item.mk 0 0 0 (toBytes [IntKind.u8.wrap (IntKind.i64.wrap (128 + (l_1.getD i_8.toNat dflt_Item).Value))] ++ (l_1.getD i_8.toNat dflt_Item).Data) 0]).length : Int)) then
 k_l8 (IntKind.i64.wrap (i_8 + 1)) l_1 ((out_7 ++ [Item.mk 0 0 0 (toBytes [IntKind.u8.wrap (l_1.getD i_8.toNat dflt_Item).Value]) 0] ++ [Item.mk 0 0 0 (toBytes [IntKind.u8.wrap (IntKind.i64.wrap (128 + (l_1.getD i_8.toNat dflt_Item).Value))] ++ (l_1.getD i_8.toNat dflt_Item).Data) 0]).set ((out_7.length : Int)).toNat (Item.mk (l_1.getD i_8.toNat dflt_Item).Gap ((out_7 ++ [Item.mk 0 0 0 (toBytes [IntKind.u8.wrap (l_1.getD i_8.toNat dflt_Item).Value]) 0] ++ [Item.mk 0 0 0 (toBytes [IntKind.u8.wrap (IntKind.i64.wrap (128 + (l_1.getD i_8.toNat dflt_Item).Value))] ++ (l_1.getD i_8.toNat dflt_Item).Data) 0]).getD ((out_7.length : Int)).toNat dflt_Item).Value ((out_7 ++ [Item.mk 0 0 0 (toBytes [IntKind.u8.wrap (l_1.getD i_8.toNat dflt_Item).Value]) 0] ++ [Item.mk 0 0 0 (toBytes [IntKind.u8.wrap (IntKind.i64.wrap (128 + (l_1.getD i_8.toNat dflt_Item).Value))] ++ (l_1.getD i_8.toNat dflt_Item).Data) 0]).getD ((out_7.length : Int)).toNat dflt_Item).Aux ((out_7 ++ [Item.mk 0 0 0 (toBytes [IntKind.u8.wrap (l_1.getD i_8.toNat dflt_Item).Value]) 0] ++ [Item.mk 0 0 0 (toBytes [IntKind.u8.wrap (IntKind.i64.wrap (128 + (l_1.getD i_8.toNat dflt_Item).Value))] ++ (l_1.getD i_8.toNat dflt_Item).Data) 0]).getD ((out_7.length : Int)).toNat dflt_Item).Data ((out_7 ++ [Item.mk 0 0 0 (toBytes [IntKind.u8.wrap (l_1.getD i_8.toNat dflt_Item).Value]) 0] ++ [Item.mk 0 0 0 (toBytes [IntKind.u8.wrap (IntKind.i64.wrap (128 + (l_1.getD i_8.toNat dflt_Item).Value))] ++ (l_1.getD i_8.toNat dflt_Item).Data) 0]).getD ((out_7.length : Int)).toNat dflt_Item).Fault))
 else
 none
 else
 none
 else
 none
 else
 bif decide ((out_7.length + 1) * 48 ≤ 140737488355328) then
 bif decide ((out_7.length : Int) < ((out_7 ++ [Item.mk 0 0 0 (toBytes [IntKind.u8.wrap (IntKind.i64.wrap (128 + (l_1.getD i_8.toNat dflt_Item).Value))] ++ (l_1.getD i_8.toNat dflt_Item).Data) 0]).length : Int)) then
 k_l8 (IntKind.i64.wrap (i_8 + 1)) l_1 ((out_7 ++ [Item.mk 0 0 0 (toBytes [IntKind.u8.wrap (IntKind.i64.wrap (128 + (l_1.getD i_8.toNat dflt_Item).Value))] ++ (l_1.getD i_8.toNat dflt_Item).Data) 0]).set ((out_7.length : Int)).toNat (Item.mk (l_1.getD i_8.toNat dflt_Item).Gap ((out_7 ++ [Item.mk 0 0 0 (toBytes [IntKind.u8.wrap (IntKind.i64.wrap (128 + (l_1.getD i_8.toNat dflt_Item).Value))] ++ (l_1.getD i_8.toNat dflt_Item).Data) 0]).getD ((out_7.length : Int)).toNat dflt_Item).Value ((out_7 ++ [Item.mk 0 0 0 (toBytes [IntKind.u8.wrap (IntKind.i64.wrap (128 + (l_1.getD i_8.toNat dflt_Item).Value))] ++ (l_1.getD i_8.toNat dflt_Item).Data) 0]).getD ((out_7.length : Int)).toNat dflt_Item).Aux ((out_7 ++ [Item.mk 0 0 0 (toBytes [IntKind.u8.wrap (IntKind.i64.wrap (128 + (l_1.getD i_8.toNat dflt_Item).Value))] ++ (l_1.getD i_8.toNat dflt_Item).Data) 0]).getD ((out_7.length : Int)).toNat dflt_Item).Data ((out_7 ++ [Item.mk 0 0 0 (toBytes [IntKind.u8.wrap (IntKind.i64.wrap (128 + (l_1.getD i_8.toNat dflt_Item).Value))] ++ (l_1.getD i_8.toNat dflt_Item).Data) 0]).getD ((out_7.length : Int)).toNat dflt_Item).Fault))
 else
 none
 else
 none
 else
 bif (l_1.getD i_8.toNat dflt_Item).Aux != 0 then
 ret [] 1
 else
 bif decide ((((toBytes [IntKind.u8.wrap (IntKind.i64.wrap (128 + (l_1.getD i_8.toNat dflt_Item).Value))]).size + (l_1.getD i_8.toNat dflt_Item).Data.size) : Int) > 9223372036854775807) then
 none
 else
 bif (l_1.getD i_8.toNat dflt_Item).Fault != 12 then
 bif decide ((out_7.length + 1) * 48 ≤ 140737488355328) then
 bif (l_1.getD i_8.toNat dflt_Item).Fault == 7 then
 bif decide (((out_7 ++ [Item.mk 0 0 0 (toBytes [IntKind.u8.wrap (l_1.getD i_8.toNat dflt_Item).Value]) 0]).length + 1) * 48 ≤ 140737488355328) then
 bif decide (((out_7 ++ [Item.mk 0 0 0 (toBytes [IntKind.u8.wrap (l_1.getD i_8.toNat dflt_Item).Value]) 0] ++ [Item.mk 0 0 0 (toBytes [IntKind.u8.wrap (l_1.getD i_8.toNat dflt_Item).Value]) 0]).length + 1) * 48 ≤ 140737488355328) then
 bif decide ((out_7.length : Int) < ((out_7 ++ [Item.mk 0 0 0 (toBytes [IntKind.u8.wrap (l_1.getD i_8.toNat dflt_Item).Value]) 0] ++ [Item.mk 0 0 0 (toBytes [IntKind.u8.wrap (l_1.getD i_8.toNat dflt_Item).Value]) 0] ++ [Item.mk 0 0 0 (toBytes [IntKind.u8.wrap (IntKind.i64.wrap (128 + (l_1.getD i_8.toNat dflt_Item).Value))] ++ (l_1.getD i_8.toNat dflt_Item).Data) 0]).length : Int)) then
 k_l8 (IntKind.i64.wrap (i_8 + 1)) l_1 ((out_7 ++ [Item.mk 0 0 0 (toBytes [IntKind.u8.wrap (l_1.getD i_8.toNat dflt_Item).Value]) 0] ++ [Item.mk 0 0 0 (toBytes [IntKind.u8.wrap (l_1.getD i_8.toNat dflt_Item).Value]) 0] ++ [Item.mk 0 0 0 (toBytes [IntKind.u8.wrap (IntKind.i64.wrap (128 + (l_1.getD i_8.toNat dflt_Item).Value))] ++ (l_1.getD i_8.toNat dflt_Item).Data) 0]).set ((out_7.length : Int)).toNat (Item.mk (l_1.getD i_8.toNat dflt_Item).Gap ((out_7 ++ [Item.mk 0 0 0 (toBytes [IntKind.u8.wrap (l_1.getD i_8.toNat dflt_Item).Value]) 0] ++ [Item.mk 0 0 0 (toBytes [IntKind.u8.wrap (l_1.getD i_8.toNat dflt_Item).Value]) 0] ++ [Item.mk 0 0 0 (toBytes [IntKind.u8.wrap (IntKind.i64.wrap (128 + (l_1.getD i_8.toNat dflt_Item).Value))] ++ (l_1.getD i_8.toNat dflt_Item).Data) 0]).getD ((out_7.length : Int)).toNat dflt_Item).Value ((out_7 ++ [Item.mk 0 0 0 (toBytes [IntKind.u8.wrap (l_1.getD i_8.toNat dflt_Item).Value]) 0] ++ [Item.mk 0 0 0 (toBytes [IntKind.u8.wrap (l_1.getD i_8.toNat dflt_Item).Value]) 0] ++ [Item.mk 0 0 0 (toBytes [IntKind.u8.wrap (IntKind.i64.wrap (128 + (l_1.getD i_8.toNat dflt_Item).Value))] ++ (l_1.getD i_8.toNat dflt_Item).Data) 0]).getD ((out_7.length : Int)).toNat dflt_Item).Aux ((out_7 ++ [Item.mk 0 0 0 (toBytes [IntKind.u8.wrap (l_1.getD i_8.toNat dflt_Item).Value]) 0] ++ [Item.mk 0 0 0 (toBytes [IntKind.u8.wrap (l_1.getD i_8.toNat dflt_Item).Value]) 0] ++ [Item.mk 0 0 0 (toBytes [IntKind.u8.wrap (IntKind.i64.wrap (128 + (l_1.getD i_8.toNat dflt_Item).Value))] ++ (l_1.getD i_8.toNat dflt_Item).Data) 0]).getD ((out_7.length : Int)).toNat dflt_Item).Data ((out_7 ++ [Item.mk 0 0 0 (toBytes [IntKind.u8.wrap (l_1.getD i_8.toNat dflt_Item).Value]) 0] ++ [Item.mk 0 0 0 (toBytes [IntKind.u8.wrap (l_1.getD i_8.toNat dflt_Item).Value]) 0] ++ [Item.mk 0 0 0 (toBytes [IntKind.u8.wrap (IntKind.i64.wrap (128 + (l_1.getD i_8.toNat dflt_Item).Value))] ++ (l_1.getD i_8.toNat dflt_Item).Data) 0]).getD ((out_7.length : Int)).toNat dflt_Item).Fault))
 else
 none
 else
 none
 else
 none
 else
 bif decide (((out_7 ++ [Item.mk 0 0 0 (toBytes [IntKind.u8.wrap (l_1.getD i_8.toNat dflt_Item).Value]) 0]).length + 1) * 48 ≤ 140737488355328) then
 bif decide ((out_7.length : Int) < ((out_7 ++ [Item.mk 0 0 0 (toBytes [IntKind.u8.wrap (l_1.getD i_8.toNat dflt_Item).Value]) 0] ++ [Item.mk 0 0 0 (toBytes [IntKind.u8.wrap (IntKind.i64.wrap (128 + (l_1.getD i_8.toNat dflt_Item).Value))] ++ (l_1.getD i_8.toNat dflt_Item).Data) 0]).length : Int)) then
 k_l8 (IntKind.i64.wrap (i_8 + 1)) l_1 ((out_7 ++ [Item.mk 0 0 0 (toBytes [IntKind.u8.wrap (l_1.getD i_8.toNat dflt_Item).Value]) 0] ++ [Item.mk 0 0 0 (toBytes [IntKind.u8.wrap (IntKind.i64.wrap (128 + (l_1.getD i_8.toNat dflt_Item).Value))] ++ (l_1.getD i_8.toNat dflt_Item).Data) 0]).set ((out_7.length : Int)).toNat (Item.mk (l_1.getD i_8.toNat dflt_Item).Gap ((out_7 ++ [Item.mk 0 0 0 (toBytes [IntKind.u8.wrap (l_1.getD i_8.toNat dflt_Item).Value]) 0] ++ [Item.mk 0 0 0 (toBytes [IntKind.u8.wrap (IntKind.i64.wrap (128 + (l_1.getD i_8.toNat dflt_Item).Value))] ++ (l_1.getD i_8.toNat dflt_Item).Data) 0]).getD ((out_7.length : Int)).toNat dflt_Item).Value ((out_7 ++ [Item.mk 0 0 0 (toBytes [IntKind.u8.wrap (l_1.getD i_8.toNat dflt_Item).Value]) 0] ++ [Item.mk 0 0 0 (toBytes [IntKind.u8.wrap (IntKind.i64.wrap (128 + (l_1.getD i_8.toNat dflt_Item).Value))] ++ (l_1.getD i_8.toNat dflt_Item).Data) 0]).getD ((out_7.length : Int)).toNat dflt_Item).Aux ((out_7 ++ [Item.mk 0 0 0 (toBytes [IntKind.u8.wrap (l_1.getD i_8.toNat dflt_Item).Value]) 0] ++ [Item.mk 0 0 0 (toBytes [IntKind.u8.wrap (IntKind.i64.wrap (128 + (l_1.getD i_8.toNat dflt_Item).Value))] ++ (l_1.getD i_8.toNat dflt_Item).Data) 0]).getD ((out_7.length : Int)).toNat dflt_Item).Data ((out_7 ++ [Item.mk 0 0 0 (toBytes [IntKind.u8.wrap (l_1.getD i_8.toNat dflt_Item).Value]) 0] ++ [Item.mk 0 0 0 (toBytes [IntKind.u8.wrap (IntKind.i64.wrap (128 + (l_1.getD i_8.toNat dflt_Item).Value))] ++ (l_1.getD i_8.toNat dflt_Item).Data) 0]).getD ((out_7.length : Int)).toNat dflt_Item).Fault))
 else
 none
 else
 none
 else
 none
 else
 bif (l_1.getD i_8.toNat dflt_Item).Fault == 7 then
 bif decide ((out_7.length + 1) * 48 ≤ 140737488355328) then
 bif decide (((out_7 ++ [Item.mk 0 0 0 (toBytes [IntKind.u8.wrap (l_1.getD i_8.toNat dflt_Item).Value]) 0]).length + 1) * 48 ≤ 140737488355328) then
 bif decide ((out_7.length : Int) < ((out_7 ++ [Item.mk 0 0 0 (toBytes [IntKind.u8.wrap (l_1.getD i_8.toNat dflt_Item).Value]) 0] ++ [Item.mk 0 0 0 (toBytes [IntKind.u8.wrap (IntKind.i64.wrap (128 + (l_1.getD i_8.toNat dflt_Item).Value))] ++ (l_1.getD i_8.toNat dflt_Item).Data) 0]).length : Int)) then
 k_l8 (IntKind.i64.wrap (i_8 + 1)) l_1 ((out_7 ++ [Item.mk 0 0 0 (toBytes [IntKind.u8.wrap (l_1.getD i_8.toNat dflt_Item).Value]) 0] ++ [Item.mk 0 0 0 (toBytes [IntKind.u8.wrap (IntKind.i64.wrap (128 + (l_1.getD i_8.toNat dflt_Item).Value))] ++ (l_1.getD i_8.toNat dflt_Item).Data) 0]).set ((out_7.length : Int)).toNat (Item.mk (l_1.getD i_8.toNat dflt_Item).Gap ((out_7 ++ [Item.mk 0 0 0 (toBytes [IntKind.u8.wrap (l_1.getD i_8.toNat dflt_Item).Value]) 0] ++ [Item.mk 0 0 0 (toBytes [IntKind.u8.wrap (IntKind.i64.wrap (128 + (l_1.getD i_8.toNat dflt_Item).Value))] ++ (l_1.getD i_8.toNat dflt_Item).Data) 0]).getD ((out_7.length : Int)).toNat dflt_Item).Value ((out_7 ++ [Item.mk 0 0 0 (toBytes [IntKind.u8.wrap (l_1.getD i_8.toNat dflt_Item).Value]) 0] ++ [Item.mk 0 0 0 (toBytes [IntKind.u8.wrap (IntKind.i64.wrap (128 + (l_1.getD i_8.toNat dflt_Item).Value))] ++ (l_1.getD i_8.toNat dflt_Item).Data) 0]).getD ((out_7.length : Int)).toNat dflt_Item).Aux ((out_7 ++ [Item.mk 0 0 0 (toBytes [IntKind.u8.wrap (l_1.getD i_8.toNat dflt_Item).Value]) 0] ++ [Item.mk 0 0 0 (toBytes [IntKind.u8.wrap (IntKind.i64.wrap (128 + (l_1.getD i_8.toNat dflt_Item).Value))] ++ (l_1.getD i_8.toNat dflt_Item).Data) 0]).getD ((out_7.length : Int)).toNat dflt_Item).Data ((out_7 ++ [Item.mk 0 0 0 (toBytes [IntKind.u8.wrap (l_1.getD i_8.toNat dflt_Item).Value]) 0] ++ [Item.mk 0 0 0 (toBytes [IntKind.u8.wrap (IntKind.i64.wrap (128 + (l_1.getD i_8.toNat dflt_Item).Value))] ++ (l_1.getD i_8.toNat dflt_Item).Data) 0]).getD ((out_7.length : Int)).toNat dflt_Item).Fault))
 else
 none
 else
 none
 else
 none
 else
 bif decide ((out_7.length + 1) * 48 ≤ 140737488355328) then
 bif decide ((out_7.length : Int) < ((out_7 ++ [Item.mk 0 0 0 (toBytes [IntKind.u8.wrap (IntKind.i64.wrap (128 + (l_1.getD i_8.toNat dflt_Item).Value))] ++ (l_1.getD i_8.toNat dflt_Item).Data) 0]).length : Int)) then
 k_l8 (IntKind.i64.wrap (i_8 + 1)) l_1 ((out_7 ++ [Item.mk 0 0 0 (toBytes [IntKind.u8.wrap (IntKind.i64.wrap (128 + (l_1.getD i_8.toNat dflt_Item).Value))] ++ (l_1.getD i_8.toNat dflt_Item).Data) 0]).set ((out_7.length : Int)).toNat (Item.mk (l_1.getD i_8.toNat dflt_Item).Gap ((out_7 ++ [Item.mk 0 0 0 (toBytes [IntKind.u8.wrap (IntKind.i64.wrap (128 + (l_1.getD i_8.toNat dflt_Item).Value))] ++ (l_1.getD i_8.toNat dflt_Item).Data) 0]).getD ((out_7.length : Int)).toNat dflt_Item).Value ((out_7 ++ [Item.mk 0 0 0 (toBytes [IntKind.u8.wrap (IntKind.i64.wrap (128 + (l_1.getD i_8.toNat dflt_Item).Value))] ++ (l_1.getD i_8.toNat dflt_Item).Data) 0]).getD ((out_7.length : Int)).toNat dflt_Item).Aux ((out_7 ++ [Item.mk 0 0 0 (toBytes [IntKind.u8.wrap (IntKind.i64.wrap (128 + (l_1.getD i_8.toNat dflt_Item).Value))] ++ (l_1.getD i_8.toNat dflt_Item).Data) 0]).getD ((out_7.length : Int)).toNat dflt_Item).Data ((out_7 ++ [Item.mk 0 0 0 (toBytes [IntKind.u8.wrap (IntKind.i64.wrap (128 + (l_1.getD i_8.toNat dflt_Item).Value))] ++ (l_1.getD i_8.toNat dflt_Item).Data) 0]).getD ((out_7.length : Int)).toNat dflt_Item).Fault))
 else
 none
 else
 none
 else
 bif (l_1.getD i_8.toNat dflt_Item).Aux != 0 then
 ret [] 1
 else
 bif decide ((((toBytes [IntKind.u8.wrap (IntKind.i64.wrap (128 + (l_1.getD i_8.toNat dflt_Item).Value))]).size + (l_1.getD i_8.toNat dflt_Item).Data.size) : Int) > 9223372036854775807) then
 none
 else
 bif (l_1.getD i_8.toNat dflt_Item).Fault != 12 then
 bif decide ((out_7.length + 1) * 48 ≤ 140737488355328) then
 bif (l_1.getD i_8.toNat dflt_Item).Fault == 7 then
 bif decide (((out_7 ++ [Item.mk 0 0 0 (toBytes [IntKind.u8.wrap (l_1.getD i_8.toNat dflt_Item).Value]) 0]).length + 1) * 48 ≤ 140737488355328) then
 bif decide (((out_7 ++ [Item.mk 0 0 0 (toBytes [IntKind.u8.wrap (l_1.getD i_8.toNat dflt_Item).Value]) 0] ++ [Item.mk 0 0 0 (toBytes [IntKind.u8.wrap (l_1.getD i_8.toNat dflt_Item).Value]) 0]).length + 1) * 48 ≤ 140737488355328) then
 bif decide ((out_7.length : Int) < ((out_7 ++ [Item.mk 0 0 0 (toBytes [IntKind.u8.wrap (l_1.getD i_8.toNat dflt_Item).Value]) 0] ++ [Item.mk 0 0 0 (toBytes [IntKind.u8.wrap (l_1.getD i_8.toNat dflt_Item).Value]) 0] ++ [Item.mk 0 0 0 (toBytes [IntKind.u8.wrap (IntKind.i64.wrap (128 + (l_1.getD i_8.toNat dflt_Item).Value))] ++ (l_1.getD i_8.toNat dflt_Item).Data) 0]).length : Int)) then
 k_l8 (IntKind.i64.wrap (i_8 + 1)) l_1 ((out_7 ++ [Item.mk 0 0 0 (toBytes [IntKind.u8.wrap (l_1.getD i_8.toNat dflt_Item).Value]) 0] ++ [Item.mk 0 0 0 (toBytes [IntKind.u8.wrap (l_1.getD i_8.toNat dflt_Item).Value]) 0] ++ [Item.mk 0 0 0 (toBytes [IntKind.u8.wrap (IntKind.i64.wrap (128 + (l_1.getD i_8.toNat dflt_Item).Value))] ++ (l_1.getD i_8.toNat dflt_Item).Data) 0]).set ((out_7.length : Int)).toNat (Item.mk (l_1.getD i_8.toNat dflt_Item).Gap ((out_7 ++ [Item.mk 0 0 0 (toBytes [IntKind.u8.wrap (l_1.getD i_8.toNat dflt_Item).Value]) 0] ++ [Item.mk 0 0 0 (toBytes [IntKind.u8.wrap (l_1.getD i_8.toNat dflt_Item).Value]) 0] ++ [Item.mk 0 0 0 (toBytes [IntKind.u8.wrap (IntKind.i64.wrap (128 + (l_1.getD i_8.toNat dflt_Item).Value))] ++ (l_1.getD i_8.toNat dflt_Item).Data) 0]).getD ((out_7.length : Int)).toNat dflt_Item).Value ((out_7 ++ [Item.mk 0 0 0 (toBytes [IntKind.u8.wrap (l_1.getD i_8.toNat dflt_Item).Value]) 0] ++ [Item.mk 0 0 0 (toBytes [IntKind.u8.wrap (l_1.getD i_8.toNat dflt_Item).Value]) 0] ++ [Item.mk 0 0 0 (toBytes [IntKind.u8.wrap (IntKind.i64.wrap (128 + (l_1.getD i_8.toNat dflt_Item).Value))] ++ (l_1.getD i_8.toNat dflt_Item).Data) 0]).getD ((out_7.length : Int)).toNat dflt_Item).Aux ((out_7 ++ [Item.mk 0 0 0 (toBytes [IntKind.u8.wrap (l_1.getD i_8.toNat dflt_Item).Value]) 0] ++ [Item.mk 0 0 0 (toBytes [IntKind.u8.wrap (l_1.getD i_8.toNat dflt_Item).Value]) 0] ++ [Item.mk 0 0 0 (toBytes [IntKind.u8.wrap (IntKind.i64.wrap (128 + (l_1.getD i_8.toNat dflt_Item).Value))] ++ (l_1.getD i_8.toNat dflt_Item).Data) 0]).getD ((out_7.length : Int)).toNat dflt_Item).Data ((out_7 ++ [Item.mk 0 0 0 (toBytes [IntKind.u8.wrap (l_1.getD i_8.toNat dflt_Item).Value]) 0] ++ [Item.mk 0 0 0 (toBytes [IntKind.u8.wrap (l_1.getD i_8.toNat dflt_Item).Value]) 0] ++ [Item.mk 0 0 0 (toBytes [IntKind.u8.wrap (IntKind.i64.wrap (128 + (l_1.getD i_8.toNat dflt_Item).Value))] ++ (l_1.getD i_8.toNat dflt_Item).Data) 0]).getD ((out_7.length : Int)).toNat dflt_Item).Fault))
 else
 none
 else
 none
 else
 none
 else
 bif decide (((out_7 ++ [Item.mk 0 0 0 (toBytes [IntKind.u8.wrap (l_1.getD i_8.toNat dflt_Item).Value]) 0]).length + 1) * 48 ≤ 140737488355328) then
 bif decide ((out_7.length : Int) < ((out_7 ++ [Item.mk 0 0 0 (toBytes [IntKind.u8.wrap (l_1.getD i_8.toNat dflt_Item).Value]) 0] ++ [Item.mk 0 0 0 (toBytes [IntKind.u8.wrap (IntKind.i64.wrap (128 + (l_1.getD i_8.toNat dflt_Item).Value))] ++ (l_1.getD i_8.toNat dflt_Item).Data) 0]).length : Int)) then
 k_l8 (IntKind.i64.wrap (i_8 + 1)) l_1 ((out_7 ++ [Item.mk 0 0 0 (toBytes [IntKind.u8.wrap (l_1.getD i_8.toNat dflt_Item).Value]) 0] ++ [Item.mk 0 0 0 (toBytes [IntKind.u8.wrap (IntKind.i64.wrap (128 + (l_1.getD i_8.toNat dflt_Item).Value))] ++ (l_1.getD i_8.toNat dflt_Item).Data) 0]).set ((out_7.length : Int)).toNat (Item.mk (l_1.getD i_8.toNat dflt_Item).Gap ((out_7 ++ [Item.mk 0 0 0 (toBytes [IntKind.u8.wrap (l_1.getD i_8.toNat dflt_Item).Value]) 0] ++ [Item.mk 0 0 0 (toBytes [IntKind.u8.wrap (IntKind.i64.wrap (128 + (l_1.getD i_8.toNat dflt_Item).Value))] ++ (l_1.getD i_8.toNat dflt_Item).Data) 0]).getD ((out_7.length : Int)).toNat dflt_Item).Value ((out_7 ++ [Item.mk 0 0 0 (toBytes [IntKind.u8.wrap (l_1.getD i_8.toNat dflt_Item).Value]) 0] ++ [Item.mk 0 0 0 (toBytes [IntKind.u8.wrap (IntKind.i64.wrap (128 + (l_1.getD i_8.toNat dflt_Item).Value))] ++ (l_1.getD i_8.toNat dflt_Item).Data) 0]).getD ((out_7.length : Int)).toNat dflt_Item).Aux ((out_7 ++ [Item.mk 0 0 0 (toBytes [IntKind.u8.wrap (l_1.getD i_8.toNat dflt_Item).Value]) 0] ++ [Item.mk 0 0 0 (toBytes [IntKind.u8.wrap (IntKind.i64.wrap (128 + (l_1.getD i_8.toNat dflt_Item).Value))] ++ (l_1.getD i_8.toNat dflt_Item).Data) 0]).getD ((out_7.length : Int)).toNat dflt_Item).Data ((out_7 ++ [Item.mk 0 0 0 (toBytes [IntKind.u8.wrap (l_1.getD i_8.toNat dflt_Item).Value]) 0] ++ [Item.mk 0 0 0 (toBytes [IntKind.u8.wrap (IntKind.i64.wrap (128 + (l_1.getD i_8.toNat dflt_Item).Value))] ++ (l_1.getD i_8.toNat dflt_Item).Data) 0]).getD ((out_7.length : Int)).toNat dflt_Item).Fault))
 else
 none
 else
 none
 else
 none
 else
 bif (l_1.getD i_8.toNat dflt_Item).Fault == 7 then
 bif decide ((out_7.length + 1) * 48 ≤ 140737488355328) then
 bif decide (((out_7 ++ [Item.mk 0 0 0 (toBytes [IntKind.u8.wrap (l_1.getD i_8.toNat dflt_Item).Value]) 0]).length + 1) * 48 ≤ 140737488355328) then
 bif decide ((out_7.length : Int) < ((out_7 ++ [Item.mk 0 0 0 (toBytes [IntKind.u8.wrap (l_1.getD i_8.toNat dflt_Item).Value]) 0] ++ [Item.mk 0 0 0 (toBytes [IntKind.u8.wrap (IntKind.i64.wrap (128 + (l_1.getD i_8.toNat dflt_Item).Value))] ++ (l_1.getD i_8.toNat dflt_Item).Data) 0]).length : Int)) then
 k_l8 (IntKind.i64.wrap (i_8 + 1)) l_1 ((out_7 ++ [Item.mk 0 0 0 (toBytes [IntKind.u8.wrap (l_1.getD i_8.toNat dflt_Item).Value]) 0] ++ [Item.mk 0 0 0 (toBytes [IntKind.u8.wrap (IntKind.i64.wrap (128 + (l_1.getD i_8.toNat dflt_Item).Value))] ++ (l_1.getD i_8.toNat dflt_Item).Data) 0]).set ((out_7.length : Int)).toNat (Item.mk (l_1.getD i_8.toNat dflt_Item).Gap ((out_7 ++ [Item.mk 0 0 0 (toBytes [IntKind.u8.wrap (l_1.getD i_8.toNat dflt_Item).Value]) 0] ++ [Item.mk 0 0 0 (toBytes [IntKind.u8.wrap (IntKind.i64.wrap (128 + (l_1.getD i_8.toNat dflt_Item).Value))] ++ (l_1.getD i_8.toNat dflt_Item).Data) 0]).getD ((out_7.length : Int)).toNat dflt_Item).Value ((out_7 ++ [Item.mk 0 0 0 (toBytes [IntKind.u8.wrap (l_1.getD i_8.toNat dflt_Item).Value]) 0] ++ [Item.mk 0 0 0 (toBytes [IntKind.u8.wrap (IntKind.i64.wrap (128 + (l_1.getD i_8.toNat dflt_Item).Value))] ++ (l_1.getD i_8.toNat dflt_Item).Data) 0]).getD ((out_7.length : Int)).toNat dflt_Item).Aux ((out_7 ++ [Item.mk 0 0 0 (toBytes [IntKind.u8.wrap (l_1.getD i_8.toNat dflt_Item).Value]) 0] ++ [Item.mk 0 0 0 (toBytes [IntKind.u8.wrap (IntKind.i64.wrap (128 + (l_1.getD i_8.toNat dflt_Item).Value))] ++ (l_1.getD i_8.toNat dflt_Item).Data) 0]).getD ((out_7.length : Int)).toNat dflt_Item).Data ((out_7 ++ [Item.mk 0 0 0 (toBytes [IntKind.u8.wrap (l_1.getD i_8.toNat dflt_Item).Value]) 0] ++ [Item.mk 0 0 0 (toBytes [IntKind.u8.wrap (IntKind.i64.wrap (128 + (l_1.getD i_8.toNat dflt_Item).Value))] ++ (l_1.getD i_8.toNat dflt_Item).Data) 0]).getD ((out_7.length : Int)).toNat dflt_Item).Fault))
 else
 none
 else
 none
 else
 none
 else
 bif decide ((out_7.length + 1) * 48 ≤ 140737488355328) then
 bif decide ((out_7.length : Int) < ((out_7 ++ [Item.mk 0 0 0 (toBytes [IntKind.u8.wrap (IntKind.i64.wrap (128 + (l_1.getD i_8.toNat dflt_Item).Value))] ++ (l_1.getD i_8.toNat dflt_Item).Data) 0]).length : Int)) then
 k_l8 (IntKind.i64.wrap (i_8 + 1)) l_1 ((out_7 ++ [Item.mk 0 0 0 (toBytes [IntKind.u8.wrap (IntKind.i64.wrap (128 + (l_1.getD i_8.toNat dflt_Item).Value))] ++ (l_1.getD i_8.toNat dflt_Item).Data) 0]).set ((out_7.length : Int)).toNat (Item.mk (l_1.getD i_8.toNat dflt_Item).Gap ((out_7 ++ [Item.mk 0 0 0 (toBytes [IntKind.u8.wrap (IntKind.i64.wrap (128 + (l_1.getD i_8.toNat dflt_Item).Value))] ++ (l_1.getD i_8.toNat dflt_Item).Data) 0]).getD ((out_7.length : Int)).toNat dflt_Item).Value ((out_7 ++ [Item.mk 0 0 0 (toBytes [IntKind.u8.wrap (IntKind.i64.wrap (128 + (l_1.getD i_8.toNat dflt_Item).Value))] ++ (l_1.getD i_8.toNat dflt_Item).Data) 0]).getD ((out_7.length : Int)).toNat dflt_Item).Aux ((out_7 ++ [Item.mk 0 0 0 (toBytes [IntKind.u8.wrap (IntKind.i64.wrap (128 + (l_1.getD i_8.toNat dflt_Item).Value))] ++ (l_1.getD i_8.toNat dflt_Item).Data) 0]).getD ((out_7.length : Int)).toNat dflt_Item).Data ((out_7 ++ [Item.mk 0 0 0 (toBytes [IntKind.u8.wrap (IntKind.i64.wrap (128 + (l_1.getD i_8.toNat dflt_Item).Value))] ++ (l_1.getD i_8.toNat dflt_Item).Data) 0]).getD ((out_7.length : Int)).toNat dflt_Item).Fault))
 else
 none
 else
 none
 else
 none
 else
 none
 else
 ret out_7 0
theorem L_ref33_Encode_l8_step (m n : Nat) (i_8 : Int) (l_1 : List Item) (out_7 : List Item) : L_ref33_Encode_l8 m (n + 1) i_8 l_1 out_7 = b_ref33_Encode_l8 m (fun x0 x1 => some (w_ref33_Encode (x0, x1))) (fun i_8 l_1 out_7 => L_ref33_Encode_l8 m n i_8 l_1 out_7) i_8 l_1 out_7 := by kernel_rfl
theorem b_ref33_Encode_l8_map (m : Nat) {k_l8 : Int → List Item → List Item → Option (List (RV C))} {q_l8 : Int → List Item → List Item → Option (List Item × Int)} (h_l8 : ∀ i_8 l_1 out_7, k_l8 i_8 l_1 out_7 = (q_l8 i_8 l_1 out_7).map w_ref33_Encode) (i_8 : Int) (l_1 : List Item) (out_7 : List Item) : b_ref33_Encode_l8 m (fun x0 x1 => some (w_ref33_Encode (x0, x1))) k_l8 i_8 l_1 out_7 = (b_ref33_Encode_l8 m (fun x0 x1 => some (x0, x1)) q_l8 i_8 l_1 out_7).map w_ref33_Encode := by
  simp only [b_ref33_Encode_l8, cond_map, bind_map, map_none, map_some, h_l8]
noncomputable def ref33_Encode_l8 (m : Nat) : Nat → Int → List Item → List Item → Option (List Item × Int)
  | 0, _, _, _ => none
  | n + 1, i_8, l_1, out_7 => b_ref33_Encode_l8 m (fun x0 x1 => some (x0, x1)) (fun i_8 l_1 out_7 => ref33_Encode_l8 m n i_8 l_1 out_7) i_8 l_1 out_7
theorem L_ref33_Encode_l8_eq (m : Nat) : ∀ (n : Nat) (i_8 : Int) (l_1 : List Item) (out_7 : List Item), L_ref33_Encode_l8 m n i_8 l_1 out_7 = (ref33_Encode_l8 m n i_8 l_1 out_7).map w_ref33_Encode
  | 0, i_8, l_1, out_7 => by kernel_rfl
  | n + 1, i_8, l_1, out_7 => by
    rw [L_ref33_Encode_l8_step]
    exact b_ref33_Encode_l8_map m (fun i_8 l_1 out_7 => L_ref33_Encode_l8_eq m n i_8 l_1 out_7) i_8 l_1 out_7
noncomputable def b_ref33_Encode {R : Type} (m : Nat) (ret : List Item → Int → Option R) (k_l8 : Int → List Item → List Item → Option R) (c_0 : Pair) (l_1 : List Item) : Option R :=
 (ref33_Check m c_0).bind fun r0 =>
 bif r0 != 0 then
 ret [] r0
 else
 bif decide ((l_1.length : Int) > 1024) then
 ret [] 6
 else
 k_l8 0 l_1 []
theorem ref33_Encode_pre (m : Nat) (c_0 : Pair) (l_1 : List Item) : funK Try.prog (Ψ_ref33_Encode m) keep m 1 22 [(dS of_Pair cells_Pair of_Pair_ok).e c_0, (dRow 48).e l_1] = b_ref33_Encode m (fun x0 x1 => some (w_ref33_Encode (x0, x1))) (fun i_8 l_1 out_7 => L_ref33_Encode_l8 m m i_8 l_1 out_7) c_0 l_1 := by kernel_rfl
theorem b_ref33_Encode_map (m : Nat) {k_l8 : Int → List Item → List Item → Option (List (RV C))} {q_l8 : Int → List Item → List Item → Option (List Item × Int)} (h_l8 : ∀ i_8 l_1 out_7, k_l8 i_8 l_1 out_7 = (q_l8 i_8 l_1 out_7).map w_ref33_Encode) (c_0 : Pair) (l_1 : List Item) : b_ref33_Encode m (fun x0 x1 => some (w_ref33_Encode (x0, x1))) k_l8 c_0 l_1 = (b_ref33_Encode m (fun x0 x1 => some (x0, x1)) q_l8 c_0 l_1).map w_ref33_Encode := by
  simp only [b_ref33_Encode, cond_map, bind_map, map_none, map_some, h_l8]
noncomputable def ref33_Encode (m : Nat) (c_0 : Pair) (l_1 : List Item) : Option (List Item × Int) := b_ref33_Encode m (fun x0 x1 => some (x0, x1)) (fun i_8 l_1 out_7 => ref33_Encode_l8 m m i_8 l_1 out_7) c_0 l_1
theorem ref33_Encode_fun (m : Nat) (c_0 : Pair) (l_1 : List Item) : funK Try.prog (Ψ_ref33_Encode m) keep m 1 22 [(dS of_Pair cells_Pair of_Pair_ok).e c_0, (dRow 48).e l_1] = (ref33_Encode m c_0 l_1).map w_ref33_Encode := by
  rw [ref33_Encode_pre]
  exact b_ref33_Encode_map m (fun i_8 l_1 out_7 => L_ref33_Encode_l8_eq m m i_8 l_1 out_7) c_0 l_1
noncomputable def K_ref33_Encode (m : Nat) : KnownF C := mkK (dCons (dS of_Pair cells_Pair of_Pair_ok) (dCons (dRow 48) dNil)) (fun a => ref33_Encode m a.1 a.2.1) w_ref33_Encode
theorem K_ref33_Encode_ok (m : Nat) : KnownAt C Try.prog 22 fun l => (K_ref33_Encode m).run _ l some :=
  mkK_known good fit (Ψ_ref33_Encode_ok m) (keep := keep) (m := m) (d := 1) fun a => ref33_Encode_fun m a.1 a.2.1
/-! ### signalbench/signalbenchlaw33.sameItems -/
def w_law33_sameItems (b : Bool) : List (RV C) := [dBool.e b]
noncomputable def Q_law33_sameItems_4 (m : Nat) : St C → (Exit → St C → Option (List (RV C))) → Option (List (RV C)) := fun σ k => codeK Try.prog Ψ0 (callK Try.prog Ψ0 keep m 0) (keep 23) m (subC body23 [.r, .r, .l, .r, .b, .o]) σ k
noncomputable def KL_law33_sameItems_4 (m : Nat) : Exit → St C → Option (List (RV C)) := contK Try.prog Ψ0 (callK Try.prog Ψ0 keep m 0) (keep 23) m body23 [.r, .r, .l, .r, .b, .o] (leaveK Try.prog Try.f23.results.toList (finK Try.prog Try.f23.resultTypes.toList))
noncomputable def L_law33_sameItems_l4 (m n : Nat) (i_5 : Int) (a_0 : List Item) (b_1 : List Item) : Option (List (RV C)) := iterK (Q_law33_sameItems_4 m) (St.norm (keep 23 4)) n ({ T := [.fl (.one (.sl 0)), .fl (.one (.sl 1)), .dead, .dead, .dead, .fl (.one (.int .i64 i_5))] ++ List.replicate 20 .dead, F := [[]], H := [.row 48 false a_0, .row 48 false b_1] } : St C) (KL_law33_sameItems_4 m)
noncomputable def b_law33_sameItems_l4 {R : Type} (m : Nat) (ret : Bool → Option R) (k_l4 : Int → List Item → List Item → Option R) (i_5 : Int) (a_0 : List Item) (b_1 : List Item) : Option R :=
 bif decide (i_5 < (a_0.length : Int)) then
 bif decide (0 ≤ i_5) then
 bif decide (i_5 < (a_0.length : Int)) then
 bif decide (0 ≤ i_5) then
 bif decide (i_5 < (b_1.length : Int)) then
 bif !((a_0.getD i_5.toNat dflt_Item).Gap == (b_1.getD i_5.toNat dflt_Item).Gap && ((a_0.getD i_5.toNat dflt_Item).Value == (b_1.getD i_5.toNat dflt_Item).Value && ((a_0.getD i_5.toNat dflt_Item).Aux == (b_1.getD i_5.toNat dflt_Item).Aux && ((a_0.getD i_5.toNat dflt_Item).Data == (b_1.getD i_5.toNat dflt_Item).Data && ((a_0.getD i_5.toNat dflt_Item).Fault == (b_1.getD i_5.toNat dflt_Item).Fault && true))))) then
 ret false
 else
 k_l4 (IntKind.i64.wrap (i_5 + 1)) a_0 b_1
 else
 none
 else
 none
 else
 none
 else
 none
 else
 ret true
theorem L_law33_sameItems_l4_step (m n : Nat) (i_5 : Int) (a_0 : List Item) (b_1 : List Item) : L_law33_sameItems_l4 m (n + 1) i_5 a_0 b_1 = b_law33_sameItems_l4 m (fun x0 => some (w_law33_sameItems x0)) (fun i_5 a_0 b_1 => L_law33_sameItems_l4 m n i_5 a_0 b_1) i_5 a_0 b_1 := by kernel_rfl
theorem b_law33_sameItems_l4_map (m : Nat) {k_l4 : Int → List Item → List Item → Option (List (RV C))} {q_l4 : Int → List Item → List Item → Option (Bool)} (h_l4 : ∀ i_5 a_0 b_1, k_l4 i_5 a_0 b_1 = (q_l4 i_5 a_0 b_1).map w_law33_sameItems) (i_5 : Int) (a_0 : List Item) (b_1 : List Item) : b_law33_sameItems_l4 m (fun x0 => some (w_law33_sameItems x0)) k_l4 i_5 a_0 b_1 = (b_law33_sameItems_l4 m (fun x0 => some x0) q_l4 i_5 a_0 b_1).map w_law33_sameItems := by
  simp only [b_law33_sameItems_l4, cond_map, bind_map, map_none, map_some, h_l4]
noncomputable def law33_sameItems_l4 (m : Nat) : Nat → Int → List Item → List Item → Option (Bool)
  | 0, _, _, _ => none
  | n + 1, i_5, a_0, b_1 => b_law33_sameItems_l4 m (fun x0 => some x0) (fun i_5 a_0 b_1 => law33_sameItems_l4 m n i_5 a_0 b_1) i_5 a_0 b_1
theorem L_law33_sameItems_l4_eq (m : Nat) : ∀ (n : Nat) (i_5 : Int) (a_0 : List Item) (b_1 : List Item), L_law33_sameItems_l4 m n i_5 a_0 b_1 = (law33_sameItems_l4 m n i_5 a_0 b_1).map w_law33_sameItems
  | 0, i_5, a_0, b_1 => by kernel_rfl
  | n + 1, i_5, a_0, b_1 => by
    rw [L_law33_sameItems_l4_step]
    exact b_law33_sameItems_l4_map m (fun i_5 a_0 b_1 => L_law33_sameItems_l4_eq m n i_5 a_0 b_1) i_5 a_0 b_1
noncomputable def b_law33_sameItems {R : Type} (m : Nat) (ret : Bool → Option R) (k_l4 : Int → List Item → List Item → Option R) (a_0 : List Item) (b_1 : List Item) : Option R :=
 bif (a_0.length : Int) != (b_1.length : Int) then
 ret false
 else
 k_l4 0 a_0 b_1
theorem law33_sameItems_pre (m : Nat) (a_0 : List Item) (b_1 : List Item) : funK Try.prog Ψ0 keep m 1 23 [(dRow 48).e a_0, (dRow 48).e b_1] = b_law33_sameItems m (fun x0 => some (w_law33_sameItems x0)) (fun i_5 a_0 b_1 => L_law33_sameItems_l4 m m i_5 a_0 b_1) a_0 b_1 := by kernel_rfl
theorem b_law33_sameItems_map (m : Nat) {k_l4 : Int → List Item → List Item → Option (List (RV C))} {q_l4 : Int → List Item → List Item → Option (Bool)} (h_l4 : ∀ i_5 a_0 b_1, k_l4 i_5 a_0 b_1 = (q_l4 i_5 a_0 b_1).map w_law33_sameItems) (a_0 : List Item) (b_1 : List Item) : b_law33_sameItems m (fun x0 => some (w_law33_sameItems x0)) k_l4 a_0 b_1 = (b_law33_sameItems m (fun x0 => some x0) q_l4 a_0 b_1).map w_law33_sameItems := by
  simp only [b_law33_sameItems, cond_map, bind_map, map_none, map_some, h_l4]
noncomputable def law33_sameItems (m : Nat) (a_0 : List Item) (b_1 : List Item) : Option (Bool) := b_law33_sameItems m (fun x0 => some x0) (fun i_5 a_0 b_1 => law33_sameItems_l4 m m i_5 a_0 b_1) a_0 b_1
theorem law33_sameItems_fun (m : Nat) (a_0 : List Item) (b_1 : List Item) : funK Try.prog Ψ0 keep m 1 23 [(dRow 48).e a_0, (dRow 48).e b_1] = (law33_sameItems m a_0 b_1).map w_law33_sameItems := by
  rw [law33_sameItems_pre]
  exact b_law33_sameItems_map m (fun i_5 a_0 b_1 => L_law33_sameItems_l4_eq m m i_5 a_0 b_1) a_0 b_1
noncomputable def K_law33_sameItems (m : Nat) : KnownF C := mkK (dCons (dRow 48) (dCons (dRow 48) dNil)) (fun a => law33_sameItems m a.1 a.2.1) w_law33_sameItems
theorem K_law33_sameItems_ok (m : Nat) : KnownAt C Try.prog 23 fun l => (K_law33_sameItems m).run _ l some :=
  mkK_known good fit Ψ0_ok (keep := keep) (m := m) (d := 1) fun a => law33_sameItems_fun m a.1 a.2.1
/-! ### signalbench/signalbenchlaw33.PairEncodes -/
noncomputable def Ψ_law33_PairEncodes (m : Nat) : Known C := fun f => match f with
  | 8 => some (K_law33_lives m)
  | 20 => some (K_law33_few m)
  | 21 => some (K_pair_Encode m)
  | 22 => some (K_ref33_Encode m)
  | 23 => some (K_law33_sameItems m)
  | _ => none
theorem Ψ_law33_PairEncodes_ok (m : Nat) : KnownOk C Try.prog (Ψ_law33_PairEncodes m) := by
  intro f φ h
  unfold Ψ_law33_PairEncodes at h
  split at h
  · injection h with h; subst h; exact K_law33_lives_ok m
  · injection h with h; subst h; exact K_law33_few_ok m
  · injection h with h; subst h; exact K_pair_Encode_ok m
  · injection h with h; subst h; exact K_ref33_Encode_ok m
  · injection h with h; subst h; exact K_law33_sameItems_ok m
  · cases h
def w_law33_PairEncodes (b : Bool) : List (RV C) := [dBool.e b]
noncomputable def b_law33_PairEncodes {R : Type} (m : Nat) (ret : Bool → Option R) (c_0 : Pair) (l_1 : List Item) : Option R :=
 (law33_lives m).bind fun r0 =>
 bif !r0 then
 ret false
 else
 (law33_few m l_1).bind fun r1 =>
 bif !r1 then
 ret true
 else
 (pair_Encode m c_0 l_1).bind fun r2 =>
 (ref33_Encode m c_0 l_1).bind fun r3 =>
 bif r2.snd == r3.snd then
 ((law33_sameItems m r2.fst r3.fst).bind fun r4 =>
 ret r4)
 else
 ret false
theorem law33_PairEncodes_pre (m : Nat) (c_0 : Pair) (l_1 : List Item) : funK Try.prog (Ψ_law33_PairEncodes m) keep m 1 4 [(dS of_Pair cells_Pair of_Pair_ok).e c_0, (dRow 48).e l_1] = b_law33_PairEncodes m (fun x0 => some (w_law33_PairEncodes x0)) c_0 l_1 := by kernel_rfl
theorem b_law33_PairEncodes_map (m : Nat) (c_0 : Pair) (l_1 : List Item) : b_law33_PairEncodes m (fun x0 => some (w_law33_PairEncodes x0)) c_0 l_1 = (b_law33_PairEncodes m (fun x0 => some x0) c_0 l_1).map w_law33_PairEncodes := by
  simp only [b_law33_PairEncodes, cond_map, bind_map, map_none, map_some]
noncomputable def law33_PairEncodes (m : Nat) (c_0 : Pair) (l_1 : List Item) : Option (Bool) := b_law33_PairEncodes m (fun x0 => some x0) c_0 l_1
theorem law33_PairEncodes_fun (m : Nat) (c_0 : Pair) (l_1 : List Item) : funK Try.prog (Ψ_law33_PairEncodes m) keep m 1 4 [(dS of_Pair cells_Pair of_Pair_ok).e c_0, (dRow 48).e l_1] = (law33_PairEncodes m c_0 l_1).map w_law33_PairEncodes := by
  rw [law33_PairEncodes_pre]
  exact b_law33_PairEncodes_map m c_0 l_1
noncomputable def K_law33_PairEncodes (m : Nat) : KnownF C := mkK (dCons (dS of_Pair cells_Pair of_Pair_ok) (dCons (dRow 48) dNil)) (fun a => law33_PairEncodes m a.1 a.2.1) w_law33_PairEncodes
theorem K_law33_PairEncodes_ok (m : Nat) : KnownAt C Try.prog 4 fun l => (K_law33_PairEncodes m).run _ l some :=
  mkK_known good fit (Ψ_law33_PairEncodes_ok m) (keep := keep) (m := m) (d := 1) fun a => law33_PairEncodes_fun m a.1 a.2.1
/-! ### signalbench/signalbenchlaw33.PairMatches -/
noncomputable def Ψ_law33_PairMatches (m : Nat) : Known C := fun f => match f with
  | 8 => some (K_law33_lives m)
  | 18 => some (K_pair_Decode m)
  | 13 => some (K_law33_same m)
  | _ => none
theorem Ψ_law33_PairMatches_ok (m : Nat) : KnownOk C Try.prog (Ψ_law33_PairMatches m) := by
  intro f φ h
  unfold Ψ_law33_PairMatches at h
  split at h
  · injection h with h; subst h; exact K_law33_lives_ok m
  · injection h with h; subst h; exact K_pair_Decode_ok m
  · injection h with h; subst h; exact K_law33_same_ok m
  · cases h
def w_law33_PairMatches (b : Bool) : List (RV C) := [dBool.e b]
noncomputable def Q_law33_PairMatches_10 (m : Nat) : St C → (Exit → St C → Option (List (RV C))) → Option (List (RV C)) := fun σ k => codeK Try.prog (Ψ_law33_PairMatches m) (callK Try.prog (Ψ_law33_PairMatches m) keep m 0) (keep 5) m (subC body5 [.r, .r, .r, .r, .r, .r, .r, .l, .r, .b, .o]) σ k
noncomputable def KL_law33_PairMatches_10 (m : Nat) : Exit → St C → Option (List (RV C)) := contK Try.prog (Ψ_law33_PairMatches m) (callK Try.prog (Ψ_law33_PairMatches m) keep m 0) (keep 5) m body5 [.r, .r, .r, .r, .r, .r, .r, .l, .r, .b, .o] (leaveK Try.prog Try.f5.results.toList (finK Try.prog Try.f5.resultTypes.toList))
noncomputable def Q_law33_PairMatches_28 (m : Nat) : St C → (Exit → St C → Option (List (RV C))) → Option (List (RV C)) := fun σ k => codeK Try.prog (Ψ_law33_PairMatches m) (callK Try.prog (Ψ_law33_PairMatches m) keep m 0) (keep 5) m (subC body5 [.r, .r, .r, .r, .r, .r, .r, .r, .r, .r, .l, .r, .b, .o]) σ k
noncomputable def KL_law33_PairMatches_28 (m : Nat) : Exit → St C → Option (List (RV C)) := contK Try.prog (Ψ_law33_PairMatches m) (callK Try.prog (Ψ_law33_PairMatches m) keep m 0) (keep 5) m body5 [.r, .r, .r, .r, .r, .r, .r, .r, .r, .r, .l, .r, .b, .o] (leaveK Try.prog Try.f5.results.toList (finK Try.prog Try.f5.resultTypes.toList))
noncomputable def Q_law33_PairMatches_35 (m : Nat) : St C → (Exit → St C → Option (List (RV C))) → Option (List (RV C)) := fun σ k => codeK Try.prog (Ψ_law33_PairMatches m) (callK Try.prog (Ψ_law33_PairMatches m) keep m 0) (keep 5) m (subC body5 [.r, .r, .r, .r, .r, .r, .r, .r, .r, .r, .r, .r, .l, .r, .b, .o]) σ k
noncomputable def KL_law33_PairMatches_35 (m : Nat) : Exit → St C → Option (List (RV C)) := contK Try.prog (Ψ_law33_PairMatches m) (callK Try.prog (Ψ_law33_PairMatches m) keep m 0) (keep 5) m body5 [.r, .r, .r, .r, .r, .r, .r, .r, .r, .r, .r, .r, .l, .r, .b, .o] (leaveK Try.prog Try.f5.results.toList (finK Try.prog Try.f5.resultTypes.toList))
noncomputable def L_law33_PairMatches_l10 (m n : Nat) (tags_0 : ByteArray) (i_7 : Int) (c0 : Pair) (in_4 : List Event) (open_5 : List Int) (want_6 : List Event) : Option (List (RV C)) := iterK (Q_law33_PairMatches_10 m) (St.norm (keep 5 10)) n ({ T := [.fl (.one (.str tags_0)), .dead, .dead, .fl (.one (.ptr 0 0)), .fl (.one (.sl 1)), .fl (.one (.sl 2)), .fl (.one (.sl 3)), .fl (.one (.int .i64 i_7))] ++ List.replicate 182 .dead, F := [[]], H := [.box 23 (cells_Pair c0), .row 32 true in_4, .row 3 true open_5, .row 32 true want_6] } : St C) (KL_law33_PairMatches_10 m)
noncomputable def L_law33_PairMatches_l28 (m n : Nat) (tags_0 : ByteArray) (left_12 : Int) (i_13 : Int) (open_5 : List Int) (want_6 : List Event) (out_11 : List Event) : Option (List (RV C)) := iterK (Q_law33_PairMatches_28 m) (St.norm (keep 5 28)) n ({ T := [.fl (.one (.str tags_0)), .dead, .dead, .dead, .dead, .fl (.one (.sl 0)), .fl (.one (.sl 1)), .dead, .dead, .dead, .dead, .fl (.one (.sl 2)), .fl (.one (.int .i64 left_12)), .fl (.one (.int .i64 i_13))] ++ List.replicate 176 .dead, F := [[]], H := [.row 3 true open_5, .row 32 true want_6, .row 32 true out_11] } : St C) (KL_law33_PairMatches_28 m)
noncomputable def L_law33_PairMatches_l35 (m n : Nat) (tags_0 : ByteArray) (i_14 : Int) (open_5 : List Int) (out_11 : List Event) : Option (List (RV C)) := iterK (Q_law33_PairMatches_35 m) (St.norm (keep 5 35)) n ({ T := [.fl (.one (.str tags_0)), .dead, .dead, .dead, .dead, .fl (.one (.sl 0)), .dead, .dead, .dead, .dead, .dead, .fl (.one (.sl 1)), .dead, .dead, .fl (.one (.int .i64 i_14))] ++ List.replicate 175 .dead, F := [[]], H := [.row 3 true open_5, .row 32 false out_11] } : St C) (KL_law33_PairMatches_35 m)
noncomputable def b_law33_PairMatches_l35 {R : Type} (m : Nat) (ret : Bool → Option R) (k_l35 : ByteArray → Int → List Int → List Event → Option R) (tags_0 : ByteArray) (i_14 : Int) (open_5 : List Int) (out_11 : List Event) : Option R :=
 bif decide (i_14 < (out_11.length : Int)) then
 bif decide (0 ≤ i_14) then
 bif decide (i_14 < (out_11.length : Int)) then
 bif (out_11.getD i_14.toNat dflt_Event).Fault != 7 then
 ret false
 else
 bif decide (0 ≤ i_14) then
 bif decide (i_14 < (out_11.length : Int)) then
 bif decide ((out_11.getD i_14.toNat dflt_Event).Value < 0) then
 ret false
 else
 bif decide (0 ≤ i_14) then
 bif decide (i_14 < (out_11.length : Int)) then
 bif decide ((out_11.getD i_14.toNat dflt_Event).Value > 127) then
 ret false
 else
 bif decide (0 ≤ i_14) then
 bif decide (i_14 < (out_11.length : Int)) then
 bif decide (0 ≤ (out_11.getD i_14.toNat dflt_Event).Value) then
 bif decide ((out_11.getD i_14.toNat dflt_Event).Value < (open_5.length : Int)) then
 bif decide (0 ≤ i_14) then
 bif decide (i_14 < (out_11.length : Int)) then
 bif IntKind.i64.wrap (open_5.getD (out_11.getD i_14.toNat dflt_Event).Value.toNat 0 - 1) != (out_11.getD i_14.toNat dflt_Event).From then
 ret false
 else
 bif decide (0 ≤ i_14) then
 bif decide (i_14 < (out_11.length : Int)) then
 bif (out_11.getD i_14.toNat dflt_Event).To != (tags_0.size : Int) then
 ret false
 else
 k_l35 tags_0 (IntKind.i64.wrap (i_14 + 1)) open_5 out_11
 else
 none
 else
 none
 else
 none
 else
 none
 else
 none
 else
 none
 else
 none
 else
 none
 else
 none
 else
 none
 else
 none
 else
 none
 else
 none
 else
 none
 else
 ret true
theorem L_law33_PairMatches_l35_step (m n : Nat) (tags_0 : ByteArray) (i_14 : Int) (open_5 : List Int) (out_11 : List Event) : L_law33_PairMatches_l35 m (n + 1) tags_0 i_14 open_5 out_11 = b_law33_PairMatches_l35 m (fun x0 => some (w_law33_PairMatches x0)) (fun tags_0 i_14 open_5 out_11 => L_law33_PairMatches_l35 m n tags_0 i_14 open_5 out_11) tags_0 i_14 open_5 out_11 := by kernel_rfl
theorem b_law33_PairMatches_l35_map (m : Nat) {k_l35 : ByteArray → Int → List Int → List Event → Option (List (RV C))} {q_l35 : ByteArray → Int → List Int → List Event → Option (Bool)} (h_l35 : ∀ tags_0 i_14 open_5 out_11, k_l35 tags_0 i_14 open_5 out_11 = (q_l35 tags_0 i_14 open_5 out_11).map w_law33_PairMatches) (tags_0 : ByteArray) (i_14 : Int) (open_5 : List Int) (out_11 : List Event) : b_law33_PairMatches_l35 m (fun x0 => some (w_law33_PairMatches x0)) k_l35 tags_0 i_14 open_5 out_11 = (b_law33_PairMatches_l35 m (fun x0 => some x0) q_l35 tags_0 i_14 open_5 out_11).map w_law33_PairMatches := by
  simp only [b_law33_PairMatches_l35, cond_map, bind_map, map_none, map_some, h_l35]
noncomputable def law33_PairMatches_l35 (m : Nat) : Nat → ByteArray → Int → List Int → List Event → Option (Bool)
  | 0, _, _, _, _ => none
  | n + 1, tags_0, i_14, open_5, out_11 => b_law33_PairMatches_l35 m (fun x0 => some x0) (fun tags_0 i_14 open_5 out_11 => law33_PairMatches_l35 m n tags_0 i_14 open_5 out_11) tags_0 i_14 open_5 out_11
theorem L_law33_PairMatches_l35_eq (m : Nat) : ∀ (n : Nat) (tags_0 : ByteArray) (i_14 : Int) (open_5 : List Int) (out_11 : List Event), L_law33_PairMatches_l35 m n tags_0 i_14 open_5 out_11 = (law33_PairMatches_l35 m n tags_0 i_14 open_5 out_11).map w_law33_PairMatches
  | 0, tags_0, i_14, open_5, out_11 => by kernel_rfl
  | n + 1, tags_0, i_14, open_5, out_11 => by
    rw [L_law33_PairMatches_l35_step]
    exact b_law33_PairMatches_l35_map m (fun tags_0 i_14 open_5 out_11 => L_law33_PairMatches_l35_eq m n tags_0 i_14 open_5 out_11) tags_0 i_14 open_5 out_11
noncomputable def b_law33_PairMatches_l28 {R : Type} (m : Nat) (ret : Bool → Option R) (k_l28 : ByteArray → Int → Int → List Int → List Event → List Event → Option R) (k_l35 : ByteArray → Int → List Int → List Event → Option R) (tags_0 : ByteArray) (left_12 : Int) (i_13 : Int) (open_5 : List Int) (want_6 : List Event) (out_11 : List Event) : Option R :=
 bif decide (i_13 < 128) then
 bif decide (0 ≤ i_13) then
 bif decide (i_13 < (open_5.length : Int)) then
 bif decide (open_5.getD i_13.toNat 0 > 0) then
 k_l28 tags_0 (IntKind.i64.wrap (left_12 + 1)) (IntKind.i64.wrap (i_13 + 1)) open_5 want_6 out_11
 else
 k_l28 tags_0 left_12 (IntKind.i64.wrap (i_13 + 1)) open_5 want_6 out_11
 else
 none
 else
 none
 else
 bif (out_11.length : Int) != IntKind.i64.wrap ((want_6.length : Int) + left_12) then
 ret false
 else
 bif decide ((want_6.length : Int) ≤ (out_11.length : Int)) then
 ((law33_same m (List.drop 0 (List.take ((want_6.length : Int)).toNat out_11)) want_6).bind fun r0 =>
 bif !r0 then
 ret false
 else
 k_l35 tags_0 (want_6.length : Int) open_5 out_11)
 else
 none
theorem L_law33_PairMatches_l28_step (m n : Nat) (tags_0 : ByteArray) (left_12 : Int) (i_13 : Int) (open_5 : List Int) (want_6 : List Event) (out_11 : List Event) : L_law33_PairMatches_l28 m (n + 1) tags_0 left_12 i_13 open_5 want_6 out_11 = b_law33_PairMatches_l28 m (fun x0 => some (w_law33_PairMatches x0)) (fun tags_0 left_12 i_13 open_5 want_6 out_11 => L_law33_PairMatches_l28 m n tags_0 left_12 i_13 open_5 want_6 out_11) (fun tags_0 i_14 open_5 out_11 => L_law33_PairMatches_l35 m m tags_0 i_14 open_5 out_11) tags_0 left_12 i_13 open_5 want_6 out_11 := by kernel_rfl
theorem b_law33_PairMatches_l28_map (m : Nat) {k_l28 : ByteArray → Int → Int → List Int → List Event → List Event → Option (List (RV C))} {q_l28 : ByteArray → Int → Int → List Int → List Event → List Event → Option (Bool)} (h_l28 : ∀ tags_0 left_12 i_13 open_5 want_6 out_11, k_l28 tags_0 left_12 i_13 open_5 want_6 out_11 = (q_l28 tags_0 left_12 i_13 open_5 want_6 out_11).map w_law33_PairMatches) {k_l35 : ByteArray → Int → List Int → List Event → Option (List (RV C))} {q_l35 : ByteArray → Int → List Int → List Event → Option (Bool)} (h_l35 : ∀ tags_0 i_14 open_5 out_11, k_l35 tags_0 i_14 open_5 out_11 = (q_l35 tags_0 i_14 open_5 out_11).map w_law33_PairMatches) (tags_0 : ByteArray) (left_12 : Int) (i_13 : Int) (open_5 : List Int) (want_6 : List Event) (out_11 : List Event) : b_law33_PairMatches_l28 m (fun x0 => some (w_law33_PairMatches x0)) k_l28 k_l35 tags_0 left_12 i_13 open_5 want_6 out_11 = (b_law33_PairMatches_l28 m (fun x0 => some x0) q_l28 q_l35 tags_0 left_12 i_13 open_5 want_6 out_11).map w_law33_PairMatches := by
  simp only [b_law33_PairMatches_l28, cond_map, bind_map, map_none, map_some, h_l28, h_l35]
noncomputable def law33_PairMatches_l28 (m : Nat) : Nat → ByteArray → Int → Int → List Int → List Event → List Event → Option (Bool)
  | 0, _, _, _, _, _, _ => none
  | n + 1, tags_0, left_12, i_13, open_5, want_6, out_11 => b_law33_PairMatches_l28 m (fun x0 => some x0) (fun tags_0 left_12 i_13 open_5 want_6 out_11 => law33_PairMatches_l28 m n tags_0 left_12 i_13 open_5 want_6 out_11) (fun tags_0 i_14 open_5 out_11 => law33_PairMatches_l35 m m tags_0 i_14 open_5 out_11) tags_0 left_12 i_13 open_5 want_6 out_11
theorem L_law33_PairMatches_l28_eq (m : Nat) : ∀ (n : Nat) (tags_0 : ByteArray) (left_12 : Int) (i_13 : Int) (open_5 : List Int) (want_6 : List Event) (out_11 : List Event), L_law33_PairMatches_l28 m n tags_0 left_12 i_13 open_5 want_6 out_11 = (law33_PairMatches_l28 m n tags_0 left_12 i_13 open_5 want_6 out_11).map w_law33_PairMatches
  | 0, tags_0, left_12, i_13, open_5, want_6, out_11 => by kernel_rfl
  | n + 1, tags_0, left_12, i_13, open_5, want_6, out_11 => by
    rw [L_law33_PairMatches_l28_step]
    exact b_law33_PairMatches_l28_map m (fun tags_0 left_12 i_13 open_5 want_6 out_11 => L_law33_PairMatches_l28_eq m n tags_0 left_12 i_13 open_5 want_6 out_11) (fun tags_0 i_14 open_5 out_11 => L_law33_PairMatches_l35_eq m m tags_0 i_14 open_5 out_11) tags_0 left_12 i_13 open_5 want_6 out_11
noncomputable def b_law33_PairMatches_l10 {R : Type} (m : Nat) (ret : Bool → Option R) (k_l10 : ByteArray → Int → Pair → List Event → List Int → List Event → Option R) (k_l28 : ByteArray → Int → Int → List Int → List Event → List Event → Option R) (tags_0 : ByteArray) (i_7 : Int) (c0 : Pair) (in_4 : List Event) (open_5 : List Int) (want_6 : List Event) : Option R :=
 bif decide (i_7 < (tags_0.size : Int)) then
 bif decide (0 ≤ IntKind.i64.wrap (i_7 + 1)) then
 bif decide (IntKind.i64.wrap (i_7 + 1) ≤ (tags_0.size : Int)) then
 bif decide (0 ≤ i_7) then
 bif decide (i_7 ≤ IntKind.i64.wrap (i_7 + 1)) then
 bif decide ((in_4.length + 1) * 64 ≤ 140737488355328) then
 bif decide (0 ≤ i_7) then
 bif decide (i_7 < (tags_0.size : Int)) then
 bif decide (IntKind.i64.wrap (byteAt tags_0 i_7) < 128) then
 bif decide (0 ≤ IntKind.i64.wrap (byteAt tags_0 i_7)) then
 bif decide (IntKind.i64.wrap (byteAt tags_0 i_7) < (open_5.length : Int)) then
 bif decide (open_5.getD (IntKind.i64.wrap (byteAt tags_0 i_7)).toNat 0 > 0) then
 bif decide (0 ≤ IntKind.i64.wrap (byteAt tags_0 i_7)) then
 bif decide (IntKind.i64.wrap (byteAt tags_0 i_7) < (open_5.length : Int)) then
 bif decide ((want_6.length + 1) * 64 ≤ 140737488355328) then
 bif decide (IntKind.i64.wrap (byteAt tags_0 i_7) < 128) then
 bif decide (0 ≤ IntKind.i64.wrap (byteAt tags_0 i_7)) then
 bif decide (IntKind.i64.wrap (byteAt tags_0 i_7) < (open_5.length : Int)) then
 k_l10 tags_0 (IntKind.i64.wrap (i_7 + 1)) c0 (in_4 ++ [Event.mk 6 i_7 (IntKind.i64.wrap (i_7 + 1)) 0 0 (tags_0.extract i_7.toNat (IntKind.i64.wrap (i_7 + 1)).toNat) 0]) (open_5.set (IntKind.i64.wrap (byteAt tags_0 i_7)).toNat (IntKind.i64.wrap (i_7 + 1))) (want_6 ++ [Event.mk 8 (IntKind.i64.wrap (open_5.getD (IntKind.i64.wrap (byteAt tags_0 i_7)).toNat 0 - 1)) i_7 (IntKind.i64.wrap (byteAt tags_0 i_7)) 0 (bs []) 7])
 else
 none
 else
 none
 else
 bif decide (0 ≤ IntKind.i64.wrap (IntKind.i64.wrap (byteAt tags_0 i_7) - 128)) then
 bif decide (IntKind.i64.wrap (IntKind.i64.wrap (byteAt tags_0 i_7) - 128) < (open_5.length : Int)) then
 bif decide (open_5.getD (IntKind.i64.wrap (IntKind.i64.wrap (byteAt tags_0 i_7) - 128)).toNat 0 > 0) then
 bif decide (0 ≤ IntKind.i64.wrap (IntKind.i64.wrap (byteAt tags_0 i_7) - 128)) then
 bif decide (IntKind.i64.wrap (IntKind.i64.wrap (byteAt tags_0 i_7) - 128) < (open_5.length : Int)) then
 bif decide (((want_6 ++ [Event.mk 8 (IntKind.i64.wrap (open_5.getD (IntKind.i64.wrap (byteAt tags_0 i_7)).toNat 0 - 1)) i_7 (IntKind.i64.wrap (byteAt tags_0 i_7)) 0 (bs []) 7]).length + 1) * 64 ≤ 140737488355328) then
 k_l10 tags_0 (IntKind.i64.wrap (i_7 + 1)) c0 (in_4 ++ [Event.mk 6 i_7 (IntKind.i64.wrap (i_7 + 1)) 0 0 (tags_0.extract i_7.toNat (IntKind.i64.wrap (i_7 + 1)).toNat) 0]) (open_5.set (IntKind.i64.wrap (IntKind.i64.wrap (byteAt tags_0 i_7) - 128)).toNat 0) (want_6 ++ [Event.mk 8 (IntKind.i64.wrap (open_5.getD (IntKind.i64.wrap (byteAt tags_0 i_7)).toNat 0 - 1)) i_7 (IntKind.i64.wrap (byteAt tags_0 i_7)) 0 (bs []) 7] ++ [Event.mk 8 (IntKind.i64.wrap (open_5.getD (IntKind.i64.wrap (IntKind.i64.wrap (byteAt tags_0 i_7) - 128)).toNat 0 - 1)) i_7 (IntKind.i64.wrap (byteAt tags_0 i_7)) (IntKind.i64.wrap (i_7 - open_5.getD (IntKind.i64.wrap (IntKind.i64.wrap (byteAt tags_0 i_7) - 128)).toNat 0)) (bs []) 0])
 else
 none
 else
 none
 else
 none
 else
 bif decide (((want_6 ++ [Event.mk 8 (IntKind.i64.wrap (open_5.getD (IntKind.i64.wrap (byteAt tags_0 i_7)).toNat 0 - 1)) i_7 (IntKind.i64.wrap (byteAt tags_0 i_7)) 0 (bs []) 7]).length + 1) * 64 ≤ 140737488355328) then
 k_l10 tags_0 (IntKind.i64.wrap (i_7 + 1)) c0 (in_4 ++ [Event.mk 6 i_7 (IntKind.i64.wrap (i_7 + 1)) 0 0 (tags_0.extract i_7.toNat (IntKind.i64.wrap (i_7 + 1)).toNat) 0]) open_5 (want_6 ++ [Event.mk 8 (IntKind.i64.wrap (open_5.getD (IntKind.i64.wrap (byteAt tags_0 i_7)).toNat 0 - 1)) i_7 (IntKind.i64.wrap (byteAt tags_0 i_7)) 0 (bs []) 7] ++ [Event.mk 8 (IntKind.i64.wrap (open_5.getD (IntKind.i64.wrap (byteAt tags_0 i_7)).toNat 0 - 1)) i_7 (IntKind.i64.wrap (byteAt tags_0 i_7)) 0 (bs []) 7])
 else
 none
 else
 none
 else
 none
 else
 none
 else
 none
 else
 none
 else
 bif decide (IntKind.i64.wrap (byteAt tags_0 i_7) < 128) then
 bif decide (0 ≤ IntKind.i64.wrap (byteAt tags_0 i_7)) then
 bif decide (IntKind.i64.wrap (byteAt tags_0 i_7) < (open_5.length : Int)) then
 k_l10 tags_0 (IntKind.i64.wrap (i_7 + 1)) c0 (in_4 ++ [Event.mk 6 i_7 (IntKind.i64.wrap (i_7 + 1)) 0 0 (tags_0.extract i_7.toNat (IntKind.i64.wrap (i_7 + 1)).toNat) 0]) (open_5.set (IntKind.i64.wrap (byteAt tags_0 i_7)).toNat (IntKind.i64.wrap (i_7 + 1))) want_6
 else
 none
 else
 none
 else
 bif decide (0 ≤ IntKind.i64.wrap (IntKind.i64.wrap (byteAt tags_0 i_7) - 128)) then
 bif decide (IntKind.i64.wrap (IntKind.i64.wrap (byteAt tags_0 i_7) - 128) < (open_5.length : Int)) then
 bif decide (open_5.getD (IntKind.i64.wrap (IntKind.i64.wrap (byteAt tags_0 i_7) - 128)).toNat 0 > 0) then
 bif decide (0 ≤ IntKind.i64.wrap (IntKind.i64.wrap (byteAt tags_0 i_7) - 128)) then
 bif decide (IntKind.i64.wrap (IntKind.i64.wrap (byteAt tags_0 i_7) - 128) < (open_5.length : Int)) then
 bif decide ((want_6.length + 1) * 64 ≤ 140737488355328) then
 k_l10 tags_0 (IntKind.i64.wrap (i_7 + 1)) c0 (in_4 ++ [Event.mk 6 i_7 (IntKind.i64.wrap (i_7 + 1)) 0 0 (tags_0.extract i_7.toNat (IntKind.i64.wrap (i_7 + 1)).toNat) 0]) (open_5.set (IntKind.i64.wrap (IntKind.i64.wrap (byteAt tags_0 i_7) - 128)).toNat 0) (want_6 ++ [Event.mk 8 (IntKind.i64.wrap (open_5.getD (IntKind.i64.wrap (IntKind.i64.wrap (byteAt tags_0 i_7) - 128)).toNat 0 - 1)) (IntKind.i64.wrap (i_7 + 1)) (IntKind.i64.wrap (IntKind.i64.wrap (byteAt tags_0 i_7) - 128)) (IntKind.i64.wrap (i_7 - open_5.getD (IntKind.i64.wrap (IntKind.i64.wrap (byteAt tags_0 i_7) - 128)).toNat 0)) (bs []) 0])
 else
 none
 else
 none
 else
 none
 else
 bif decide ((want_6.length + 1) * 64 ≤ 140737488355328) then
 k_l10 tags_0 (IntKind.i64.wrap (i_7 + 1)) c0 (in_4 ++ [Event.mk 6 i_7 (IntKind.i64.wrap (i_7 + 1)) 0 0 (tags_0.extract i_7.toNat (IntKind.i64.wrap (i_7 + 1)).toNat) 0]) open_5 (want_6 ++ [Event.mk 8 i_7 (IntKind.i64.wrap (i_7 + 1)) (IntKind.i64.wrap (IntKind.i64.wrap (byteAt tags_0 i_7) - 128)) 0 (bs []) 12])
 else
 none
 else
 none
 else
 none
 else
 none
 else
 none
 else
 bif decide (IntKind.i64.wrap (byteAt tags_0 i_7) < 128) then
 bif decide (0 ≤ IntKind.i64.wrap (byteAt tags_0 i_7)) then
 bif decide (IntKind.i64.wrap (byteAt tags_0 i_7) < (open_5.length : Int)) then
 k_l10 tags_0 (IntKind.i64.wrap (i_7 + 1)) c0 (in_4 ++ [Event.mk 6 i_7 (IntKind.i64.wrap (i_7 + 1)) 0 0 (tags_0.extract i_7.toNat (IntKind.i64.wrap (i_7 + 1)).toNat) 0]) (open_5.set (IntKind.i64.wrap (byteAt tags_0 i_7)).toNat (IntKind.i64.wrap (i_7 + 1))) want_6
 else
 none
 else
 none
 else
 bif decide (0 ≤ IntKind.i64.wrap (IntKind.i64.wrap (byteAt tags_0 i_7) - 128)) then
 bif decide (IntKind.i64.wrap (IntKind.i64.wrap (byteAt tags_0 i_7) - 128) < (open_5.length : Int)) then
 bif decide (open_5.getD (IntKind.i64.wrap (IntKind.i64.wrap (byteAt tags_0 i_7) - 128)).toNat 0 > 0) then
 bif decide (0 ≤ IntKind.i64.wrap (IntKind.i64.wrap (byteAt tags_0 i_7) - 128)) then
 bif decide (IntKind.i64.wrap (IntKind.i64.wrap (byteAt tags_0 i_7) - 128) < (open_5.length : Int)) then
 bif decide ((want_6.length + 1) * 64 ≤ 140737488355328) then
 k_l10 tags_0 (IntKind.i64.wrap (i_7 + 1)) c0 (in_4 ++ [Event.mk 6 i_7 (IntKind.i64.wrap (i_7 + 1)) 0 0 (tags_0.extract i_7.toNat (IntKind.i64.wrap (i_7 + 1)).toNat) 0]) (open_5.set (IntKind.i64.wrap (IntKind.i64.wrap (byteAt tags_0 i_7) - 128)).toNat 0) (want_6 ++ [Event.mk 8 (IntKind.i64.wrap (open_5.getD (IntKind.i64.wrap (IntKind.i64.wrap (byteAt tags_0 i_7) - 128)).toNat 0 - 1)) (IntKind.i64.wrap (i_7 + 1)) (IntKind.i64.wrap (IntKind.i64.wrap (byteAt tags_0 i_7) - 128)) (IntKind.i64.wrap (i_7 - open_5.getD (IntKind.i64.wrap (IntKind.i64.wrap (byteAt tags_0 i_7) - 128)).toNat 0)) (bs []) 0])
 else
 none
 else
 none
 else
 none
 else
 bif decide ((want_6.length + 1) * 64 ≤ 140737488355328) then
 k_l10 tags_0 (IntKind.i64.wrap (i_7 + 1)) c0 (in_4 ++ [Event.mk 6 i_7 (IntKind.i64.wrap (i_7 + 1)) 0 0 (tags_0.extract i_7.toNat (IntKind.i64.wrap (i_7 + 1)).toNat) 0]) open_5 (want_6 ++ [Event.mk 8 i_7 (IntKind.i64.wrap (i_7 + 1)) (IntKind.i64.wrap (IntKind.i64.wrap (byteAt tags_0 i_7) - 128)) 0 (bs []) 12])
 else
 none
 else
 none
 else
 none
 else
 none
 else
 none
 else
 none
 else
 none
 else
 none
 else
 none
 else
 none
 else
 (pair_Decode m c0 in_4).bind fun r0 =>
 k_l28 tags_0 0 0 open_5 want_6 r0
theorem L_law33_PairMatches_l10_step (m n : Nat) (tags_0 : ByteArray) (i_7 : Int) (c0 : Pair) (in_4 : List Event) (open_5 : List Int) (want_6 : List Event) : L_law33_PairMatches_l10 m (n + 1) tags_0 i_7 c0 in_4 open_5 want_6 = b_law33_PairMatches_l10 m (fun x0 => some (w_law33_PairMatches x0)) (fun tags_0 i_7 c0 in_4 open_5 want_6 => L_law33_PairMatches_l10 m n tags_0 i_7 c0 in_4 open_5 want_6) (fun tags_0 left_12 i_13 open_5 want_6 out_11 => L_law33_PairMatches_l28 m m tags_0 left_12 i_13 open_5 want_6 out_11) tags_0 i_7 c0 in_4 open_5 want_6 := by kernel_rfl
theorem b_law33_PairMatches_l10_map (m : Nat) {k_l10 : ByteArray → Int → Pair → List Event → List Int → List Event → Option (List (RV C))} {q_l10 : ByteArray → Int → Pair → List Event → List Int → List Event → Option (Bool)} (h_l10 : ∀ tags_0 i_7 c0 in_4 open_5 want_6, k_l10 tags_0 i_7 c0 in_4 open_5 want_6 = (q_l10 tags_0 i_7 c0 in_4 open_5 want_6).map w_law33_PairMatches) {k_l28 : ByteArray → Int → Int → List Int → List Event → List Event → Option (List (RV C))} {q_l28 : ByteArray → Int → Int → List Int → List Event → List Event → Option (Bool)} (h_l28 : ∀ tags_0 left_12 i_13 open_5 want_6 out_11, k_l28 tags_0 left_12 i_13 open_5 want_6 out_11 = (q_l28 tags_0 left_12 i_13 open_5 want_6 out_11).map w_law33_PairMatches) (tags_0 : ByteArray) (i_7 : Int) (c0 : Pair) (in_4 : List Event) (open_5 : List Int) (want_6 : List Event) : b_law33_PairMatches_l10 m (fun x0 => some (w_law33_PairMatches x0)) k_l10 k_l28 tags_0 i_7 c0 in_4 open_5 want_6 = (b_law33_PairMatches_l10 m (fun x0 => some x0) q_l10 q_l28 tags_0 i_7 c0 in_4 open_5 want_6).map w_law33_PairMatches := by
  simp only [b_law33_PairMatches_l10, cond_map, bind_map, map_none, map_some, h_l10, h_l28]
noncomputable def law33_PairMatches_l10 (m : Nat) : Nat → ByteArray → Int → Pair → List Event → List Int → List Event → Option (Bool)
  | 0, _, _, _, _, _, _ => none
  | n + 1, tags_0, i_7, c0, in_4, open_5, want_6 => b_law33_PairMatches_l10 m (fun x0 => some x0) (fun tags_0 i_7 c0 in_4 open_5 want_6 => law33_PairMatches_l10 m n tags_0 i_7 c0 in_4 open_5 want_6) (fun tags_0 left_12 i_13 open_5 want_6 out_11 => law33_PairMatches_l28 m m tags_0 left_12 i_13 open_5 want_6 out_11) tags_0 i_7 c0 in_4 open_5 want_6
theorem L_law33_PairMatches_l10_eq (m : Nat) : ∀ (n : Nat) (tags_0 : ByteArray) (i_7 : Int) (c0 : Pair) (in_4 : List Event) (open_5 : List Int) (want_6 : List Event), L_law33_PairMatches_l10 m n tags_0 i_7 c0 in_4 open_5 want_6 = (law33_PairMatches_l10 m n tags_0 i_7 c0 in_4 open_5 want_6).map w_law33_PairMatches
  | 0, tags_0, i_7, c0, in_4, open_5, want_6 => by kernel_rfl
  | n + 1, tags_0, i_7, c0, in_4, open_5, want_6 => by
    rw [L_law33_PairMatches_l10_step]
    exact b_law33_PairMatches_l10_map m (fun tags_0 i_7 c0 in_4 open_5 want_6 => L_law33_PairMatches_l10_eq m n tags_0 i_7 c0 in_4 open_5 want_6) (fun tags_0 left_12 i_13 open_5 want_6 out_11 => L_law33_PairMatches_l28_eq m m tags_0 left_12 i_13 open_5 want_6 out_11) tags_0 i_7 c0 in_4 open_5 want_6
noncomputable def b_law33_PairMatches {R : Type} (m : Nat) (ret : Bool → Option R) (k_l10 : ByteArray → Int → Pair → List Event → List Int → List Event → Option R) (tags_0 : ByteArray) : Option R :=
 (law33_lives m).bind fun r0 =>
 bif !r0 then
 ret false
 else
 bif decide ((tags_0.size : Int) > 2000) then
 ret true
 else
 k_l10 tags_0 0 (Pair.mk 1099511627776) [] (List.replicate 128 0) []
theorem law33_PairMatches_pre (m : Nat) (tags_0 : ByteArray) : funK Try.prog (Ψ_law33_PairMatches m) keep m 1 5 [dStr.e tags_0] = b_law33_PairMatches m (fun x0 => some (w_law33_PairMatches x0)) (fun tags_0 i_7 c0 in_4 open_5 want_6 => L_law33_PairMatches_l10 m m tags_0 i_7 c0 in_4 open_5 want_6) tags_0 := by kernel_rfl
theorem b_law33_PairMatches_map (m : Nat) {k_l10 : ByteArray → Int → Pair → List Event → List Int → List Event → Option (List (RV C))} {q_l10 : ByteArray → Int → Pair → List Event → List Int → List Event → Option (Bool)} (h_l10 : ∀ tags_0 i_7 c0 in_4 open_5 want_6, k_l10 tags_0 i_7 c0 in_4 open_5 want_6 = (q_l10 tags_0 i_7 c0 in_4 open_5 want_6).map w_law33_PairMatches) (tags_0 : ByteArray) : b_law33_PairMatches m (fun x0 => some (w_law33_PairMatches x0)) k_l10 tags_0 = (b_law33_PairMatches m (fun x0 => some x0) q_l10 tags_0).map w_law33_PairMatches := by
  simp only [b_law33_PairMatches, cond_map, bind_map, map_none, map_some, h_l10]
noncomputable def law33_PairMatches (m : Nat) (tags_0 : ByteArray) : Option (Bool) := b_law33_PairMatches m (fun x0 => some x0) (fun tags_0 i_7 c0 in_4 open_5 want_6 => law33_PairMatches_l10 m m tags_0 i_7 c0 in_4 open_5 want_6) tags_0
theorem law33_PairMatches_fun (m : Nat) (tags_0 : ByteArray) : funK Try.prog (Ψ_law33_PairMatches m) keep m 1 5 [dStr.e tags_0] = (law33_PairMatches m tags_0).map w_law33_PairMatches := by
  rw [law33_PairMatches_pre]
  exact b_law33_PairMatches_map m (fun tags_0 i_7 c0 in_4 open_5 want_6 => L_law33_PairMatches_l10_eq m m tags_0 i_7 c0 in_4 open_5 want_6) tags_0
noncomputable def K_law33_PairMatches (m : Nat) : KnownF C := mkK (dCons dStr dNil) (fun a => law33_PairMatches m a.1) w_law33_PairMatches
theorem K_law33_PairMatches_ok (m : Nat) : KnownAt C Try.prog 5 fun l => (K_law33_PairMatches m).run _ l some :=
  mkK_known good fit (Ψ_law33_PairMatches_ok m) (keep := keep) (m := m) (d := 1) fun a => law33_PairMatches_fun m a.1
/-! ### signalbench/signalbenchlaw33.packets -/
def w_law33_packets (b : List Event) : List (RV C) := [(dRow 32).e b]
noncomputable def Q_law33_packets_4 (m : Nat) : St C → (Exit → St C → Option (List (RV C))) → Option (List (RV C)) := fun σ k => codeK Try.prog Ψ0 (callK Try.prog Ψ0 keep m 0) (keep 24) m (subC body24 [.r, .r, .r, .l, .r, .b, .o]) σ k
noncomputable def KL_law33_packets_4 (m : Nat) : Exit → St C → Option (List (RV C)) := contK Try.prog Ψ0 (callK Try.prog Ψ0 keep m 0) (keep 24) m body24 [.r, .r, .r, .l, .r, .b, .o] (leaveK Try.prog Try.f24.results.toList (finK Try.prog Try.f24.resultTypes.toList))
noncomputable def L_law33_packets_l4 (m n : Nat) (ticks_1 : Int) (at_6 : Int) (i_7 : Int) (l_0 : List Item) (out_5 : List Event) : Option (List (RV C)) := iterK (Q_law33_packets_4 m) (St.norm (keep 24 4)) n ({ T := [.fl (.one (.sl 0)), .fl (.one (.int .i64 ticks_1)), .dead, .dead, .dead, .fl (.one (.sl 1)), .fl (.one (.int .i64 at_6)), .fl (.one (.int .i64 i_7))] ++ List.replicate 31 .dead, F := [[]], H := [.row 48 false l_0, .row 32 true out_5] } : St C) (KL_law33_packets_4 m)
noncomputable def b_law33_packets_l4 {R : Type} (m : Nat) (ret : List Event → Option R) (k_l4 : Int → Int → Int → List Item → List Event → Option R) (ticks_1 : Int) (at_6 : Int) (i_7 : Int) (l_0 : List Item) (out_5 : List Event) : Option R :=
 bif decide (i_7 < (l_0.length : Int)) then
 bif decide (0 ≤ i_7) then
 bif decide (i_7 < (l_0.length : Int)) then
 bif decide (0 ≤ i_7) then
 bif decide (i_7 < (l_0.length : Int)) then
 bif decide ((out_5.length + 1) * 64 ≤ 140737488355328) then
 k_l4 ticks_1 (IntKind.i64.wrap (IntKind.i64.wrap (at_6 + (l_0.getD i_7.toNat dflt_Item).Gap) + ticks_1)) (IntKind.i64.wrap (i_7 + 1)) l_0 (out_5 ++ [Event.mk 6 (IntKind.i64.wrap (at_6 + (l_0.getD i_7.toNat dflt_Item).Gap)) (IntKind.i64.wrap (IntKind.i64.wrap (at_6 + (l_0.getD i_7.toNat dflt_Item).Gap) + ticks_1)) 0 0 (l_0.getD i_7.toNat dflt_Item).Data 0])
 else
 none
 else
 none
 else
 none
 else
 none
 else
 none
 else
 ret out_5
theorem L_law33_packets_l4_step (m n : Nat) (ticks_1 : Int) (at_6 : Int) (i_7 : Int) (l_0 : List Item) (out_5 : List Event) : L_law33_packets_l4 m (n + 1) ticks_1 at_6 i_7 l_0 out_5 = b_law33_packets_l4 m (fun x0 => some (w_law33_packets x0)) (fun ticks_1 at_6 i_7 l_0 out_5 => L_law33_packets_l4 m n ticks_1 at_6 i_7 l_0 out_5) ticks_1 at_6 i_7 l_0 out_5 := by kernel_rfl
theorem b_law33_packets_l4_map (m : Nat) {k_l4 : Int → Int → Int → List Item → List Event → Option (List (RV C))} {q_l4 : Int → Int → Int → List Item → List Event → Option (List Event)} (h_l4 : ∀ ticks_1 at_6 i_7 l_0 out_5, k_l4 ticks_1 at_6 i_7 l_0 out_5 = (q_l4 ticks_1 at_6 i_7 l_0 out_5).map w_law33_packets) (ticks_1 : Int) (at_6 : Int) (i_7 : Int) (l_0 : List Item) (out_5 : List Event) : b_law33_packets_l4 m (fun x0 => some (w_law33_packets x0)) k_l4 ticks_1 at_6 i_7 l_0 out_5 = (b_law33_packets_l4 m (fun x0 => some x0) q_l4 ticks_1 at_6 i_7 l_0 out_5).map w_law33_packets := by
  simp only [b_law33_packets_l4, cond_map, bind_map, map_none, map_some, h_l4]
noncomputable def law33_packets_l4 (m : Nat) : Nat → Int → Int → Int → List Item → List Event → Option (List Event)
  | 0, _, _, _, _, _ => none
  | n + 1, ticks_1, at_6, i_7, l_0, out_5 => b_law33_packets_l4 m (fun x0 => some x0) (fun ticks_1 at_6 i_7 l_0 out_5 => law33_packets_l4 m n ticks_1 at_6 i_7 l_0 out_5) ticks_1 at_6 i_7 l_0 out_5
theorem L_law33_packets_l4_eq (m : Nat) : ∀ (n : Nat) (ticks_1 : Int) (at_6 : Int) (i_7 : Int) (l_0 : List Item) (out_5 : List Event), L_law33_packets_l4 m n ticks_1 at_6 i_7 l_0 out_5 = (law33_packets_l4 m n ticks_1 at_6 i_7 l_0 out_5).map w_law33_packets
  | 0, ticks_1, at_6, i_7, l_0, out_5 => by kernel_rfl
  | n + 1, ticks_1, at_6, i_7, l_0, out_5 => by
    rw [L_law33_packets_l4_step]
    exact b_law33_packets_l4_map m (fun ticks_1 at_6 i_7 l_0 out_5 => L_law33_packets_l4_eq m n ticks_1 at_6 i_7 l_0 out_5) ticks_1 at_6 i_7 l_0 out_5
noncomputable def b_law33_packets {R : Type} (m : Nat) (ret : List Event → Option R) (k_l4 : Int → Int → Int → List Item → List Event → Option R) (l_0 : List Item) (ticks_1 : Int) : Option R :=
 k_l4 ticks_1 0 0 l_0 []
theorem law33_packets_pre (m : Nat) (l_0 : List Item) (ticks_1 : Int) : funK Try.prog Ψ0 keep m 1 24 [(dRow 48).e l_0, (dInt .i64).e ticks_1] = b_law33_packets m (fun x0 => some (w_law33_packets x0)) (fun ticks_1 at_6 i_7 l_0 out_5 => L_law33_packets_l4 m m ticks_1 at_6 i_7 l_0 out_5) l_0 ticks_1 := by kernel_rfl
theorem b_law33_packets_map (m : Nat) {k_l4 : Int → Int → Int → List Item → List Event → Option (List (RV C))} {q_l4 : Int → Int → Int → List Item → List Event → Option (List Event)} (h_l4 : ∀ ticks_1 at_6 i_7 l_0 out_5, k_l4 ticks_1 at_6 i_7 l_0 out_5 = (q_l4 ticks_1 at_6 i_7 l_0 out_5).map w_law33_packets) (l_0 : List Item) (ticks_1 : Int) : b_law33_packets m (fun x0 => some (w_law33_packets x0)) k_l4 l_0 ticks_1 = (b_law33_packets m (fun x0 => some x0) q_l4 l_0 ticks_1).map w_law33_packets := by
  simp only [b_law33_packets, cond_map, bind_map, map_none, map_some, h_l4]
noncomputable def law33_packets (m : Nat) (l_0 : List Item) (ticks_1 : Int) : Option (List Event) := b_law33_packets m (fun x0 => some x0) (fun ticks_1 at_6 i_7 l_0 out_5 => law33_packets_l4 m m ticks_1 at_6 i_7 l_0 out_5) l_0 ticks_1
theorem law33_packets_fun (m : Nat) (l_0 : List Item) (ticks_1 : Int) : funK Try.prog Ψ0 keep m 1 24 [(dRow 48).e l_0, (dInt .i64).e ticks_1] = (law33_packets m l_0 ticks_1).map w_law33_packets := by
  rw [law33_packets_pre]
  exact b_law33_packets_map m (fun ticks_1 at_6 i_7 l_0 out_5 => L_law33_packets_l4_eq m m ticks_1 at_6 i_7 l_0 out_5) l_0 ticks_1
noncomputable def K_law33_packets (m : Nat) : KnownF C := mkK (dCons (dRow 48) (dCons (dInt .i64) dNil)) (fun a => law33_packets m a.1 a.2.1) w_law33_packets
theorem K_law33_packets_ok (m : Nat) : KnownAt C Try.prog 24 fun l => (K_law33_packets m).run _ l some :=
  mkK_known good fit Ψ0_ok (keep := keep) (m := m) (d := 1) fun a => law33_packets_fun m a.1 a.2.1
/-! ### signalbench/signalbenchlaw33.PairRoundTrips -/
noncomputable def Ψ_law33_PairRoundTrips (m : Nat) : Known C := fun f => match f with
  | 8 => some (K_law33_lives m)
  | 20 => some (K_law33_few m)
  | 21 => some (K_pair_Encode m)
  | 24 => some (K_law33_packets m)
  | 18 => some (K_pair_Decode m)
  | _ => none
theorem Ψ_law33_PairRoundTrips_ok (m : Nat) : KnownOk C Try.prog (Ψ_law33_PairRoundTrips m) := by
  intro f φ h
  unfold Ψ_law33_PairRoundTrips at h
  split at h
  · injection h with h; subst h; exact K_law33_lives_ok m
  · injection h with h; subst h; exact K_law33_few_ok m
  · injection h with h; subst h; exact K_pair_Encode_ok m
  · injection h with h; subst h; exact K_law33_packets_ok m
  · injection h with h; subst h; exact K_pair_Decode_ok m
  · cases h
def w_law33_PairRoundTrips (b : Bool) : List (RV C) := [dBool.e b]
noncomputable def Q_law33_PairRoundTrips_12 (m : Nat) : St C → (Exit → St C → Option (List (RV C))) → Option (List (RV C)) := fun σ k => codeK Try.prog (Ψ_law33_PairRoundTrips m) (callK Try.prog (Ψ_law33_PairRoundTrips m) keep m 0) (keep 6) m (subC body6 [.r, .r, .r, .r, .r, .r, .r, .l, .r, .b, .o]) σ k
noncomputable def KL_law33_PairRoundTrips_12 (m : Nat) : Exit → St C → Option (List (RV C)) := contK Try.prog (Ψ_law33_PairRoundTrips m) (callK Try.prog (Ψ_law33_PairRoundTrips m) keep m 0) (keep 6) m body6 [.r, .r, .r, .r, .r, .r, .r, .l, .r, .b, .o] (leaveK Try.prog Try.f6.results.toList (finK Try.prog Try.f6.resultTypes.toList))
noncomputable def Q_law33_PairRoundTrips_19 (m : Nat) : St C → (Exit → St C → Option (List (RV C))) → Option (List (RV C)) := fun σ k => codeK Try.prog (Ψ_law33_PairRoundTrips m) (callK Try.prog (Ψ_law33_PairRoundTrips m) keep m 0) (keep 6) m (subC body6 [.r, .r, .r, .r, .r, .r, .r, .r, .r, .r, .l, .r, .b, .o]) σ k
noncomputable def KL_law33_PairRoundTrips_19 (m : Nat) : Exit → St C → Option (List (RV C)) := contK Try.prog (Ψ_law33_PairRoundTrips m) (callK Try.prog (Ψ_law33_PairRoundTrips m) keep m 0) (keep 6) m body6 [.r, .r, .r, .r, .r, .r, .r, .r, .r, .r, .l, .r, .b, .o] (leaveK Try.prog Try.f6.results.toList (finK Try.prog Try.f6.resultTypes.toList))
noncomputable def L_law33_PairRoundTrips_l12 (m n : Nat) (ticks_1 : Int) (i_8 : Int) (l_0 : List Item) (c1 : Pair) (m_6 : List Item) : Option (List (RV C)) := iterK (Q_law33_PairRoundTrips_12 m) (St.norm (keep 6 12)) n ({ T := [.fl (.one (.sl 0)), .fl (.one (.int .i64 ticks_1)), .dead, .dead, .dead, .fl (.one (.ptr 1 0)), .fl (.one (.sl 2)), .dead, .fl (.one (.int .i64 i_8))] ++ List.replicate 158 .dead, F := [[]], H := [.row 48 false l_0, .box 23 (cells_Pair c1), .row 48 true m_6] } : St C) (KL_law33_PairRoundTrips_12 m)
noncomputable def L_law33_PairRoundTrips_l19 (m n : Nat) (k_10 : Int) (i_11 : Int) (l_0 : List Item) (out_9 : List Event) : Option (List (RV C)) := iterK (Q_law33_PairRoundTrips_19 m) (St.norm (keep 6 19)) n ({ T := [.fl (.one (.sl 0)), .dead, .dead, .dead, .dead, .dead, .dead, .dead, .dead, .fl (.one (.sl 1)), .fl (.one (.int .i64 k_10)), .fl (.one (.int .i64 i_11))] ++ List.replicate 155 .dead, F := [[]], H := [.row 48 false l_0, .row 32 true out_9] } : St C) (KL_law33_PairRoundTrips_19 m)
noncomputable def b_law33_PairRoundTrips_l19 {R : Type} (m : Nat) (ret : Bool → Option R) (k_l19 : Int → Int → List Item → List Event → Option R) (k_10 : Int) (i_11 : Int) (l_0 : List Item) (out_9 : List Event) : Option R :=
 bif decide (i_11 < (l_0.length : Int)) then
 bif decide (0 ≤ i_11) then
 bif decide (i_11 < (l_0.length : Int)) then
 bif (l_0.getD i_11.toNat dflt_Item).Fault == 7 then
 bif decide (k_10 ≥ (out_9.length : Int)) then
 ret false
 else
 bif decide (0 ≤ k_10) then
 bif decide (k_10 < (out_9.length : Int)) then
 bif (out_9.getD k_10.toNat dflt_Event).Fault != 7 then
 ret false
 else
 bif decide (0 ≤ k_10) then
 bif decide (k_10 < (out_9.length : Int)) then
 bif decide (0 ≤ i_11) then
 bif decide (i_11 < (l_0.length : Int)) then
 bif (out_9.getD k_10.toNat dflt_Event).Value != (l_0.getD i_11.toNat dflt_Item).Value then
 ret false
 else
 bif decide (0 ≤ k_10) then
 bif decide (k_10 < (out_9.length : Int)) then
 bif !(out_9.getD k_10.toNat dflt_Event).Data.toList == (bs []).toList then
 ret false
 else
 bif decide (0 ≤ i_11) then
 bif decide (i_11 < (l_0.length : Int)) then
 bif (l_0.getD i_11.toNat dflt_Item).Fault == 12 then
 bif decide (IntKind.i64.wrap (k_10 + 1) ≥ (out_9.length : Int)) then
 ret false
 else
 bif decide (0 ≤ IntKind.i64.wrap (k_10 + 1)) then
 bif decide (IntKind.i64.wrap (k_10 + 1) < (out_9.length : Int)) then
 bif (out_9.getD (IntKind.i64.wrap (k_10 + 1)).toNat dflt_Event).Fault != 12 then
 ret false
 else
 bif decide (0 ≤ IntKind.i64.wrap (k_10 + 1)) then
 bif decide (IntKind.i64.wrap (k_10 + 1) < (out_9.length : Int)) then
 bif decide (0 ≤ i_11) then
 bif decide (i_11 < (l_0.length : Int)) then
 bif (out_9.getD (IntKind.i64.wrap (k_10 + 1)).toNat dflt_Event).Value != (l_0.getD i_11.toNat dflt_Item).Value then
 ret false
 else
 bif decide (0 ≤ IntKind.i64.wrap (k_10 + 1)) then
 bif decide (IntKind.i64.wrap (k_10 + 1) < (out_9.length : Int)) then
 bif decide (0 ≤ i_11) then
 bif decide (i_11 < (l_0.length : Int)) then
 bif !(out_9.getD (IntKind.i64.wrap (k_10 + 1)).toNat dflt_Event).Data.toList == (l_0.getD i_11.toNat dflt_Item).Data.toList then
 ret false
 else
 k_l19 (IntKind.i64.wrap (IntKind.i64.wrap (k_10 + 1) + 1)) (IntKind.i64.wrap (i_11 + 1)) l_0 out_9
 else
 none
 else
 none
 else
 none
 else
 none
 else
 none
 else
 none
 else
 none
 else
 none
 else
 none
 else
 none
 else
 bif decide (IntKind.i64.wrap (k_10 + 1) ≥ (out_9.length : Int)) then
 ret false
 else
 bif decide (0 ≤ IntKind.i64.wrap (k_10 + 1)) then
 bif decide (IntKind.i64.wrap (k_10 + 1) < (out_9.length : Int)) then
 bif (out_9.getD (IntKind.i64.wrap (k_10 + 1)).toNat dflt_Event).Fault != 0 then
 ret false
 else
 bif decide (0 ≤ IntKind.i64.wrap (k_10 + 1)) then
 bif decide (IntKind.i64.wrap (k_10 + 1) < (out_9.length : Int)) then
 bif decide (0 ≤ i_11) then
 bif decide (i_11 < (l_0.length : Int)) then
 bif (out_9.getD (IntKind.i64.wrap (k_10 + 1)).toNat dflt_Event).Value != (l_0.getD i_11.toNat dflt_Item).Value then
 ret false
 else
 bif decide (0 ≤ IntKind.i64.wrap (k_10 + 1)) then
 bif decide (IntKind.i64.wrap (k_10 + 1) < (out_9.length : Int)) then
 bif decide (0 ≤ i_11) then
 bif decide (i_11 < (l_0.length : Int)) then
 bif !(out_9.getD (IntKind.i64.wrap (k_10 + 1)).toNat dflt_Event).Data.toList == (l_0.getD i_11.toNat dflt_Item).Data.toList then
 ret false
 else
 k_l19 (IntKind.i64.wrap (IntKind.i64.wrap (k_10 + 1) + 1)) (IntKind.i64.wrap (i_11 + 1)) l_0 out_9
 else
 none
 else
 none
 else
 none
 else
 none
 else
 none
 else
 none
 else
 none
 else
 none
 else
 none
 else
 none
 else
 none
 else
 none
 else
 none
 else
 none
 else
 none
 else
 none
 else
 none
 else
 none
 else
 none
 else
 none
 else
 bif decide (0 ≤ i_11) then
 bif decide (i_11 < (l_0.length : Int)) then
 bif (l_0.getD i_11.toNat dflt_Item).Fault == 12 then
 bif decide (k_10 ≥ (out_9.length : Int)) then
 ret false
 else
 bif decide (0 ≤ k_10) then
 bif decide (k_10 < (out_9.length : Int)) then
 bif (out_9.getD k_10.toNat dflt_Event).Fault != 12 then
 ret false
 else
 bif decide (0 ≤ k_10) then
 bif decide (k_10 < (out_9.length : Int)) then
 bif decide (0 ≤ i_11) then
 bif decide (i_11 < (l_0.length : Int)) then
 bif (out_9.getD k_10.toNat dflt_Event).Value != (l_0.getD i_11.toNat dflt_Item).Value then
 ret false
 else
 bif decide (0 ≤ k_10) then
 bif decide (k_10 < (out_9.length : Int)) then
 bif decide (0 ≤ i_11) then
 bif decide (i_11 < (l_0.length : Int)) then
 bif !(out_9.getD k_10.toNat dflt_Event).Data.toList == (l_0.getD i_11.toNat dflt_Item).Data.toList then
 ret false
 else
 k_l19 (IntKind.i64.wrap (k_10 + 1)) (IntKind.i64.wrap (i_11 + 1)) l_0 out_9
 else
 none
 else
 none
 else
 none
 else
 none
 else
 none
 else
 none
 else
 none
 else
 none
 else
 none
 else
 none
 else
 bif decide (k_10 ≥ (out_9.length : Int)) then
 ret false
 else
 bif decide (0 ≤ k_10) then
 bif decide (k_10 < (out_9.length : Int)) then
 bif (out_9.getD k_10.toNat dflt_Event).Fault != 0 then
 ret false
 else
 bif decide (0 ≤ k_10) then
 bif decide (k_10 < (out_9.length : Int)) then
 bif decide (0 ≤ i_11) then
 bif decide (i_11 < (l_0.length : Int)) then
 bif (out_9.getD k_10.toNat dflt_Event).Value != (l_0.getD i_11.toNat dflt_Item).Value then
 ret false
 else
 bif decide (0 ≤ k_10) then
 bif decide (k_10 < (out_9.length : Int)) then
 bif decide (0 ≤ i_11) then
 bif decide (i_11 < (l_0.length : Int)) then
 bif !(out_9.getD k_10.toNat dflt_Event).Data.toList == (l_0.getD i_11.toNat dflt_Item).Data.toList then
 ret false
 else
 k_l19 (IntKind.i64.wrap (k_10 + 1)) (IntKind.i64.wrap (i_11 + 1)) l_0 out_9
 else
 none
 else
 none
 else
 none
 else
 none
 else
 none
 else
 none
 else
 none
 else
 none
 else
 none
 else
 none
 else
 none
 else
 none
 else
 none
 else
 none
 else
 ret (k_10 == (out_9.length : Int))
theorem L_law33_PairRoundTrips_l19_step (m n : Nat) (k_10 : Int) (i_11 : Int) (l_0 : List Item) (out_9 : List Event) : L_law33_PairRoundTrips_l19 m (n + 1) k_10 i_11 l_0 out_9 = b_law33_PairRoundTrips_l19 m (fun x0 => some (w_law33_PairRoundTrips x0)) (fun k_10 i_11 l_0 out_9 => L_law33_PairRoundTrips_l19 m n k_10 i_11 l_0 out_9) k_10 i_11 l_0 out_9 := by kernel_rfl
theorem b_law33_PairRoundTrips_l19_map (m : Nat) {k_l19 : Int → Int → List Item → List Event → Option (List (RV C))} {q_l19 : Int → Int → List Item → List Event → Option (Bool)} (h_l19 : ∀ k_10 i_11 l_0 out_9, k_l19 k_10 i_11 l_0 out_9 = (q_l19 k_10 i_11 l_0 out_9).map w_law33_PairRoundTrips) (k_10 : Int) (i_11 : Int) (l_0 : List Item) (out_9 : List Event) : b_law33_PairRoundTrips_l19 m (fun x0 => some (w_law33_PairRoundTrips x0)) k_l19 k_10 i_11 l_0 out_9 = (b_law33_PairRoundTrips_l19 m (fun x0 => some x0) q_l19 k_10 i_11 l_0 out_9).map w_law33_PairRoundTrips := by
  simp only [b_law33_PairRoundTrips_l19, cond_map, bind_map, map_none, map_some, h_l19]
noncomputable def law33_PairRoundTrips_l19 (m : Nat) : Nat → Int → Int → List Item → List Event → Option (Bool)
  | 0, _, _, _, _ => none
  | n + 1, k_10, i_11, l_0, out_9 => b_law33_PairRoundTrips_l19 m (fun x0 => some x0) (fun k_10 i_11 l_0 out_9 => law33_PairRoundTrips_l19 m n k_10 i_11 l_0 out_9) k_10 i_11 l_0 out_9
theorem L_law33_PairRoundTrips_l19_eq (m : Nat) : ∀ (n : Nat) (k_10 : Int) (i_11 : Int) (l_0 : List Item) (out_9 : List Event), L_law33_PairRoundTrips_l19 m n k_10 i_11 l_0 out_9 = (law33_PairRoundTrips_l19 m n k_10 i_11 l_0 out_9).map w_law33_PairRoundTrips
  | 0, k_10, i_11, l_0, out_9 => by kernel_rfl
  | n + 1, k_10, i_11, l_0, out_9 => by
    rw [L_law33_PairRoundTrips_l19_step]
    exact b_law33_PairRoundTrips_l19_map m (fun k_10 i_11 l_0 out_9 => L_law33_PairRoundTrips_l19_eq m n k_10 i_11 l_0 out_9) k_10 i_11 l_0 out_9
noncomputable def b_law33_PairRoundTrips_l12 {R : Type} (m : Nat) (ret : Bool → Option R) (k_l12 : Int → Int → List Item → Pair → List Item → Option R) (k_l19 : Int → Int → List Item → List Event → Option R) (ticks_1 : Int) (i_8 : Int) (l_0 : List Item) (c1 : Pair) (m_6 : List Item) : Option R :=
 bif decide (i_8 < (m_6.length : Int)) then
 bif decide (0 ≤ i_8) then
 bif decide (i_8 < (m_6.length : Int)) then
 bif decide ((m_6.getD i_8.toNat dflt_Item).Gap < 0) then
 ret false
 else
 bif decide (0 ≤ i_8) then
 bif decide (i_8 < (m_6.length : Int)) then
 bif decide ((m_6.getD i_8.toNat dflt_Item).Gap > 1048576) then
 ret false
 else
 k_l12 ticks_1 (IntKind.i64.wrap (i_8 + 1)) l_0 c1 m_6
 else
 none
 else
 none
 else
 none
 else
 none
 else
 (law33_packets m m_6 ticks_1).bind fun r0 =>
 (pair_Decode m c1 r0).bind fun r1 =>
 k_l19 0 0 l_0 r1
theorem L_law33_PairRoundTrips_l12_step (m n : Nat) (ticks_1 : Int) (i_8 : Int) (l_0 : List Item) (c1 : Pair) (m_6 : List Item) : L_law33_PairRoundTrips_l12 m (n + 1) ticks_1 i_8 l_0 c1 m_6 = b_law33_PairRoundTrips_l12 m (fun x0 => some (w_law33_PairRoundTrips x0)) (fun ticks_1 i_8 l_0 c1 m_6 => L_law33_PairRoundTrips_l12 m n ticks_1 i_8 l_0 c1 m_6) (fun k_10 i_11 l_0 out_9 => L_law33_PairRoundTrips_l19 m m k_10 i_11 l_0 out_9) ticks_1 i_8 l_0 c1 m_6 := by kernel_rfl
theorem b_law33_PairRoundTrips_l12_map (m : Nat) {k_l12 : Int → Int → List Item → Pair → List Item → Option (List (RV C))} {q_l12 : Int → Int → List Item → Pair → List Item → Option (Bool)} (h_l12 : ∀ ticks_1 i_8 l_0 c1 m_6, k_l12 ticks_1 i_8 l_0 c1 m_6 = (q_l12 ticks_1 i_8 l_0 c1 m_6).map w_law33_PairRoundTrips) {k_l19 : Int → Int → List Item → List Event → Option (List (RV C))} {q_l19 : Int → Int → List Item → List Event → Option (Bool)} (h_l19 : ∀ k_10 i_11 l_0 out_9, k_l19 k_10 i_11 l_0 out_9 = (q_l19 k_10 i_11 l_0 out_9).map w_law33_PairRoundTrips) (ticks_1 : Int) (i_8 : Int) (l_0 : List Item) (c1 : Pair) (m_6 : List Item) : b_law33_PairRoundTrips_l12 m (fun x0 => some (w_law33_PairRoundTrips x0)) k_l12 k_l19 ticks_1 i_8 l_0 c1 m_6 = (b_law33_PairRoundTrips_l12 m (fun x0 => some x0) q_l12 q_l19 ticks_1 i_8 l_0 c1 m_6).map w_law33_PairRoundTrips := by
  simp only [b_law33_PairRoundTrips_l12, cond_map, bind_map, map_none, map_some, h_l12, h_l19]
noncomputable def law33_PairRoundTrips_l12 (m : Nat) : Nat → Int → Int → List Item → Pair → List Item → Option (Bool)
  | 0, _, _, _, _, _ => none
  | n + 1, ticks_1, i_8, l_0, c1, m_6 => b_law33_PairRoundTrips_l12 m (fun x0 => some x0) (fun ticks_1 i_8 l_0 c1 m_6 => law33_PairRoundTrips_l12 m n ticks_1 i_8 l_0 c1 m_6) (fun k_10 i_11 l_0 out_9 => law33_PairRoundTrips_l19 m m k_10 i_11 l_0 out_9) ticks_1 i_8 l_0 c1 m_6
theorem L_law33_PairRoundTrips_l12_eq (m : Nat) : ∀ (n : Nat) (ticks_1 : Int) (i_8 : Int) (l_0 : List Item) (c1 : Pair) (m_6 : List Item), L_law33_PairRoundTrips_l12 m n ticks_1 i_8 l_0 c1 m_6 = (law33_PairRoundTrips_l12 m n ticks_1 i_8 l_0 c1 m_6).map w_law33_PairRoundTrips
  | 0, ticks_1, i_8, l_0, c1, m_6 => by kernel_rfl
  | n + 1, ticks_1, i_8, l_0, c1, m_6 => by
    rw [L_law33_PairRoundTrips_l12_step]
    exact b_law33_PairRoundTrips_l12_map m (fun ticks_1 i_8 l_0 c1 m_6 => L_law33_PairRoundTrips_l12_eq m n ticks_1 i_8 l_0 c1 m_6) (fun k_10 i_11 l_0 out_9 => L_law33_PairRoundTrips_l19_eq m m k_10 i_11 l_0 out_9) ticks_1 i_8 l_0 c1 m_6
noncomputable def b_law33_PairRoundTrips {R : Type} (m : Nat) (ret : Bool → Option R) (k_l12 : Int → Int → List Item → Pair → List Item → Option R) (l_0 : List Item) (ticks_1 : Int) : Option R :=
 (law33_lives m).bind fun r0 =>
 bif !r0 then
 ret false
 else
 (law33_few m l_0).bind fun r1 =>
 bif !r1 then
 ret true
 else
 bif decide (ticks_1 < 1) then
 ret true
 else
 bif decide (ticks_1 > 1000) then
 ret true
 else
 (pair_Encode m (Pair.mk 1099511627776) l_0).bind fun r2 =>
 bif r2.snd != 0 then
 ret ((r2.fst.length : Int) == 0)
 else
 bif decide ((r2.fst.length : Int) > IntKind.i64.wrap (3 * (l_0.length : Int))) then
 ret false
 else
 k_l12 ticks_1 0 l_0 (Pair.mk 1099511627776) r2.fst
theorem law33_PairRoundTrips_pre (m : Nat) (l_0 : List Item) (ticks_1 : Int) : funK Try.prog (Ψ_law33_PairRoundTrips m) keep m 1 6 [(dRow 48).e l_0, (dInt .i64).e ticks_1] = b_law33_PairRoundTrips m (fun x0 => some (w_law33_PairRoundTrips x0)) (fun ticks_1 i_8 l_0 c1 m_6 => L_law33_PairRoundTrips_l12 m m ticks_1 i_8 l_0 c1 m_6) l_0 ticks_1 := by kernel_rfl
theorem b_law33_PairRoundTrips_map (m : Nat) {k_l12 : Int → Int → List Item → Pair → List Item → Option (List (RV C))} {q_l12 : Int → Int → List Item → Pair → List Item → Option (Bool)} (h_l12 : ∀ ticks_1 i_8 l_0 c1 m_6, k_l12 ticks_1 i_8 l_0 c1 m_6 = (q_l12 ticks_1 i_8 l_0 c1 m_6).map w_law33_PairRoundTrips) (l_0 : List Item) (ticks_1 : Int) : b_law33_PairRoundTrips m (fun x0 => some (w_law33_PairRoundTrips x0)) k_l12 l_0 ticks_1 = (b_law33_PairRoundTrips m (fun x0 => some x0) q_l12 l_0 ticks_1).map w_law33_PairRoundTrips := by
  simp only [b_law33_PairRoundTrips, cond_map, bind_map, map_none, map_some, h_l12]
noncomputable def law33_PairRoundTrips (m : Nat) (l_0 : List Item) (ticks_1 : Int) : Option (Bool) := b_law33_PairRoundTrips m (fun x0 => some x0) (fun ticks_1 i_8 l_0 c1 m_6 => law33_PairRoundTrips_l12 m m ticks_1 i_8 l_0 c1 m_6) l_0 ticks_1
theorem law33_PairRoundTrips_fun (m : Nat) (l_0 : List Item) (ticks_1 : Int) : funK Try.prog (Ψ_law33_PairRoundTrips m) keep m 1 6 [(dRow 48).e l_0, (dInt .i64).e ticks_1] = (law33_PairRoundTrips m l_0 ticks_1).map w_law33_PairRoundTrips := by
  rw [law33_PairRoundTrips_pre]
  exact b_law33_PairRoundTrips_map m (fun ticks_1 i_8 l_0 c1 m_6 => L_law33_PairRoundTrips_l12_eq m m ticks_1 i_8 l_0 c1 m_6) l_0 ticks_1
noncomputable def K_law33_PairRoundTrips (m : Nat) : KnownF C := mkK (dCons (dRow 48) (dCons (dInt .i64) dNil)) (fun a => law33_PairRoundTrips m a.1 a.2.1) w_law33_PairRoundTrips
theorem K_law33_PairRoundTrips_ok (m : Nat) : KnownAt C Try.prog 6 fun l => (K_law33_PairRoundTrips m).run _ l some :=
  mkK_known good fit (Ψ_law33_PairRoundTrips_ok m) (keep := keep) (m := m) (d := 1) fun a => law33_PairRoundTrips_fun m a.1 a.2.1
/-! ### signalbench/signalbenchlaw33.PairTimeouts -/
noncomputable def Ψ_law33_PairTimeouts (m : Nat) : Known C := fun f => match f with
  | 8 => some (K_law33_lives m)
  | 18 => some (K_pair_Decode m)
  | _ => none
theorem Ψ_law33_PairTimeouts_ok (m : Nat) : KnownOk C Try.prog (Ψ_law33_PairTimeouts m) := by
  intro f φ h
  unfold Ψ_law33_PairTimeouts at h
  split at h
  · injection h with h; subst h; exact K_law33_lives_ok m
  · injection h with h; subst h; exact K_pair_Decode_ok m
  · cases h
def w_law33_PairTimeouts (b : Bool) : List (RV C) := [dBool.e b]
noncomputable def b_law33_PairTimeouts {R : Type} (m : Nat) (ret : Bool → Option R) (timeout_0 : Int) (tag_1 : Int) (from_2 : Int) (long_3 : Int) (wait_4 : Int) : Option R :=
 (law33_lives m).bind fun r0 =>
 bif !r0 then
 ret false
 else
 bif decide (timeout_0 < 1) then
 ret true
 else
 bif decide (timeout_0 > 274877906944) then
 ret true
 else
 bif decide (tag_1 < 0) then
 ret true
 else
 bif decide (tag_1 > 127) then
 ret true
 else
 bif decide (from_2 < 0) then
 ret true
 else
 bif decide (from_2 > 137438953472) then
 ret true
 else
 bif decide (long_3 < 0) then
 ret true
 else
 bif decide (long_3 > 137438953472) then
 ret true
 else
 bif decide (wait_4 < 0) then
 ret true
 else
 bif decide (wait_4 > 274877906944) then
 ret true
 else
 (pair_Decode m (Pair.mk timeout_0) [Event.mk 6 from_2 (IntKind.i64.wrap (from_2 + long_3)) 0 0 (toBytes [IntKind.u8.wrap tag_1]) 0, Event.mk 6 (IntKind.i64.wrap (IntKind.i64.wrap (from_2 + long_3) + wait_4)) (IntKind.i64.wrap (IntKind.i64.wrap (IntKind.i64.wrap (from_2 + long_3) + wait_4) + 1)) 0 0 (toBytes [IntKind.u8.wrap (IntKind.i64.wrap (128 + tag_1)), 7]) 0]).bind fun r1 =>
 bif decide (wait_4 ≤ timeout_0) then
 bif (r1.length : Int) == 1 then
 bif decide (0 < (r1.length : Int)) then
 ret ((r1.getD 0 dflt_Event).Kind == 8 && ((r1.getD 0 dflt_Event).From == from_2 && ((r1.getD 0 dflt_Event).To == IntKind.i64.wrap (IntKind.i64.wrap (IntKind.i64.wrap (from_2 + long_3) + wait_4) + 1) && ((r1.getD 0 dflt_Event).Value == tag_1 && ((r1.getD 0 dflt_Event).Aux == wait_4 && ((r1.getD 0 dflt_Event).Data == bs [7] && ((r1.getD 0 dflt_Event).Fault == 0 && true)))))))
 else
 none
 else
 ret false
 else
 bif (r1.length : Int) == 2 then
 bif decide (0 < (r1.length : Int)) then
 bif (r1.getD 0 dflt_Event).Kind == 8 && ((r1.getD 0 dflt_Event).From == from_2 && ((r1.getD 0 dflt_Event).To == IntKind.i64.wrap (IntKind.i64.wrap (from_2 + long_3) + timeout_0) && ((r1.getD 0 dflt_Event).Value == tag_1 && ((r1.getD 0 dflt_Event).Aux == 0 && ((r1.getD 0 dflt_Event).Data == bs [] && ((r1.getD 0 dflt_Event).Fault == 11 && true)))))) then
 bif decide (1 < (r1.length : Int)) then
 ret ((r1.getD 1 dflt_Event).Kind == 8 && ((r1.getD 1 dflt_Event).From == IntKind.i64.wrap (IntKind.i64.wrap (from_2 + long_3) + wait_4) && ((r1.getD 1 dflt_Event).To == IntKind.i64.wrap (IntKind.i64.wrap (IntKind.i64.wrap (from_2 + long_3) + wait_4) + 1) && ((r1.getD 1 dflt_Event).Value == tag_1 && ((r1.getD 1 dflt_Event).Aux == 0 && ((r1.getD 1 dflt_Event).Data == bs [7] && ((r1.getD 1 dflt_Event).Fault == 12 && true)))))))
 else
 none
 else
 ret false
 else
 none
 else
 ret false
theorem law33_PairTimeouts_pre (m : Nat) (timeout_0 : Int) (tag_1 : Int) (from_2 : Int) (long_3 : Int) (wait_4 : Int) : funK Try.prog (Ψ_law33_PairTimeouts m) keep m 1 7 [(dInt .i64).e timeout_0, (dInt .i64).e tag_1, (dInt .i64).e from_2, (dInt .i64).e long_3, (dInt .i64).e wait_4] = b_law33_PairTimeouts m (fun x0 => some (w_law33_PairTimeouts x0)) timeout_0 tag_1 from_2 long_3 wait_4 := by kernel_rfl
theorem b_law33_PairTimeouts_map (m : Nat) (timeout_0 : Int) (tag_1 : Int) (from_2 : Int) (long_3 : Int) (wait_4 : Int) : b_law33_PairTimeouts m (fun x0 => some (w_law33_PairTimeouts x0)) timeout_0 tag_1 from_2 long_3 wait_4 = (b_law33_PairTimeouts m (fun x0 => some x0) timeout_0 tag_1 from_2 long_3 wait_4).map w_law33_PairTimeouts := by
  simp only [b_law33_PairTimeouts, cond_map, bind_map, map_none, map_some]
noncomputable def law33_PairTimeouts (m : Nat) (timeout_0 : Int) (tag_1 : Int) (from_2 : Int) (long_3 : Int) (wait_4 : Int) : Option (Bool) := b_law33_PairTimeouts m (fun x0 => some x0) timeout_0 tag_1 from_2 long_3 wait_4
theorem law33_PairTimeouts_fun (m : Nat) (timeout_0 : Int) (tag_1 : Int) (from_2 : Int) (long_3 : Int) (wait_4 : Int) : funK Try.prog (Ψ_law33_PairTimeouts m) keep m 1 7 [(dInt .i64).e timeout_0, (dInt .i64).e tag_1, (dInt .i64).e from_2, (dInt .i64).e long_3, (dInt .i64).e wait_4] = (law33_PairTimeouts m timeout_0 tag_1 from_2 long_3 wait_4).map w_law33_PairTimeouts := by
  rw [law33_PairTimeouts_pre]
  exact b_law33_PairTimeouts_map m timeout_0 tag_1 from_2 long_3 wait_4
noncomputable def K_law33_PairTimeouts (m : Nat) : KnownF C := mkK (dCons (dInt .i64) (dCons (dInt .i64) (dCons (dInt .i64) (dCons (dInt .i64) (dCons (dInt .i64) dNil))))) (fun a => law33_PairTimeouts m a.1 a.2.1 a.2.2.1 a.2.2.2.1 a.2.2.2.2.1) w_law33_PairTimeouts
theorem K_law33_PairTimeouts_ok (m : Nat) : KnownAt C Try.prog 7 fun l => (K_law33_PairTimeouts m).run _ l some :=
  mkK_known good fit (Ψ_law33_PairTimeouts_ok m) (keep := keep) (m := m) (d := 1) fun a => law33_PairTimeouts_fun m a.1 a.2.1 a.2.2.1 a.2.2.2.1 a.2.2.2.2.1
end Go.Abs.K
