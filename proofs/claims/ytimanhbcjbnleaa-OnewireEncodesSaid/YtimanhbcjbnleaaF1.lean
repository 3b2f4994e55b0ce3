/- Plain functions for the functions of the seat, printed by a program of this claim's own, with their proofs. -/
import Derived.Test.YtimanhbcjbnleaaB
set_option linter.unusedVariables false
set_option linter.unusedSimpArgs false
set_option maxRecDepth 100000
namespace Go.Abs.K
open Go Go.Abs Go.Proofs
/-! ### signalbench/signalbenchlaw25.small -/
def w_law25_small (b : Bool) : List (RV C) := [dBool.e b]
noncomputable def Q_law25_small_4 (m : Nat) : St C → (Exit → St C → Option (List (RV C))) → Option (List (RV C)) := fun σ k => codeK Try.prog Ψ0 (callK Try.prog Ψ0 keep m 0) (keep 9) m (subC body9 [.r, .r, .l, .r, .b, .o]) σ k
noncomputable def KL_law25_small_4 (m : Nat) : Exit → St C → Option (List (RV C)) := contK Try.prog Ψ0 (callK Try.prog Ψ0 keep m 0) (keep 9) m body9 [.r, .r, .l, .r, .b, .o] (leaveK Try.prog Try.f9.results.toList (finK Try.prog Try.f9.resultTypes.toList))
noncomputable def L_law25_small_l4 (m n : Nat) (i_3 : Int) (l_0 : List Event) : Option (List (RV C)) := iterK (Q_law25_small_4 m) (St.norm (keep 9 4)) n ({ T := [.fl (.one (.sl 0)), .dead, .dead, .fl (.one (.int .i64 i_3))] ++ List.replicate 16 .dead, F := [[]], H := [.row 33 false l_0] } : St C) (KL_law25_small_4 m)
noncomputable def b_law25_small_l4 {R : Type} (m : Nat) (ret : Bool → Option R) (k_l4 : Int → List Event → Option R) (i_3 : Int) (l_0 : List Event) : Option R :=
 bif decide (i_3 < (l_0.length : Int)) then
 bif decide (0 ≤ i_3) then
 bif decide (i_3 < (l_0.length : Int)) then
 bif decide (((l_0.getD i_3.toNat dflt_Event).Data.size : Int) > 20) then
 ret false
 else
 k_l4 (IntKind.i64.wrap (i_3 + 1)) l_0
 else
 none
 else
 none
 else
 ret true
theorem L_law25_small_l4_step (m n : Nat) (i_3 : Int) (l_0 : List Event) : L_law25_small_l4 m (n + 1) i_3 l_0 = b_law25_small_l4 m (fun x0 => some (w_law25_small x0)) (fun i_3 l_0 => L_law25_small_l4 m n i_3 l_0) i_3 l_0 := by kernel_rfl
theorem b_law25_small_l4_map (m : Nat) {k_l4 : Int → List Event → Option (List (RV C))} {q_l4 : Int → List Event → Option (Bool)} (h_l4 : ∀ i_3 l_0, k_l4 i_3 l_0 = (q_l4 i_3 l_0).map w_law25_small) (i_3 : Int) (l_0 : List Event) : b_law25_small_l4 m (fun x0 => some (w_law25_small x0)) k_l4 i_3 l_0 = (b_law25_small_l4 m (fun x0 => some x0) q_l4 i_3 l_0).map w_law25_small := by
  simp only [b_law25_small_l4, cond_map, bind_map, map_none, map_some, h_l4]
noncomputable def law25_small_l4 (m : Nat) : Nat → Int → List Event → Option (Bool)
  | 0, _, _ => none
  | n + 1, i_3, l_0 => b_law25_small_l4 m (fun x0 => some x0) (fun i_3 l_0 => law25_small_l4 m n i_3 l_0) i_3 l_0
theorem L_law25_small_l4_eq (m : Nat) : ∀ (n : Nat) (i_3 : Int) (l_0 : List Event), L_law25_small_l4 m n i_3 l_0 = (law25_small_l4 m n i_3 l_0).map w_law25_small
  | 0, i_3, l_0 => by kernel_rfl
  | n + 1, i_3, l_0 => by
    rw [L_law25_small_l4_step]
    exact b_law25_small_l4_map m (fun i_3 l_0 => L_law25_small_l4_eq m n i_3 l_0) i_3 l_0
noncomputable def b_law25_small {R : Type} (m : Nat) (ret : Bool → Option R) (k_l4 : Int → List Event → Option R) (l_0 : List Event) : Option R :=
 bif decide ((l_0.length : Int) > 60) then
 ret false
 else
 k_l4 0 l_0
theorem law25_small_pre (m : Nat) (l_0 : List Event) : funK Try.prog Ψ0 keep m 1 9 [(dRow 33).e l_0] = b_law25_small m (fun x0 => some (w_law25_small x0)) (fun i_3 l_0 => L_law25_small_l4 m m i_3 l_0) l_0 := by kernel_rfl
theorem b_law25_small_map (m : Nat) {k_l4 : Int → List Event → Option (List (RV C))} {q_l4 : Int → List Event → Option (Bool)} (h_l4 : ∀ i_3 l_0, k_l4 i_3 l_0 = (q_l4 i_3 l_0).map w_law25_small) (l_0 : List Event) : b_law25_small m (fun x0 => some (w_law25_small x0)) k_l4 l_0 = (b_law25_small m (fun x0 => some x0) q_l4 l_0).map w_law25_small := by
  simp only [b_law25_small, cond_map, bind_map, map_none, map_some, h_l4]
noncomputable def law25_small (m : Nat) (l_0 : List Event) : Option (Bool) := b_law25_small m (fun x0 => some x0) (fun i_3 l_0 => law25_small_l4 m m i_3 l_0) l_0
theorem law25_small_fun (m : Nat) (l_0 : List Event) : funK Try.prog Ψ0 keep m 1 9 [(dRow 33).e l_0] = (law25_small m l_0).map w_law25_small := by
  rw [law25_small_pre]
  exact b_law25_small_map m (fun i_3 l_0 => L_law25_small_l4_eq m m i_3 l_0) l_0
noncomputable def K_law25_small (m : Nat) : KnownF C := mkK (dCons (dRow 33) dNil) (fun a => law25_small m a.1) w_law25_small
theorem K_law25_small_ok (m : Nat) : KnownAt C Try.prog 9 fun l => (K_law25_small m).run _ l some :=
  mkK_known good fit Ψ0_ok (keep := keep) (m := m) (d := 1) fun a => law25_small_fun m a.1
/-! ### signalbench/onewire.Check -/
def w_onewire_Check (b : Int) : List (RV C) := [(dInt .i64).e b]
noncomputable def b_onewire_Check {R : Type} (m : Nat) (ret : Int → Option R) (c_0 : Onewire) : Option R :=
 bif decide (c_0.T < 1) then
 ret 2
 else
 bif decide (c_0.T > 1048576) then
 ret 2
 else
 ret 0
theorem onewire_Check_pre (m : Nat) (c_0 : Onewire) : funK Try.prog Ψ0 keep m 1 16 [(dS of_Onewire cells_Onewire of_Onewire_ok).e c_0] = b_onewire_Check m (fun x0 => some (w_onewire_Check x0)) c_0 := by kernel_rfl
theorem b_onewire_Check_map (m : Nat) (c_0 : Onewire) : b_onewire_Check m (fun x0 => some (w_onewire_Check x0)) c_0 = (b_onewire_Check m (fun x0 => some x0) c_0).map w_onewire_Check := by
  simp only [b_onewire_Check, cond_map, bind_map, map_none, map_some]
noncomputable def onewire_Check (m : Nat) (c_0 : Onewire) : Option (Int) := b_onewire_Check m (fun x0 => some x0) c_0
theorem onewire_Check_fun (m : Nat) (c_0 : Onewire) : funK Try.prog Ψ0 keep m 1 16 [(dS of_Onewire cells_Onewire of_Onewire_ok).e c_0] = (onewire_Check m c_0).map w_onewire_Check := by
  rw [onewire_Check_pre]
  exact b_onewire_Check_map m c_0
noncomputable def K_onewire_Check (m : Nat) : KnownF C := mkK (dCons (dS of_Onewire cells_Onewire of_Onewire_ok) dNil) (fun a => onewire_Check m a.1) w_onewire_Check
theorem K_onewire_Check_ok (m : Nat) : KnownAt C Try.prog 16 fun l => (K_onewire_Check m).run _ l some :=
  mkK_known good fit Ψ0_ok (keep := keep) (m := m) (d := 1) fun a => onewire_Check_fun m a.1
/-! ### signalbench/onewire.refused -/
def w_onewire_refused (b : Int) : List (RV C) := [(dInt .i64).e b]
noncomputable def b_onewire_refused {R : Type} (m : Nat) (ret : Int → Option R) (x_0 : Item) : Option R :=
 bif decide (x_0.Gap < 0) then
 ret 1
 else
 bif decide (x_0.Gap > 1048576) then
 ret 1
 else
 bif decide ((x_0.Data.size : Int) > 4096) then
 ret 6
 else
 bif decide (x_0.Aux < 0) then
 ret 2
 else
 bif decide (x_0.Aux > 2) then
 ret 2
 else
 bif decide (x_0.Value < 0) then
 ret 2
 else
 bif decide (x_0.Value > 255) then
 ret 2
 else
 bif x_0.Fault != 0 then
 bif x_0.Fault != 6 then
 ret 1
 else
 bif x_0.Aux != 0 then
 bif x_0.Value != 0 then
 ret 1
 else
 bif x_0.Fault != 0 then
 ret 1
 else
 bif !x_0.Data.toList == (bs []).toList then
 ret 1
 else
 ret 0
 else
 bif !x_0.Data.toList == (bs []).toList then
 ret 1
 else
 ret 0
 else
 bif x_0.Aux != 0 then
 bif x_0.Value != 0 then
 ret 1
 else
 bif x_0.Fault != 0 then
 ret 1
 else
 bif !x_0.Data.toList == (bs []).toList then
 ret 1
 else
 ret 0
 else
 bif !x_0.Data.toList == (bs []).toList then
 ret 1
 else
 ret 0
theorem onewire_refused_pre (m : Nat) (x_0 : Item) : funK Try.prog Ψ0 keep m 1 39 [(dS of_Item cells_Item of_Item_ok).e x_0] = b_onewire_refused m (fun x0 => some (w_onewire_refused x0)) x_0 := by kernel_rfl
theorem b_onewire_refused_map (m : Nat) (x_0 : Item) : b_onewire_refused m (fun x0 => some (w_onewire_refused x0)) x_0 = (b_onewire_refused m (fun x0 => some x0) x_0).map w_onewire_refused := by
  simp only [b_onewire_refused, cond_map, bind_map, map_none, map_some]
noncomputable def onewire_refused (m : Nat) (x_0 : Item) : Option (Int) := b_onewire_refused m (fun x0 => some x0) x_0
theorem onewire_refused_fun (m : Nat) (x_0 : Item) : funK Try.prog Ψ0 keep m 1 39 [(dS of_Item cells_Item of_Item_ok).e x_0] = (onewire_refused m x_0).map w_onewire_refused := by
  rw [onewire_refused_pre]
  exact b_onewire_refused_map m x_0
noncomputable def K_onewire_refused (m : Nat) : KnownF C := mkK (dCons (dS of_Item cells_Item of_Item_ok) dNil) (fun a => onewire_refused m a.1) w_onewire_refused
theorem K_onewire_refused_ok (m : Nat) : KnownAt C Try.prog 39 fun l => (K_onewire_refused m).run _ l some :=
  mkK_known good fit Ψ0_ok (keep := keep) (m := m) (d := 1) fun a => onewire_refused_fun m a.1
/-! ### signalbench/onewire.units -/
def w_onewire_units (b : List Int) : List (RV C) := [(dRow 3).e b]
noncomputable def Q_onewire_units_8 (m : Nat) : St C → (Exit → St C → Option (List (RV C))) → Option (List (RV C)) := fun σ k => codeK Try.prog Ψ0 (callK Try.prog Ψ0 keep m 0) (keep 40) m (subC body40 [.r, .r, .r, .l, .r, .b, .o]) σ k
noncomputable def KL_onewire_units_8 (m : Nat) : Exit → St C → Option (List (RV C)) := contK Try.prog Ψ0 (callK Try.prog Ψ0 keep m 0) (keep 40) m body40 [.r, .r, .r, .l, .r, .b, .o] (leaveK Try.prog Try.f40.results.toList (finK Try.prog Try.f40.resultTypes.toList))
noncomputable def L_onewire_units_l8 (m n : Nat) (t13 : Int) (c0 : Item) (out_3 : List Int) : Option (List (RV C)) := iterK (Q_onewire_units_8 m) (St.norm (keep 40 8)) n ({ T := [.dead, .fl (.one (.ptr 0 0)), .dead, .fl (.one (.sl 1)), .dead, .dead, .dead, .dead, .dead, .dead, .dead, .dead, .dead, .fl (.one (.int .i64 t13))] ++ List.replicate 26 .dead, F := [[]], H := [.box 53 (cells_Item c0), .row 3 true out_3] } : St C) (KL_onewire_units_8 m)
noncomputable def b_onewire_units_l8 {R : Type} (m : Nat) (ret : List Int → Option R) (k_l8 : Int → Item → List Int → Option R) (t13 : Int) (c0 : Item) (out_3 : List Int) : Option R :=
 bif decide (t13 < 8) then
 bif c0.Fault == 6 then
 bif t13 == 3 then
 bif decide ((out_3.length + 2) * 8 ≤ 140737488355328) then
 ret (out_3 ++ [20, 4])
 else
 none
 else
 bif decide (t13 < 0) then
 none
 else
 bif IntKind.i64.wrap (((BitVec.ofInt 64 (c0.Value.fdiv (2 ^ min t13.toNat 64)) &&& BitVec.ofInt 64 1).toNat : Int)) == 1 then
 bif decide ((out_3.length + 2) * 8 ≤ 140737488355328) then
 k_l8 (IntKind.i64.wrap (t13 + 1)) c0 (out_3 ++ [1, 5])
 else
 none
 else
 bif decide ((out_3.length + 2) * 8 ≤ 140737488355328) then
 k_l8 (IntKind.i64.wrap (t13 + 1)) c0 (out_3 ++ [4, 2])
 else
 none
 else
 bif decide (t13 < 0) then
 none
 else
 bif IntKind.i64.wrap (((BitVec.ofInt 64 (c0.Value.fdiv (2 ^ min t13.toNat 64)) &&& BitVec.ofInt 64 1).toNat : Int)) == 1 then
 bif decide ((out_3.length + 2) * 8 ≤ 140737488355328) then
 k_l8 (IntKind.i64.wrap (t13 + 1)) c0 (out_3 ++ [1, 5])
 else
 none
 else
 bif decide ((out_3.length + 2) * 8 ≤ 140737488355328) then
 k_l8 (IntKind.i64.wrap (t13 + 1)) c0 (out_3 ++ [4, 2])
 else
 none
 else
 ret out_3
theorem L_onewire_units_l8_step (m n : Nat) (t13 : Int) (c0 : Item) (out_3 : List Int) : L_onewire_units_l8 m (n + 1) t13 c0 out_3 = b_onewire_units_l8 m (fun x0 => some (w_onewire_units x0)) (fun t13 c0 out_3 => L_onewire_units_l8 m n t13 c0 out_3) t13 c0 out_3 := by kernel_rfl
theorem b_onewire_units_l8_map (m : Nat) {k_l8 : Int → Item → List Int → Option (List (RV C))} {q_l8 : Int → Item → List Int → Option (List Int)} (h_l8 : ∀ t13 c0 out_3, k_l8 t13 c0 out_3 = (q_l8 t13 c0 out_3).map w_onewire_units) (t13 : Int) (c0 : Item) (out_3 : List Int) : b_onewire_units_l8 m (fun x0 => some (w_onewire_units x0)) k_l8 t13 c0 out_3 = (b_onewire_units_l8 m (fun x0 => some x0) q_l8 t13 c0 out_3).map w_onewire_units := by
  simp only [b_onewire_units_l8, cond_map, bind_map, map_none, map_some, h_l8]
noncomputable def onewire_units_l8 (m : Nat) : Nat → Int → Item → List Int → Option (List Int)
  | 0, _, _, _ => none
  | n + 1, t13, c0, out_3 => b_onewire_units_l8 m (fun x0 => some x0) (fun t13 c0 out_3 => onewire_units_l8 m n t13 c0 out_3) t13 c0 out_3
theorem L_onewire_units_l8_eq (m : Nat) : ∀ (n : Nat) (t13 : Int) (c0 : Item) (out_3 : List Int), L_onewire_units_l8 m n t13 c0 out_3 = (onewire_units_l8 m n t13 c0 out_3).map w_onewire_units
  | 0, t13, c0, out_3 => by kernel_rfl
  | n + 1, t13, c0, out_3 => by
    rw [L_onewire_units_l8_step]
    exact b_onewire_units_l8_map m (fun t13 c0 out_3 => L_onewire_units_l8_eq m n t13 c0 out_3) t13 c0 out_3
noncomputable def b_onewire_units {R : Type} (m : Nat) (ret : List Int → Option R) (k_l8 : Int → Item → List Int → Option R) (x_0 : Item) : Option R :=
 bif x_0.Aux == 1 then
 ret ([32, 32])
 else
 bif x_0.Aux == 2 then
 ret ([32, 2, 8, 22])
 else
 k_l8 0 x_0 []
theorem onewire_units_pre (m : Nat) (x_0 : Item) : funK Try.prog Ψ0 keep m 1 40 [(dS of_Item cells_Item of_Item_ok).e x_0] = b_onewire_units m (fun x0 => some (w_onewire_units x0)) (fun t13 c0 out_3 => L_onewire_units_l8 m m t13 c0 out_3) x_0 := by kernel_rfl
theorem b_onewire_units_map (m : Nat) {k_l8 : Int → Item → List Int → Option (List (RV C))} {q_l8 : Int → Item → List Int → Option (List Int)} (h_l8 : ∀ t13 c0 out_3, k_l8 t13 c0 out_3 = (q_l8 t13 c0 out_3).map w_onewire_units) (x_0 : Item) : b_onewire_units m (fun x0 => some (w_onewire_units x0)) k_l8 x_0 = (b_onewire_units m (fun x0 => some x0) q_l8 x_0).map w_onewire_units := by
  simp only [b_onewire_units, cond_map, bind_map, map_none, map_some, h_l8]
noncomputable def onewire_units (m : Nat) (x_0 : Item) : Option (List Int) := b_onewire_units m (fun x0 => some x0) (fun t13 c0 out_3 => onewire_units_l8 m m t13 c0 out_3) x_0
theorem onewire_units_fun (m : Nat) (x_0 : Item) : funK Try.prog Ψ0 keep m 1 40 [(dS of_Item cells_Item of_Item_ok).e x_0] = (onewire_units m x_0).map w_onewire_units := by
  rw [onewire_units_pre]
  exact b_onewire_units_map m (fun t13 c0 out_3 => L_onewire_units_l8_eq m m t13 c0 out_3) x_0
noncomputable def K_onewire_units (m : Nat) : KnownF C := mkK (dCons (dS of_Item cells_Item of_Item_ok) dNil) (fun a => onewire_units m a.1) w_onewire_units
theorem K_onewire_units_ok (m : Nat) : KnownAt C Try.prog 40 fun l => (K_onewire_units m).run _ l some :=
  mkK_known good fit Ψ0_ok (keep := keep) (m := m) (d := 1) fun a => onewire_units_fun m a.1
/-! ### signalbench/wave.Valid -/
def w_wave_Valid (b : Bool) : List (RV C) := [dBool.e b]
noncomputable def Q_wave_Valid_5 (m : Nat) : St C → (Exit → St C → Option (List (RV C))) → Option (List (RV C)) := fun σ k => codeK Try.prog Ψ0 (callK Try.prog Ψ0 keep m 0) (keep 50) m (subC body50 [.r, .r, .r, .l, .r, .b, .o]) σ k
noncomputable def KL_wave_Valid_5 (m : Nat) : Exit → St C → Option (List (RV C)) := contK Try.prog Ψ0 (callK Try.prog Ψ0 keep m 0) (keep 50) m body50 [.r, .r, .r, .l, .r, .b, .o] (leaveK Try.prog Try.f50.results.toList (finK Try.prog Try.f50.resultTypes.toList))
noncomputable def L_wave_Valid_l5 (m n : Nat) (left_3 : Int) (t10 : Int) (t11 : Int) (t9 : List Run) : Option (List (RV C)) := iterK (Q_wave_Valid_5 m) (St.norm (keep 50 5)) n ({ T := [.dead, .dead, .dead, .fl (.one (.int .i64 left_3)), .dead, .dead, .dead, .dead, .dead, .fl (.one (.sl 0)), .fl (.one (.int .i64 t10)), .fl (.one (.int .i64 t11))] ++ List.replicate 23 .dead, F := [[]], H := [.row 58 false t9] } : St C) (KL_wave_Valid_5 m)
noncomputable def b_wave_Valid_l5 {R : Type} (m : Nat) (ret : Bool → Option R) (k_l5 : Int → Int → Int → List Run → Option R) (left_3 : Int) (t10 : Int) (t11 : Int) (t9 : List Run) : Option R :=
 bif decide (t11 < t10) then
 bif decide (0 ≤ t11) then
 bif decide (t11 < (t9.length : Int)) then
 bif IntKind.i64.wrap (((BitVec.ofInt 64 (t9.getD t11.toNat dflt_Run).Level &&& ~~~BitVec.ofInt 64 1).toNat : Int)) != 0 then
 ret false
 else
 bif decide ((t9.getD t11.toNat dflt_Run).Ticks < 1) then
 ret false
 else
 bif decide ((t9.getD t11.toNat dflt_Run).Ticks > left_3) then
 ret false
 else
 k_l5 (IntKind.i64.wrap (left_3 - (t9.getD t11.toNat dflt_Run).Ticks)) t10 (IntKind.i64.wrap (t11 + 1)) t9
 else
 none
 else
 none
 else
 ret true
theorem L_wave_Valid_l5_step (m n : Nat) (left_3 : Int) (t10 : Int) (t11 : Int) (t9 : List Run) : L_wave_Valid_l5 m (n + 1) left_3 t10 t11 t9 = b_wave_Valid_l5 m (fun x0 => some (w_wave_Valid x0)) (fun left_3 t10 t11 t9 => L_wave_Valid_l5 m n left_3 t10 t11 t9) left_3 t10 t11 t9 := by kernel_rfl
theorem b_wave_Valid_l5_map (m : Nat) {k_l5 : Int → Int → Int → List Run → Option (List (RV C))} {q_l5 : Int → Int → Int → List Run → Option (Bool)} (h_l5 : ∀ left_3 t10 t11 t9, k_l5 left_3 t10 t11 t9 = (q_l5 left_3 t10 t11 t9).map w_wave_Valid) (left_3 : Int) (t10 : Int) (t11 : Int) (t9 : List Run) : b_wave_Valid_l5 m (fun x0 => some (w_wave_Valid x0)) k_l5 left_3 t10 t11 t9 = (b_wave_Valid_l5 m (fun x0 => some x0) q_l5 left_3 t10 t11 t9).map w_wave_Valid := by
  simp only [b_wave_Valid_l5, cond_map, bind_map, map_none, map_some, h_l5]
noncomputable def wave_Valid_l5 (m : Nat) : Nat → Int → Int → Int → List Run → Option (Bool)
  | 0, _, _, _, _ => none
  | n + 1, left_3, t10, t11, t9 => b_wave_Valid_l5 m (fun x0 => some x0) (fun left_3 t10 t11 t9 => wave_Valid_l5 m n left_3 t10 t11 t9) left_3 t10 t11 t9
theorem L_wave_Valid_l5_eq (m : Nat) : ∀ (n : Nat) (left_3 : Int) (t10 : Int) (t11 : Int) (t9 : List Run), L_wave_Valid_l5 m n left_3 t10 t11 t9 = (wave_Valid_l5 m n left_3 t10 t11 t9).map w_wave_Valid
  | 0, left_3, t10, t11, t9 => by kernel_rfl
  | n + 1, left_3, t10, t11, t9 => by
    rw [L_wave_Valid_l5_step]
    exact b_wave_Valid_l5_map m (fun left_3 t10 t11 t9 => L_wave_Valid_l5_eq m n left_3 t10 t11 t9) left_3 t10 t11 t9
noncomputable def b_wave_Valid {R : Type} (m : Nat) (ret : Bool → Option R) (k_l5 : Int → Int → Int → List Run → Option R) (l_0 : List Run) : Option R :=
 bif decide ((l_0.length : Int) > 262144) then
 ret false
 else
 k_l5 1099511627776 (l_0.length : Int) 0 l_0
theorem wave_Valid_pre (m : Nat) (l_0 : List Run) : funK Try.prog Ψ0 keep m 1 50 [(dRow 58).e l_0] = b_wave_Valid m (fun x0 => some (w_wave_Valid x0)) (fun left_3 t10 t11 t9 => L_wave_Valid_l5 m m left_3 t10 t11 t9) l_0 := by kernel_rfl
theorem b_wave_Valid_map (m : Nat) {k_l5 : Int → Int → Int → List Run → Option (List (RV C))} {q_l5 : Int → Int → Int → List Run → Option (Bool)} (h_l5 : ∀ left_3 t10 t11 t9, k_l5 left_3 t10 t11 t9 = (q_l5 left_3 t10 t11 t9).map w_wave_Valid) (l_0 : List Run) : b_wave_Valid m (fun x0 => some (w_wave_Valid x0)) k_l5 l_0 = (b_wave_Valid m (fun x0 => some x0) q_l5 l_0).map w_wave_Valid := by
  simp only [b_wave_Valid, cond_map, bind_map, map_none, map_some, h_l5]
noncomputable def wave_Valid (m : Nat) (l_0 : List Run) : Option (Bool) := b_wave_Valid m (fun x0 => some x0) (fun left_3 t10 t11 t9 => wave_Valid_l5 m m left_3 t10 t11 t9) l_0
theorem wave_Valid_fun (m : Nat) (l_0 : List Run) : funK Try.prog Ψ0 keep m 1 50 [(dRow 58).e l_0] = (wave_Valid m l_0).map w_wave_Valid := by
  rw [wave_Valid_pre]
  exact b_wave_Valid_map m (fun left_3 t10 t11 t9 => L_wave_Valid_l5_eq m m left_3 t10 t11 t9) l_0
noncomputable def K_wave_Valid (m : Nat) : KnownF C := mkK (dCons (dRow 58) dNil) (fun a => wave_Valid m a.1) w_wave_Valid
theorem K_wave_Valid_ok (m : Nat) : KnownAt C Try.prog 50 fun l => (K_wave_Valid m).run _ l some :=
  mkK_known good fit Ψ0_ok (keep := keep) (m := m) (d := 1) fun a => wave_Valid_fun m a.1
/-! ### signalbench/wave.joined -/
def w_wave_joined (b : List Run) : List (RV C) := [(dRow 58).e b]
noncomputable def Q_wave_joined_3 (m : Nat) : St C → (Exit → St C → Option (List (RV C))) → Option (List (RV C)) := fun σ k => codeK Try.prog Ψ0 (callK Try.prog Ψ0 keep m 0) (keep 51) m (subC body51 [.r, .r, .l, .r, .b, .o]) σ k
noncomputable def KL_wave_joined_3 (m : Nat) : Exit → St C → Option (List (RV C)) := contK Try.prog Ψ0 (callK Try.prog Ψ0 keep m 0) (keep 51) m body51 [.r, .r, .l, .r, .b, .o] (leaveK Try.prog Try.f51.results.toList (finK Try.prog Try.f51.resultTypes.toList))
noncomputable def L_wave_joined_l3 (m n : Nat) (t8 : Int) (t9 : Int) (out_3 : List Run) (t7 : List Run) : Option (List (RV C)) := iterK (Q_wave_joined_3 m) (St.norm (keep 51 3)) n ({ T := [.dead, .dead, .dead, .fl (.one (.sl 0)), .dead, .dead, .dead, .fl (.one (.sl 1)), .fl (.one (.int .i64 t8)), .fl (.one (.int .i64 t9))] ++ List.replicate 35 .dead, F := [[]], H := [.row 58 true out_3, .row 58 false t7] } : St C) (KL_wave_joined_3 m)
noncomputable def b_wave_joined_l3 {R : Type} (m : Nat) (ret : List Run → Option R) (k_l3 : Int → Int → List Run → List Run → Option R) (t8 : Int) (t9 : Int) (out_3 : List Run) (t7 : List Run) : Option R :=
 bif decide (t9 < t8) then
 bif decide (0 ≤ t9) then
 bif decide (t9 < (t7.length : Int)) then
 bif decide ((out_3.length : Int) > 0) then
 bif decide (0 ≤ IntKind.i64.wrap ((out_3.length : Int) - 1)) then
 bif decide (IntKind.i64.wrap ((out_3.length : Int) - 1) < (out_3.length : Int)) then
 bif (out_3.getD (IntKind.i64.wrap ((out_3.length : Int) - 1)).toNat dflt_Run).Level == (t7.getD t9.toNat dflt_Run).Level then
 bif decide (0 ≤ IntKind.i64.wrap ((out_3.length : Int) - 1)) then
 bif decide (IntKind.i64.wrap ((out_3.length : Int) - 1) < (out_3.length : Int)) then
 bif decide (0 ≤ IntKind.i64.wrap ((out_3.length : Int) - 1)) then
 bif decide (IntKind.i64.wrap ((out_3.length : Int) - 1) < (out_3.length : Int)) then
 k_l3 t8 (IntKind.i64.wrap (t9 + 1)) (out_3.set (IntKind.i64.wrap ((out_3.length : Int) - 1)).toNat (Run.mk (out_3.getD (IntKind.i64.wrap ((out_3.length : Int) - 1)).toNat dflt_Run).Level (IntKind.i64.wrap ((out_3.getD (IntKind.i64.wrap ((out_3.length : Int) - 1)).toNat dflt_Run).Ticks + (t7.getD t9.toNat dflt_Run).Ticks)))) t7
 else
 none
 else
 none
 else
 none
 else
 none
 else
 bif decide ((out_3.length + 1) * 16 ≤ 140737488355328) then
 k_l3 t8 (IntKind.i64.wrap (t9 + 1)) (out_3 ++ [t7.getD t9.toNat dflt_Run]) t7
 else
 none
 else
 none
 else
 none
 else
 bif decide ((out_3.length + 1) * 16 ≤ 140737488355328) then
 k_l3 t8 (IntKind.i64.wrap (t9 + 1)) (out_3 ++ [t7.getD t9.toNat dflt_Run]) t7
 else
 none
 else
 none
 else
 none
 else
 ret out_3
theorem L_wave_joined_l3_step (m n : Nat) (t8 : Int) (t9 : Int) (out_3 : List Run) (t7 : List Run) : L_wave_joined_l3 m (n + 1) t8 t9 out_3 t7 = b_wave_joined_l3 m (fun x0 => some (w_wave_joined x0)) (fun t8 t9 out_3 t7 => L_wave_joined_l3 m n t8 t9 out_3 t7) t8 t9 out_3 t7 := by kernel_rfl
theorem b_wave_joined_l3_map (m : Nat) {k_l3 : Int → Int → List Run → List Run → Option (List (RV C))} {q_l3 : Int → Int → List Run → List Run → Option (List Run)} (h_l3 : ∀ t8 t9 out_3 t7, k_l3 t8 t9 out_3 t7 = (q_l3 t8 t9 out_3 t7).map w_wave_joined) (t8 : Int) (t9 : Int) (out_3 : List Run) (t7 : List Run) : b_wave_joined_l3 m (fun x0 => some (w_wave_joined x0)) k_l3 t8 t9 out_3 t7 = (b_wave_joined_l3 m (fun x0 => some x0) q_l3 t8 t9 out_3 t7).map w_wave_joined := by
  simp only [b_wave_joined_l3, cond_map, bind_map, map_none, map_some, h_l3]
noncomputable def wave_joined_l3 (m : Nat) : Nat → Int → Int → List Run → List Run → Option (List Run)
  | 0, _, _, _, _ => none
  | n + 1, t8, t9, out_3, t7 => b_wave_joined_l3 m (fun x0 => some x0) (fun t8 t9 out_3 t7 => wave_joined_l3 m n t8 t9 out_3 t7) t8 t9 out_3 t7
theorem L_wave_joined_l3_eq (m : Nat) : ∀ (n : Nat) (t8 : Int) (t9 : Int) (out_3 : List Run) (t7 : List Run), L_wave_joined_l3 m n t8 t9 out_3 t7 = (wave_joined_l3 m n t8 t9 out_3 t7).map w_wave_joined
  | 0, t8, t9, out_3, t7 => by kernel_rfl
  | n + 1, t8, t9, out_3, t7 => by
    rw [L_wave_joined_l3_step]
    exact b_wave_joined_l3_map m (fun t8 t9 out_3 t7 => L_wave_joined_l3_eq m n t8 t9 out_3 t7) t8 t9 out_3 t7
noncomputable def b_wave_joined {R : Type} (m : Nat) (ret : List Run → Option R) (k_l3 : Int → Int → List Run → List Run → Option R) (l_0 : List Run) : Option R :=
 k_l3 (l_0.length : Int) 0 [] l_0
theorem wave_joined_pre (m : Nat) (l_0 : List Run) : funK Try.prog Ψ0 keep m 1 51 [(dRow 58).e l_0] = b_wave_joined m (fun x0 => some (w_wave_joined x0)) (fun t8 t9 out_3 t7 => L_wave_joined_l3 m m t8 t9 out_3 t7) l_0 := by kernel_rfl
theorem b_wave_joined_map (m : Nat) {k_l3 : Int → Int → List Run → List Run → Option (List (RV C))} {q_l3 : Int → Int → List Run → List Run → Option (List Run)} (h_l3 : ∀ t8 t9 out_3 t7, k_l3 t8 t9 out_3 t7 = (q_l3 t8 t9 out_3 t7).map w_wave_joined) (l_0 : List Run) : b_wave_joined m (fun x0 => some (w_wave_joined x0)) k_l3 l_0 = (b_wave_joined m (fun x0 => some x0) q_l3 l_0).map w_wave_joined := by
  simp only [b_wave_joined, cond_map, bind_map, map_none, map_some, h_l3]
noncomputable def wave_joined (m : Nat) (l_0 : List Run) : Option (List Run) := b_wave_joined m (fun x0 => some x0) (fun t8 t9 out_3 t7 => wave_joined_l3 m m t8 t9 out_3 t7) l_0
theorem wave_joined_fun (m : Nat) (l_0 : List Run) : funK Try.prog Ψ0 keep m 1 51 [(dRow 58).e l_0] = (wave_joined m l_0).map w_wave_joined := by
  rw [wave_joined_pre]
  exact b_wave_joined_map m (fun t8 t9 out_3 t7 => L_wave_joined_l3_eq m m t8 t9 out_3 t7) l_0
noncomputable def K_wave_joined (m : Nat) : KnownF C := mkK (dCons (dRow 58) dNil) (fun a => wave_joined m a.1) w_wave_joined
theorem K_wave_joined_ok (m : Nat) : KnownAt C Try.prog 51 fun l => (K_wave_joined m).run _ l some :=
  mkK_known good fit Ψ0_ok (keep := keep) (m := m) (d := 1) fun a => wave_joined_fun m a.1
/-! ### signalbench/wave.Clean -/
noncomputable def Ψ_wave_Clean (m : Nat) : Known C := fun f => match f with
  | 50 => some (K_wave_Valid m)
  | 51 => some (K_wave_joined m)
  | _ => none
theorem Ψ_wave_Clean_ok (m : Nat) : KnownOk C Try.prog (Ψ_wave_Clean m) := by
  intro f φ h
  unfold Ψ_wave_Clean at h
  split at h
  · injection h with h; subst h; exact K_wave_Valid_ok m
  · injection h with h; subst h; exact K_wave_joined_ok m
  · cases h
def w_wave_Clean (b : List Run) : List (RV C) := [(dRow 58).e b]
noncomputable def b_wave_Clean {R : Type} (m : Nat) (ret : List Run → Option R) (l_0 : List Run) : Option R :=
 (wave_Valid m l_0).bind fun r0 =>
 bif !r0 then
 ret []
 else
 (wave_joined m l_0).bind fun r1 =>
 ret r1
theorem wave_Clean_pre (m : Nat) (l_0 : List Run) : funK Try.prog (Ψ_wave_Clean m) keep m 1 41 [(dRow 58).e l_0] = b_wave_Clean m (fun x0 => some (w_wave_Clean x0)) l_0 := by kernel_rfl
theorem b_wave_Clean_map (m : Nat) (l_0 : List Run) : b_wave_Clean m (fun x0 => some (w_wave_Clean x0)) l_0 = (b_wave_Clean m (fun x0 => some x0) l_0).map w_wave_Clean := by
  simp only [b_wave_Clean, cond_map, bind_map, map_none, map_some]
noncomputable def wave_Clean (m : Nat) (l_0 : List Run) : Option (List Run) := b_wave_Clean m (fun x0 => some x0) l_0
theorem wave_Clean_fun (m : Nat) (l_0 : List Run) : funK Try.prog (Ψ_wave_Clean m) keep m 1 41 [(dRow 58).e l_0] = (wave_Clean m l_0).map w_wave_Clean := by
  rw [wave_Clean_pre]
  exact b_wave_Clean_map m l_0
noncomputable def K_wave_Clean (m : Nat) : KnownF C := mkK (dCons (dRow 58) dNil) (fun a => wave_Clean m a.1) w_wave_Clean
theorem K_wave_Clean_ok (m : Nat) : KnownAt C Try.prog 41 fun l => (K_wave_Clean m).run _ l some :=
  mkK_known good fit (Ψ_wave_Clean_ok m) (keep := keep) (m := m) (d := 1) fun a => wave_Clean_fun m a.1
/-! ### signalbench/onewire.Encode -/
noncomputable def Ψ_onewire_Encode (m : Nat) : Known C := fun f => match f with
  | 16 => some (K_onewire_Check m)
  | 39 => some (K_onewire_refused m)
  | 40 => some (K_onewire_units m)
  | 41 => some (K_wave_Clean m)
  | _ => none
theorem Ψ_onewire_Encode_ok (m : Nat) : KnownOk C Try.prog (Ψ_onewire_Encode m) := by
  intro f φ h
  unfold Ψ_onewire_Encode at h
  split at h
  · injection h with h; subst h; exact K_onewire_Check_ok m
  · injection h with h; subst h; exact K_onewire_refused_ok m
  · injection h with h; subst h; exact K_onewire_units_ok m
  · injection h with h; subst h; exact K_wave_Clean_ok m
  · cases h
def w_onewire_Encode (b : List Run × Int) : List (RV C) := [(dRow 58).e b.1, (dInt .i64).e b.2]
noncomputable def Q_onewire_Encode_7 (m : Nat) : St C → (Exit → St C → Option (List (RV C))) → Option (List (RV C)) := fun σ k => codeK Try.prog (Ψ_onewire_Encode m) (callK Try.prog (Ψ_onewire_Encode m) keep m 0) (keep 23) m (subC body23 [.r, .r, .r, .l, .r, .b, .o]) σ k
noncomputable def KL_onewire_Encode_7 (m : Nat) : Exit → St C → Option (List (RV C)) := contK Try.prog (Ψ_onewire_Encode m) (callK Try.prog (Ψ_onewire_Encode m) keep m 0) (keep 23) m body23 [.r, .r, .r, .l, .r, .b, .o] (leaveK Try.prog Try.f23.results.toList (finK Try.prog Try.f23.resultTypes.toList))
noncomputable def Q_onewire_Encode_15 (m : Nat) : St C → (Exit → St C → Option (List (RV C))) → Option (List (RV C)) := fun σ k => codeK Try.prog (Ψ_onewire_Encode m) (callK Try.prog (Ψ_onewire_Encode m) keep m 0) (keep 23) m (subC body23 [.r, .r, .r, .r, .r, .l, .r, .b, .o]) σ k
noncomputable def KL_onewire_Encode_15 (m : Nat) : Exit → St C → Option (List (RV C)) := contK Try.prog (Ψ_onewire_Encode m) (callK Try.prog (Ψ_onewire_Encode m) keep m 0) (keep 23) m body23 [.r, .r, .r, .r, .r, .l, .r, .b, .o] (leaveK Try.prog Try.f23.results.toList (finK Try.prog Try.f23.resultTypes.toList))
noncomputable def Q_onewire_Encode_19 (m : Nat) : St C → (Exit → St C → Option (List (RV C))) → Option (List (RV C)) := fun σ k => codeK Try.prog (Ψ_onewire_Encode m) (callK Try.prog (Ψ_onewire_Encode m) keep m 0) (keep 23) m (subC (subC body23 [.r, .r, .r, .r, .r, .l, .r, .b, .o]) [.r, .r, .l, .b, .r, .r, .r, .b, .o]) σ k
noncomputable def KL_onewire_Encode_19 (m : Nat) (n15 : Nat) : Exit → St C → Option (List (RV C)) := contK Try.prog (Ψ_onewire_Encode m) (callK Try.prog (Ψ_onewire_Encode m) keep m 0) (keep 23) m (subC body23 [.r, .r, .r, .r, .r, .l, .r, .b, .o]) [.r, .r, .l, .b, .r, .r, .r, .b, .o] (rndK (Q_onewire_Encode_15 m) (St.norm (keep 23 15)) n15 (KL_onewire_Encode_15 m))
noncomputable def Q_onewire_Encode_29 (m : Nat) : St C → (Exit → St C → Option (List (RV C))) → Option (List (RV C)) := fun σ k => codeK Try.prog (Ψ_onewire_Encode m) (callK Try.prog (Ψ_onewire_Encode m) keep m 0) (keep 23) m (subC body23 [.r, .r, .r, .r, .r, .r, .r, .r, .r, .l, .r, .b, .o]) σ k
noncomputable def KL_onewire_Encode_29 (m : Nat) : Exit → St C → Option (List (RV C)) := contK Try.prog (Ψ_onewire_Encode m) (callK Try.prog (Ψ_onewire_Encode m) keep m 0) (keep 23) m body23 [.r, .r, .r, .r, .r, .r, .r, .r, .r, .l, .r, .b, .o] (leaveK Try.prog Try.f23.results.toList (finK Try.prog Try.f23.resultTypes.toList))
noncomputable def L_onewire_Encode_l7 (m n : Nat) (t27 : Int) (t28 : Int) (l_1 : List Item) (c1 : Onewire) : Option (List (RV C)) := iterK (Q_onewire_Encode_7 m) (St.norm (keep 23 7)) n ({ T := [.dead, .fl (.one (.sl 0)), .fl (.one (.ptr 1 0)), .dead, .dead, .dead, .dead, .dead, .dead, .dead, .dead, .dead, .dead, .dead, .dead, .dead, .dead, .dead, .dead, .dead, .dead, .dead, .dead, .dead, .dead, .dead, .fl (.one (.sl 0)), .fl (.one (.int .i64 t27)), .fl (.one (.int .i64 t28))] ++ List.replicate 92 .dead, F := [[]], H := [.row 53 false l_1, .box 23 (cells_Onewire c1)] } : St C) (KL_onewire_Encode_7 m)
noncomputable def L_onewire_Encode_l15 (m n : Nat) (t44 : Int) (t45 : Int) (l_1 : List Item) (c1 : Onewire) (out_10 : List Run) : Option (List (RV C)) := iterK (Q_onewire_Encode_15 m) (St.norm (keep 23 15)) n ({ T := [.dead, .fl (.one (.sl 0)), .fl (.one (.ptr 1 0)), .dead, .dead, .dead, .dead, .dead, .dead, .dead, .fl (.one (.sl 2)), .dead, .dead, .dead, .dead, .dead, .dead, .dead, .dead, .dead, .dead, .dead, .dead, .dead, .dead, .dead, .dead, .dead, .dead, .dead, .dead, .dead, .dead, .dead, .dead, .dead, .dead, .dead, .dead, .dead, .dead, .dead, .dead, .fl (.one (.sl 0)), .fl (.one (.int .i64 t44)), .fl (.one (.int .i64 t45))] ++ List.replicate 75 .dead, F := [[]], H := [.row 53 false l_1, .box 23 (cells_Onewire c1), .row 58 true out_10] } : St C) (KL_onewire_Encode_15 m)
noncomputable def L_onewire_Encode_l19 (m n15 n : Nat) (t44 : Int) (t45 : Int) (t63 : Int) (t64 : Int) (l_1 : List Item) (c1 : Onewire) (out_10 : List Run) (t62 : List Int) : Option (List (RV C)) := iterK (Q_onewire_Encode_19 m) (St.norm (keep 23 19)) n ({ T := [.dead, .fl (.one (.sl 0)), .fl (.one (.ptr 1 0)), .dead, .dead, .dead, .dead, .dead, .dead, .dead, .fl (.one (.sl 2)), .dead, .dead, .dead, .dead, .dead, .dead, .dead, .dead, .dead, .dead, .dead, .dead, .dead, .dead, .dead, .dead, .dead, .dead, .dead, .dead, .dead, .dead, .dead, .dead, .dead, .dead, .dead, .dead, .dead, .dead, .dead, .dead, .fl (.one (.sl 0)), .fl (.one (.int .i64 t44)), .fl (.one (.int .i64 t45)), .dead, .dead, .dead, .dead, .dead, .dead, .dead, .dead, .dead, .dead, .dead, .dead, .dead, .dead, .dead, .dead, .fl (.one (.sl 3)), .fl (.one (.int .i64 t63)), .fl (.one (.int .i64 t64))] ++ List.replicate 56 .dead, F := [[]], H := [.row 53 false l_1, .box 23 (cells_Onewire c1), .row 58 true out_10, .row 3 true t62] } : St C) (KL_onewire_Encode_19 m n15)
noncomputable def L_onewire_Encode_l29 (m n : Nat) (total_15 : Int) (t104 : Int) (t105 : Int) (out_10 : List Run) : Option (List (RV C)) := iterK (Q_onewire_Encode_29 m) (St.norm (keep 23 29)) n ({ T := [.dead, .dead, .dead, .dead, .dead, .dead, .dead, .dead, .dead, .dead, .fl (.one (.sl 0)), .dead, .dead, .dead, .dead, .fl (.one (.int .i64 total_15)), .dead, .dead, .dead, .dead, .dead, .dead, .dead, .dead, .dead, .dead, .dead, .dead, .dead, .dead, .dead, .dead, .dead, .dead, .dead, .dead, .dead, .dead, .dead, .dead, .dead, .dead, .dead, .dead, .dead, .dead, .dead, .dead, .dead, .dead, .dead, .dead, .dead, .dead, .dead, .dead, .dead, .dead, .dead, .dead, .dead, .dead, .dead, .dead, .dead, .dead, .dead, .dead, .dead, .dead, .dead, .dead, .dead, .dead, .dead, .dead, .dead, .dead, .dead, .dead, .dead, .dead, .dead, .dead, .dead, .dead, .dead, .dead, .dead, .dead, .dead, .dead, .dead, .dead, .dead, .dead, .dead, .dead, .dead, .dead, .dead, .dead, .dead, .fl (.one (.sl 0)), .fl (.one (.int .i64 t104)), .fl (.one (.int .i64 t105))] ++ List.replicate 15 .dead, F := [[]], H := [.row 58 true out_10] } : St C) (KL_onewire_Encode_29 m)
noncomputable def b_onewire_Encode_l19 {R : Type} (m : Nat) (ret : List Run → Int → Option R) (k_l19 : Int → Int → Int → Int → List Item → Onewire → List Run → List Int → Option R) (k_l15 : Int → Int → List Item → Onewire → List Run → Option R) (t44 : Int) (t45 : Int) (t63 : Int) (t64 : Int) (l_1 : List Item) (c1 : Onewire) (out_10 : List Run) (t62 : List Int) : Option R :=
 bif decide (t64 < t63) then
 bif decide (0 ≤ t64) then
 bif decide (t64 < (t62.length : Int)) then
 bif decide ((out_10.length + 1) * 16 ≤ 140737488355328) then
 k_l19 t44 t45 t63 (IntKind.i64.wrap (t64 + 1)) l_1 c1 (out_10 ++ [Run.mk (t64.tmod 2) (IntKind.i64.wrap (t62.getD t64.toNat 0 * c1.T))]) t62
 else
 none
 else
 none
 else
 none
 else
 k_l15 t44 (IntKind.i64.wrap (t45 + 1)) l_1 c1 out_10
theorem L_onewire_Encode_l19_step (m n15 n : Nat) (t44 : Int) (t45 : Int) (t63 : Int) (t64 : Int) (l_1 : List Item) (c1 : Onewire) (out_10 : List Run) (t62 : List Int) : L_onewire_Encode_l19 m n15 (n + 1) t44 t45 t63 t64 l_1 c1 out_10 t62 = b_onewire_Encode_l19 m (fun x0 x1 => some (w_onewire_Encode (x0, x1))) (fun t44 t45 t63 t64 l_1 c1 out_10 t62 => L_onewire_Encode_l19 m n15 n t44 t45 t63 t64 l_1 c1 out_10 t62) (fun t44 t45 l_1 c1 out_10 => L_onewire_Encode_l15 m n15 t44 t45 l_1 c1 out_10) t44 t45 t63 t64 l_1 c1 out_10 t62 := by kernel_rfl
theorem b_onewire_Encode_l19_map (m : Nat) {k_l19 : Int → Int → Int → Int → List Item → Onewire → List Run → List Int → Option (List (RV C))} {q_l19 : Int → Int → Int → Int → List Item → Onewire → List Run → List Int → Option (List Run × Int)} (h_l19 : ∀ t44 t45 t63 t64 l_1 c1 out_10 t62, k_l19 t44 t45 t63 t64 l_1 c1 out_10 t62 = (q_l19 t44 t45 t63 t64 l_1 c1 out_10 t62).map w_onewire_Encode) {k_l15 : Int → Int → List Item → Onewire → List Run → Option (List (RV C))} {q_l15 : Int → Int → List Item → Onewire → List Run → Option (List Run × Int)} (h_l15 : ∀ t44 t45 l_1 c1 out_10, k_l15 t44 t45 l_1 c1 out_10 = (q_l15 t44 t45 l_1 c1 out_10).map w_onewire_Encode) (t44 : Int) (t45 : Int) (t63 : Int) (t64 : Int) (l_1 : List Item) (c1 : Onewire) (out_10 : List Run) (t62 : List Int) : b_onewire_Encode_l19 m (fun x0 x1 => some (w_onewire_Encode (x0, x1))) k_l19 k_l15 t44 t45 t63 t64 l_1 c1 out_10 t62 = (b_onewire_Encode_l19 m (fun x0 x1 => some (x0, x1)) q_l19 q_l15 t44 t45 t63 t64 l_1 c1 out_10 t62).map w_onewire_Encode := by
  simp only [b_onewire_Encode_l19, cond_map, bind_map, map_none, map_some, h_l19, h_l15]
noncomputable def onewire_Encode_l19 (m : Nat) (q_l15 : Int → Int → List Item → Onewire → List Run → Option (List Run × Int)) : Nat → Int → Int → Int → Int → List Item → Onewire → List Run → List Int → Option (List Run × Int)
  | 0, _, _, _, _, _, _, _, _ => none
  | n + 1, t44, t45, t63, t64, l_1, c1, out_10, t62 => b_onewire_Encode_l19 m (fun x0 x1 => some (x0, x1)) (fun t44 t45 t63 t64 l_1 c1 out_10 t62 => onewire_Encode_l19 m q_l15 n t44 t45 t63 t64 l_1 c1 out_10 t62) q_l15 t44 t45 t63 t64 l_1 c1 out_10 t62
theorem L_onewire_Encode_l19_eq (m n15 : Nat) (q_l15 : Int → Int → List Item → Onewire → List Run → Option (List Run × Int)) (h_l15 : ∀ t44 t45 l_1 c1 out_10, L_onewire_Encode_l15 m n15 t44 t45 l_1 c1 out_10 = (q_l15 t44 t45 l_1 c1 out_10).map w_onewire_Encode) : ∀ (n : Nat) (t44 : Int) (t45 : Int) (t63 : Int) (t64 : Int) (l_1 : List Item) (c1 : Onewire) (out_10 : List Run) (t62 : List Int), L_onewire_Encode_l19 m n15 n t44 t45 t63 t64 l_1 c1 out_10 t62 = (onewire_Encode_l19 m q_l15 n t44 t45 t63 t64 l_1 c1 out_10 t62).map w_onewire_Encode
  | 0, t44, t45, t63, t64, l_1, c1, out_10, t62 => by kernel_rfl
  | n + 1, t44, t45, t63, t64, l_1, c1, out_10, t62 => by
    rw [L_onewire_Encode_l19_step]
    exact b_onewire_Encode_l19_map m (fun t44 t45 t63 t64 l_1 c1 out_10 t62 => L_onewire_Encode_l19_eq m n15 q_l15 h_l15 n t44 t45 t63 t64 l_1 c1 out_10 t62) h_l15 t44 t45 t63 t64 l_1 c1 out_10 t62
noncomputable def b_onewire_Encode_l29 {R : Type} (m : Nat) (ret : List Run → Int → Option R) (k_l29 : Int → Int → Int → List Run → Option R) (total_15 : Int) (t104 : Int) (t105 : Int) (out_10 : List Run) : Option R :=
 bif decide (t105 < t104) then
 bif decide (0 ≤ t105) then
 bif decide (t105 < (out_10.length : Int)) then
 k_l29 (IntKind.i64.wrap (total_15 + (out_10.getD t105.toNat dflt_Run).Ticks)) t104 (IntKind.i64.wrap (t105 + 1)) out_10
 else
 none
 else
 none
 else
 bif decide ((out_10.length : Int) > 262144) then
 ret [] 6
 else
 bif decide (total_15 > 1099511627776) then
 ret [] 2
 else
 (wave_Clean m out_10).bind fun r0 =>
 ret r0 0
theorem L_onewire_Encode_l29_step (m n : Nat) (total_15 : Int) (t104 : Int) (t105 : Int) (out_10 : List Run) : L_onewire_Encode_l29 m (n + 1) total_15 t104 t105 out_10 = b_onewire_Encode_l29 m (fun x0 x1 => some (w_onewire_Encode (x0, x1))) (fun total_15 t104 t105 out_10 => L_onewire_Encode_l29 m n total_15 t104 t105 out_10) total_15 t104 t105 out_10 := by kernel_rfl
theorem b_onewire_Encode_l29_map (m : Nat) {k_l29 : Int → Int → Int → List Run → Option (List (RV C))} {q_l29 : Int → Int → Int → List Run → Option (List Run × Int)} (h_l29 : ∀ total_15 t104 t105 out_10, k_l29 total_15 t104 t105 out_10 = (q_l29 total_15 t104 t105 out_10).map w_onewire_Encode) (total_15 : Int) (t104 : Int) (t105 : Int) (out_10 : List Run) : b_onewire_Encode_l29 m (fun x0 x1 => some (w_onewire_Encode (x0, x1))) k_l29 total_15 t104 t105 out_10 = (b_onewire_Encode_l29 m (fun x0 x1 => some (x0, x1)) q_l29 total_15 t104 t105 out_10).map w_onewire_Encode := by
  simp only [b_onewire_Encode_l29, cond_map, bind_map, map_none, map_some, h_l29]
noncomputable def onewire_Encode_l29 (m : Nat) : Nat → Int → Int → Int → List Run → Option (List Run × Int)
  | 0, _, _, _, _ => none
  | n + 1, total_15, t104, t105, out_10 => b_onewire_Encode_l29 m (fun x0 x1 => some (x0, x1)) (fun total_15 t104 t105 out_10 => onewire_Encode_l29 m n total_15 t104 t105 out_10) total_15 t104 t105 out_10
theorem L_onewire_Encode_l29_eq (m : Nat) : ∀ (n : Nat) (total_15 : Int) (t104 : Int) (t105 : Int) (out_10 : List Run), L_onewire_Encode_l29 m n total_15 t104 t105 out_10 = (onewire_Encode_l29 m n total_15 t104 t105 out_10).map w_onewire_Encode
  | 0, total_15, t104, t105, out_10 => by kernel_rfl
  | n + 1, total_15, t104, t105, out_10 => by
    rw [L_onewire_Encode_l29_step]
    exact b_onewire_Encode_l29_map m (fun total_15 t104 t105 out_10 => L_onewire_Encode_l29_eq m n total_15 t104 t105 out_10) total_15 t104 t105 out_10
noncomputable def b_onewire_Encode_l15 {R : Type} (m : Nat) (ret : List Run → Int → Option R) (k_l19 : Int → Int → Int → Int → List Item → Onewire → List Run → List Int → Option R) (k_l29 : Int → Int → Int → List Run → Option R) (t44 : Int) (t45 : Int) (l_1 : List Item) (c1 : Onewire) (out_10 : List Run) : Option R :=
 bif decide (t45 < t44) then
 (bif decide (0 ≤ t45) then
 (bif decide (t45 < (l_1.length : Int)) then
 (bif decide (0 ≤ IntKind.i64.wrap ((out_10.length : Int) - 1)) then
 (bif decide (IntKind.i64.wrap ((out_10.length : Int) - 1) < (out_10.length : Int)) then
 (bif decide (0 ≤ IntKind.i64.wrap ((out_10.length : Int) - 1)) then
 (bif decide (IntKind.i64.wrap ((out_10.length : Int) - 1) < (out_10.length : Int)) then
 ((onewire_units m (l_1.getD t45.toNat dflt_Item)).bind fun r0 =>
 k_l19 t44 t45 (r0.length : Int) 0 l_1 c1 (out_10.set (IntKind.i64.wrap ((out_10.length : Int) - 1)).toNat (Run.mk (out_10.getD (IntKind.i64.wrap ((out_10.length : Int) - 1)).toNat dflt_Run).Level (IntKind.i64.wrap ((out_10.getD (IntKind.i64.wrap ((out_10.length : Int) - 1)).toNat dflt_Run).Ticks + (l_1.getD t45.toNat dflt_Item).Gap)))) r0)
 else
 none)
 else
 none)
 else
 none)
 else
 none)
 else
 none)
 else
 none)
 else
 bif decide (0 ≤ IntKind.i64.wrap ((out_10.length : Int) - 1)) then
 bif decide (IntKind.i64.wrap ((out_10.length : Int) - 1) < (out_10.length : Int)) then
 bif decide (0 ≤ IntKind.i64.wrap ((out_10.length : Int) - 1)) then
 bif decide (IntKind.i64.wrap ((out_10.length : Int) - 1) < (out_10.length : Int)) then
 bif (l_1.length : Int) == 0 then
 bif decide (0 < ((out_10.set (IntKind.i64.wrap ((out_10.length : Int) - 1)).toNat (Run.mk (out_10.getD (IntKind.i64.wrap ((out_10.length : Int) - 1)).toNat dflt_Run).Level (IntKind.i64.wrap ((out_10.getD (IntKind.i64.wrap ((out_10.length : Int) - 1)).toNat dflt_Run).Ticks + IntKind.i64.wrap (8 * c1.T))))).length : Int)) then
 k_l29 0 (((out_10.set (IntKind.i64.wrap ((out_10.length : Int) - 1)).toNat (Run.mk (out_10.getD (IntKind.i64.wrap ((out_10.length : Int) - 1)).toNat dflt_Run).Level (IntKind.i64.wrap ((out_10.getD (IntKind.i64.wrap ((out_10.length : Int) - 1)).toNat dflt_Run).Ticks + IntKind.i64.wrap (8 * c1.T))))).set 0 (Run.mk ((out_10.set (IntKind.i64.wrap ((out_10.length : Int) - 1)).toNat (Run.mk (out_10.getD (IntKind.i64.wrap ((out_10.length : Int) - 1)).toNat dflt_Run).Level (IntKind.i64.wrap ((out_10.getD (IntKind.i64.wrap ((out_10.length : Int) - 1)).toNat dflt_Run).Ticks + IntKind.i64.wrap (8 * c1.T))))).getD 0 dflt_Run).Level (IntKind.i64.wrap (16 * c1.T)))).length : Int) 0 ((out_10.set (IntKind.i64.wrap ((out_10.length : Int) - 1)).toNat (Run.mk (out_10.getD (IntKind.i64.wrap ((out_10.length : Int) - 1)).toNat dflt_Run).Level (IntKind.i64.wrap ((out_10.getD (IntKind.i64.wrap ((out_10.length : Int) - 1)).toNat dflt_Run).Ticks + IntKind.i64.wrap (8 * c1.T))))).set 0 (Run.mk ((out_10.set (IntKind.i64.wrap ((out_10.length : Int) - 1)).toNat (Run.mk (out_10.getD (IntKind.i64.wrap ((out_10.length : Int) - 1)).toNat dflt_Run).Level (IntKind.i64.wrap ((out_10.getD (IntKind.i64.wrap ((out_10.length : Int) - 1)).toNat dflt_Run).Ticks + IntKind.i64.wrap (8 * c1.T))))).getD 0 dflt_Run).Level (IntKind.i64.wrap (16 * c1.T))))
 else
 none
 else
 k_l29 0 ((out_10.set (IntKind.i64.wrap ((out_10.length : Int) - 1)).toNat (Run.mk (out_10.getD (IntKind.i64.wrap ((out_10.length : Int) - 1)).toNat dflt_Run).Level (IntKind.i64.wrap ((out_10.getD (IntKind.i64.wrap ((out_10.length : Int) - 1)).toNat dflt_Run).Ticks + IntKind.i64.wrap (8 * c1.T))))).length : Int) 0 (out_10.set (IntKind.i64.wrap ((out_10.length : Int) - 1)).toNat (Run.mk (out_10.getD (IntKind.i64.wrap ((out_10.length : Int) - 1)).toNat dflt_Run).Level (IntKind.i64.wrap ((out_10.getD (IntKind.i64.wrap ((out_10.length : Int) - 1)).toNat dflt_Run).Ticks + IntKind.i64.wrap (8 * c1.T)))))
 else
 none
 else
 none
 else
 none
 else
 none
theorem L_onewire_Encode_l15_step (m n : Nat) (t44 : Int) (t45 : Int) (l_1 : List Item) (c1 : Onewire) (out_10 : List Run) : L_onewire_Encode_l15 m (n + 1) t44 t45 l_1 c1 out_10 = b_onewire_Encode_l15 m (fun x0 x1 => some (w_onewire_Encode (x0, x1))) (fun t44 t45 t63 t64 l_1 c1 out_10 t62 => L_onewire_Encode_l19 m n m t44 t45 t63 t64 l_1 c1 out_10 t62) (fun total_15 t104 t105 out_10 => L_onewire_Encode_l29 m m total_15 t104 t105 out_10) t44 t45 l_1 c1 out_10 := by kernel_rfl
theorem b_onewire_Encode_l15_map (m : Nat) {k_l19 : Int → Int → Int → Int → List Item → Onewire → List Run → List Int → Option (List (RV C))} {q_l19 : Int → Int → Int → Int → List Item → Onewire → List Run → List Int → Option (List Run × Int)} (h_l19 : ∀ t44 t45 t63 t64 l_1 c1 out_10 t62, k_l19 t44 t45 t63 t64 l_1 c1 out_10 t62 = (q_l19 t44 t45 t63 t64 l_1 c1 out_10 t62).map w_onewire_Encode) {k_l29 : Int → Int → Int → List Run → Option (List (RV C))} {q_l29 : Int → Int → Int → List Run → Option (List Run × Int)} (h_l29 : ∀ total_15 t104 t105 out_10, k_l29 total_15 t104 t105 out_10 = (q_l29 total_15 t104 t105 out_10).map w_onewire_Encode) (t44 : Int) (t45 : Int) (l_1 : List Item) (c1 : Onewire) (out_10 : List Run) : b_onewire_Encode_l15 m (fun x0 x1 => some (w_onewire_Encode (x0, x1))) k_l19 k_l29 t44 t45 l_1 c1 out_10 = (b_onewire_Encode_l15 m (fun x0 x1 => some (x0, x1)) q_l19 q_l29 t44 t45 l_1 c1 out_10).map w_onewire_Encode := by
  simp only [b_onewire_Encode_l15, cond_map, bind_map, map_none, map_some, h_l19, h_l29]
noncomputable def onewire_Encode_l15 (m : Nat) : Nat → Int → Int → List Item → Onewire → List Run → Option (List Run × Int)
  | 0, _, _, _, _, _ => none
  | n + 1, t44, t45, l_1, c1, out_10 => b_onewire_Encode_l15 m (fun x0 x1 => some (x0, x1)) (fun t44 t45 t63 t64 l_1 c1 out_10 t62 => onewire_Encode_l19 m (fun t44 t45 l_1 c1 out_10 => onewire_Encode_l15 m n t44 t45 l_1 c1 out_10) m t44 t45 t63 t64 l_1 c1 out_10 t62) (fun total_15 t104 t105 out_10 => onewire_Encode_l29 m m total_15 t104 t105 out_10) t44 t45 l_1 c1 out_10
theorem L_onewire_Encode_l15_eq (m : Nat) : ∀ (n : Nat) (t44 : Int) (t45 : Int) (l_1 : List Item) (c1 : Onewire) (out_10 : List Run), L_onewire_Encode_l15 m n t44 t45 l_1 c1 out_10 = (onewire_Encode_l15 m n t44 t45 l_1 c1 out_10).map w_onewire_Encode
  | 0, t44, t45, l_1, c1, out_10 => by kernel_rfl
  | n + 1, t44, t45, l_1, c1, out_10 => by
    rw [L_onewire_Encode_l15_step]
    exact b_onewire_Encode_l15_map m (fun t44 t45 t63 t64 l_1 c1 out_10 t62 => L_onewire_Encode_l19_eq m n (fun t44 t45 l_1 c1 out_10 => onewire_Encode_l15 m n t44 t45 l_1 c1 out_10) (fun t44 t45 l_1 c1 out_10 => L_onewire_Encode_l15_eq m n t44 t45 l_1 c1 out_10) m t44 t45 t63 t64 l_1 c1 out_10 t62) (fun total_15 t104 t105 out_10 => L_onewire_Encode_l29_eq m m total_15 t104 t105 out_10) t44 t45 l_1 c1 out_10
noncomputable def b_onewire_Encode_l7 {R : Type} (m : Nat) (ret : List Run → Int → Option R) (k_l7 : Int → Int → List Item → Onewire → Option R) (k_l15 : Int → Int → List Item → Onewire → List Run → Option R) (t27 : Int) (t28 : Int) (l_1 : List Item) (c1 : Onewire) : Option R :=
 bif decide (t28 < t27) then
 (bif decide (0 ≤ t28) then
 (bif decide (t28 < (l_1.length : Int)) then
 ((onewire_refused m (l_1.getD t28.toNat dflt_Item)).bind fun r0 =>
 bif r0 != 0 then
 ret [] r0
 else
 k_l7 t27 (IntKind.i64.wrap (t28 + 1)) l_1 c1)
 else
 none)
 else
 none)
 else
 k_l15 (l_1.length : Int) 0 l_1 c1 ([Run.mk 1 (IntKind.i64.wrap (8 * c1.T))])
theorem L_onewire_Encode_l7_step (m n : Nat) (t27 : Int) (t28 : Int) (l_1 : List Item) (c1 : Onewire) : L_onewire_Encode_l7 m (n + 1) t27 t28 l_1 c1 = b_onewire_Encode_l7 m (fun x0 x1 => some (w_onewire_Encode (x0, x1))) (fun t27 t28 l_1 c1 => L_onewire_Encode_l7 m n t27 t28 l_1 c1) (fun t44 t45 l_1 c1 out_10 => L_onewire_Encode_l15 m m t44 t45 l_1 c1 out_10) t27 t28 l_1 c1 := by kernel_rfl
theorem b_onewire_Encode_l7_map (m : Nat) {k_l7 : Int → Int → List Item → Onewire → Option (List (RV C))} {q_l7 : Int → Int → List Item → Onewire → Option (List Run × Int)} (h_l7 : ∀ t27 t28 l_1 c1, k_l7 t27 t28 l_1 c1 = (q_l7 t27 t28 l_1 c1).map w_onewire_Encode) {k_l15 : Int → Int → List Item → Onewire → List Run → Option (List (RV C))} {q_l15 : Int → Int → List Item → Onewire → List Run → Option (List Run × Int)} (h_l15 : ∀ t44 t45 l_1 c1 out_10, k_l15 t44 t45 l_1 c1 out_10 = (q_l15 t44 t45 l_1 c1 out_10).map w_onewire_Encode) (t27 : Int) (t28 : Int) (l_1 : List Item) (c1 : Onewire) : b_onewire_Encode_l7 m (fun x0 x1 => some (w_onewire_Encode (x0, x1))) k_l7 k_l15 t27 t28 l_1 c1 = (b_onewire_Encode_l7 m (fun x0 x1 => some (x0, x1)) q_l7 q_l15 t27 t28 l_1 c1).map w_onewire_Encode := by
  simp only [b_onewire_Encode_l7, cond_map, bind_map, map_none, map_some, h_l7, h_l15]
noncomputable def onewire_Encode_l7 (m : Nat) : Nat → Int → Int → List Item → Onewire → Option (List Run × Int)
  | 0, _, _, _, _ => none
  | n + 1, t27, t28, l_1, c1 => b_onewire_Encode_l7 m (fun x0 x1 => some (x0, x1)) (fun t27 t28 l_1 c1 => onewire_Encode_l7 m n t27 t28 l_1 c1) (fun t44 t45 l_1 c1 out_10 => onewire_Encode_l15 m m t44 t45 l_1 c1 out_10) t27 t28 l_1 c1
theorem L_onewire_Encode_l7_eq (m : Nat) : ∀ (n : Nat) (t27 : Int) (t28 : Int) (l_1 : List Item) (c1 : Onewire), L_onewire_Encode_l7 m n t27 t28 l_1 c1 = (onewire_Encode_l7 m n t27 t28 l_1 c1).map w_onewire_Encode
  | 0, t27, t28, l_1, c1 => by kernel_rfl
  | n + 1, t27, t28, l_1, c1 => by
    rw [L_onewire_Encode_l7_step]
    exact b_onewire_Encode_l7_map m (fun t27 t28 l_1 c1 => L_onewire_Encode_l7_eq m n t27 t28 l_1 c1) (fun t44 t45 l_1 c1 out_10 => L_onewire_Encode_l15_eq m m t44 t45 l_1 c1 out_10) t27 t28 l_1 c1
noncomputable def b_onewire_Encode {R : Type} (m : Nat) (ret : List Run → Int → Option R) (k_l7 : Int → Int → List Item → Onewire → Option R) (c_0 : Onewire) (l_1 : List Item) : Option R :=
 (onewire_Check m c_0).bind fun r0 =>
 bif r0 != 0 then
 ret [] r0
 else
 bif decide ((l_1.length : Int) > 1024) then
 ret [] 6
 else
 k_l7 (l_1.length : Int) 0 l_1 c_0
theorem onewire_Encode_pre (m : Nat) (c_0 : Onewire) (l_1 : List Item) : funK Try.prog (Ψ_onewire_Encode m) keep m 1 23 [(dS of_Onewire cells_Onewire of_Onewire_ok).e c_0, (dRow 53).e l_1] = b_onewire_Encode m (fun x0 x1 => some (w_onewire_Encode (x0, x1))) (fun t27 t28 l_1 c1 => L_onewire_Encode_l7 m m t27 t28 l_1 c1) c_0 l_1 := by kernel_rfl
theorem b_onewire_Encode_map (m : Nat) {k_l7 : Int → Int → List Item → Onewire → Option (List (RV C))} {q_l7 : Int → Int → List Item → Onewire → Option (List Run × Int)} (h_l7 : ∀ t27 t28 l_1 c1, k_l7 t27 t28 l_1 c1 = (q_l7 t27 t28 l_1 c1).map w_onewire_Encode) (c_0 : Onewire) (l_1 : List Item) : b_onewire_Encode m (fun x0 x1 => some (w_onewire_Encode (x0, x1))) k_l7 c_0 l_1 = (b_onewire_Encode m (fun x0 x1 => some (x0, x1)) q_l7 c_0 l_1).map w_onewire_Encode := by
  simp only [b_onewire_Encode, cond_map, bind_map, map_none, map_some, h_l7]
noncomputable def onewire_Encode (m : Nat) (c_0 : Onewire) (l_1 : List Item) : Option (List Run × Int) := b_onewire_Encode m (fun x0 x1 => some (x0, x1)) (fun t27 t28 l_1 c1 => onewire_Encode_l7 m m t27 t28 l_1 c1) c_0 l_1
theorem onewire_Encode_fun (m : Nat) (c_0 : Onewire) (l_1 : List Item) : funK Try.prog (Ψ_onewire_Encode m) keep m 1 23 [(dS of_Onewire cells_Onewire of_Onewire_ok).e c_0, (dRow 53).e l_1] = (onewire_Encode m c_0 l_1).map w_onewire_Encode := by
  rw [onewire_Encode_pre]
  exact b_onewire_Encode_map m (fun t27 t28 l_1 c1 => L_onewire_Encode_l7_eq m m t27 t28 l_1 c1) c_0 l_1
noncomputable def K_onewire_Encode (m : Nat) : KnownF C := mkK (dCons (dS of_Onewire cells_Onewire of_Onewire_ok) (dCons (dRow 53) dNil)) (fun a => onewire_Encode m a.1 a.2.1) w_onewire_Encode
theorem K_onewire_Encode_ok (m : Nat) : KnownAt C Try.prog 23 fun l => (K_onewire_Encode m).run _ l some :=
  mkK_known good fit (Ψ_onewire_Encode_ok m) (keep := keep) (m := m) (d := 1) fun a => onewire_Encode_fun m a.1 a.2.1
/-! ### signalbench/onewire.Start -/
def w_onewire_Start (b : State) : List (RV C) := [(dS of_State cells_State of_State_ok).e b]
noncomputable def b_onewire_Start {R : Type} (m : Nat) (ret : State → Option R) (c_0 : Onewire) : Option R :=
 ret (State.mk 0 0 0 0 0 0 0 (bs []))
theorem onewire_Start_pre (m : Nat) (c_0 : Onewire) : funK Try.prog Ψ0 keep m 1 11 [(dS of_Onewire cells_Onewire of_Onewire_ok).e c_0] = b_onewire_Start m (fun x0 => some (w_onewire_Start x0)) c_0 := by kernel_rfl
theorem b_onewire_Start_map (m : Nat) (c_0 : Onewire) : b_onewire_Start m (fun x0 => some (w_onewire_Start x0)) c_0 = (b_onewire_Start m (fun x0 => some x0) c_0).map w_onewire_Start := by
  simp only [b_onewire_Start, cond_map, bind_map, map_none, map_some]
noncomputable def onewire_Start (m : Nat) (c_0 : Onewire) : Option (State) := b_onewire_Start m (fun x0 => some x0) c_0
theorem onewire_Start_fun (m : Nat) (c_0 : Onewire) : funK Try.prog Ψ0 keep m 1 11 [(dS of_Onewire cells_Onewire of_Onewire_ok).e c_0] = (onewire_Start m c_0).map w_onewire_Start := by
  rw [onewire_Start_pre]
  exact b_onewire_Start_map m c_0
noncomputable def K_onewire_Start (m : Nat) : KnownF C := mkK (dCons (dS of_Onewire cells_Onewire of_Onewire_ok) dNil) (fun a => onewire_Start m a.1) w_onewire_Start
theorem K_onewire_Start_ok (m : Nat) : KnownAt C Try.prog 11 fun l => (K_onewire_Start m).run _ l some :=
  mkK_known good fit Ψ0_ok (keep := keep) (m := m) (d := 1) fun a => onewire_Start_fun m a.1
/-! ### signalbench/event.Valid -/
def w_event_Valid (b : Bool) : List (RV C) := [dBool.e b]
noncomputable def b_event_Valid {R : Type} (m : Nat) (ret : Bool → Option R) (e_0 : Event) : Option R :=
 bif decide (e_0.Kind < 1) then
 ret false
 else
 bif decide (e_0.Kind > 8) then
 ret false
 else
 bif decide (e_0.From < 0) then
 ret false
 else
 bif decide (e_0.From > e_0.To) then
 ret false
 else
 bif decide (e_0.To > 1099511627776) then
 ret false
 else
 bif decide (e_0.Value < -9007199254740992) then
 ret false
 else
 bif decide (e_0.Value > 9007199254740992) then
 ret false
 else
 bif decide (e_0.Aux < -9007199254740992) then
 ret false
 else
 bif decide (e_0.Aux > 9007199254740992) then
 ret false
 else
 bif decide ((e_0.Data.size : Int) ≤ 4096) then
 bif decide (e_0.Fault ≥ 0) then
 ret (decide (e_0.Fault ≤ 12))
 else
 ret false
 else
 ret false
theorem event_Valid_pre (m : Nat) (e_0 : Event) : funK Try.prog Ψ0 keep m 1 47 [(dS of_Event cells_Event of_Event_ok).e e_0] = b_event_Valid m (fun x0 => some (w_event_Valid x0)) e_0 := by kernel_rfl
theorem b_event_Valid_map (m : Nat) (e_0 : Event) : b_event_Valid m (fun x0 => some (w_event_Valid x0)) e_0 = (b_event_Valid m (fun x0 => some x0) e_0).map w_event_Valid := by
  simp only [b_event_Valid, cond_map, bind_map, map_none, map_some]
noncomputable def event_Valid (m : Nat) (e_0 : Event) : Option (Bool) := b_event_Valid m (fun x0 => some x0) e_0
theorem event_Valid_fun (m : Nat) (e_0 : Event) : funK Try.prog Ψ0 keep m 1 47 [(dS of_Event cells_Event of_Event_ok).e e_0] = (event_Valid m e_0).map w_event_Valid := by
  rw [event_Valid_pre]
  exact b_event_Valid_map m e_0
noncomputable def K_event_Valid (m : Nat) : KnownF C := mkK (dCons (dS of_Event cells_Event of_Event_ok) dNil) (fun a => event_Valid m a.1) w_event_Valid
theorem K_event_Valid_ok (m : Nat) : KnownAt C Try.prog 47 fun l => (K_event_Valid m).run _ l some :=
  mkK_known good fit Ψ0_ok (keep := keep) (m := m) (d := 1) fun a => event_Valid_fun m a.1
/-! ### signalbench/onewire.accepts -/
noncomputable def Ψ_onewire_accepts (m : Nat) : Known C := fun f => match f with
  | 47 => some (K_event_Valid m)
  | _ => none
theorem Ψ_onewire_accepts_ok (m : Nat) : KnownOk C Try.prog (Ψ_onewire_accepts m) := by
  intro f φ h
  unfold Ψ_onewire_accepts at h
  split at h
  · injection h with h; subst h; exact K_event_Valid_ok m
  · cases h
def w_onewire_accepts (b : Bool) : List (RV C) := [dBool.e b]
noncomputable def b_onewire_accepts {R : Type} (m : Nat) (ret : Bool → Option R) (s_0 : State) (e_1 : Event) : Option R :=
 (event_Valid m e_1).bind fun r0 =>
 bif r0 then
 bif e_1.Kind == 1 then
 bif e_1.Fault == 0 then
 bif decide (e_1.From < e_1.To) then
 bif e_1.Value == 0 then
 bif s_0.Phase == 0 then
 ret true
 else
 ret (e_1.From == s_0.At)
 else
 bif e_1.Value == 1 then
 bif s_0.Phase == 0 then
 ret true
 else
 ret (e_1.From == s_0.At)
 else
 ret false
 else
 ret false
 else
 ret false
 else
 ret false
 else
 ret false
theorem onewire_accepts_pre (m : Nat) (s_0 : State) (e_1 : Event) : funK Try.prog (Ψ_onewire_accepts m) keep m 1 31 [(dS of_State cells_State of_State_ok).e s_0, (dS of_Event cells_Event of_Event_ok).e e_1] = b_onewire_accepts m (fun x0 => some (w_onewire_accepts x0)) s_0 e_1 := by kernel_rfl
theorem b_onewire_accepts_map (m : Nat) (s_0 : State) (e_1 : Event) : b_onewire_accepts m (fun x0 => some (w_onewire_accepts x0)) s_0 e_1 = (b_onewire_accepts m (fun x0 => some x0) s_0 e_1).map w_onewire_accepts := by
  simp only [b_onewire_accepts, cond_map, bind_map, map_none, map_some]
noncomputable def onewire_accepts (m : Nat) (s_0 : State) (e_1 : Event) : Option (Bool) := b_onewire_accepts m (fun x0 => some x0) s_0 e_1
theorem onewire_accepts_fun (m : Nat) (s_0 : State) (e_1 : Event) : funK Try.prog (Ψ_onewire_accepts m) keep m 1 31 [(dS of_State cells_State of_State_ok).e s_0, (dS of_Event cells_Event of_Event_ok).e e_1] = (onewire_accepts m s_0 e_1).map w_onewire_accepts := by
  rw [onewire_accepts_pre]
  exact b_onewire_accepts_map m s_0 e_1
noncomputable def K_onewire_accepts (m : Nat) : KnownF C := mkK (dCons (dS of_State cells_State of_State_ok) (dCons (dS of_Event cells_Event of_Event_ok) dNil)) (fun a => onewire_accepts m a.1 a.2.1) w_onewire_accepts
theorem K_onewire_accepts_ok (m : Nat) : KnownAt C Try.prog 31 fun l => (K_onewire_accepts m).run _ l some :=
  mkK_known good fit (Ψ_onewire_accepts_ok m) (keep := keep) (m := m) (d := 1) fun a => onewire_accepts_fun m a.1 a.2.1
/-! ### signalbench/onewire.closed -/
def w_onewire_closed (b : State) : List (RV C) := [(dS of_State cells_State of_State_ok).e b]
noncomputable def b_onewire_closed {R : Type} (m : Nat) (ret : State → Option R) (s_0 : State) : Option R :=
 ret { s_0 with From := 0, Count := 0, Acc := 0 }
theorem onewire_closed_pre (m : Nat) (s_0 : State) : funK Try.prog Ψ0 keep m 1 34 [(dS of_State cells_State of_State_ok).e s_0] = b_onewire_closed m (fun x0 => some (w_onewire_closed x0)) s_0 := by kernel_rfl
theorem b_onewire_closed_map (m : Nat) (s_0 : State) : b_onewire_closed m (fun x0 => some (w_onewire_closed x0)) s_0 = (b_onewire_closed m (fun x0 => some x0) s_0).map w_onewire_closed := by
  simp only [b_onewire_closed, cond_map, bind_map, map_none, map_some]
noncomputable def onewire_closed (m : Nat) (s_0 : State) : Option (State) := b_onewire_closed m (fun x0 => some x0) s_0
theorem onewire_closed_fun (m : Nat) (s_0 : State) : funK Try.prog Ψ0 keep m 1 34 [(dS of_State cells_State of_State_ok).e s_0] = (onewire_closed m s_0).map w_onewire_closed := by
  rw [onewire_closed_pre]
  exact b_onewire_closed_map m s_0
noncomputable def K_onewire_closed (m : Nat) : KnownF C := mkK (dCons (dS of_State cells_State of_State_ok) dNil) (fun a => onewire_closed m a.1) w_onewire_closed
theorem K_onewire_closed_ok (m : Nat) : KnownAt C Try.prog 34 fun l => (K_onewire_closed m).run _ l some :=
  mkK_known good fit Ψ0_ok (keep := keep) (m := m) (d := 1) fun a => onewire_closed_fun m a.1
/-! ### signalbench/onewire.mark -/
def w_onewire_mark (b : Event) : List (RV C) := [(dS of_Event cells_Event of_Event_ok).e b]
noncomputable def b_onewire_mark {R : Type} (m : Nat) (ret : Event → Option R) (from_0 : Int) (to_1 : Int) (value_2 : Int) : Option R :=
 ret (Event.mk 4 from_0 to_1 value_2 0 (bs []) 0)
theorem onewire_mark_pre (m : Nat) (from_0 : Int) (to_1 : Int) (value_2 : Int) : funK Try.prog Ψ0 keep m 1 33 [(dInt .i64).e from_0, (dInt .i64).e to_1, (dInt .i64).e value_2] = b_onewire_mark m (fun x0 => some (w_onewire_mark x0)) from_0 to_1 value_2 := by kernel_rfl
theorem b_onewire_mark_map (m : Nat) (from_0 : Int) (to_1 : Int) (value_2 : Int) : b_onewire_mark m (fun x0 => some (w_onewire_mark x0)) from_0 to_1 value_2 = (b_onewire_mark m (fun x0 => some x0) from_0 to_1 value_2).map w_onewire_mark := by
  simp only [b_onewire_mark, cond_map, bind_map, map_none, map_some]
noncomputable def onewire_mark (m : Nat) (from_0 : Int) (to_1 : Int) (value_2 : Int) : Option (Event) := b_onewire_mark m (fun x0 => some x0) from_0 to_1 value_2
theorem onewire_mark_fun (m : Nat) (from_0 : Int) (to_1 : Int) (value_2 : Int) : funK Try.prog Ψ0 keep m 1 33 [(dInt .i64).e from_0, (dInt .i64).e to_1, (dInt .i64).e value_2] = (onewire_mark m from_0 to_1 value_2).map w_onewire_mark := by
  rw [onewire_mark_pre]
  exact b_onewire_mark_map m from_0 to_1 value_2
noncomputable def K_onewire_mark (m : Nat) : KnownF C := mkK (dCons (dInt .i64) (dCons (dInt .i64) (dCons (dInt .i64) dNil))) (fun a => onewire_mark m a.1 a.2.1 a.2.2.1) w_onewire_mark
theorem K_onewire_mark_ok (m : Nat) : KnownAt C Try.prog 33 fun l => (K_onewire_mark m).run _ l some :=
  mkK_known good fit Ψ0_ok (keep := keep) (m := m) (d := 1) fun a => onewire_mark_fun m a.1 a.2.1 a.2.2.1
/-! ### signalbench/onewire.class -/
def w_onewire_class (b : Int) : List (RV C) := [(dInt .i64).e b]
noncomputable def b_onewire_class {R : Type} (m : Nat) (ret : Int → Option R) (c_0 : Onewire) (width_1 : Int) : Option R :=
 bif decide (width_1 < IntKind.i64.wrap (2 * c_0.T)) then
 ret 0
 else
 bif decide (width_1 < IntKind.i64.wrap (16 * c_0.T)) then
 ret 1
 else
 bif decide (width_1 < IntKind.i64.wrap (24 * c_0.T)) then
 ret 2
 else
 ret 3
theorem onewire_class_pre (m : Nat) (c_0 : Onewire) (width_1 : Int) : funK Try.prog Ψ0 keep m 1 48 [(dS of_Onewire cells_Onewire of_Onewire_ok).e c_0, (dInt .i64).e width_1] = b_onewire_class m (fun x0 => some (w_onewire_class x0)) c_0 width_1 := by kernel_rfl
theorem b_onewire_class_map (m : Nat) (c_0 : Onewire) (width_1 : Int) : b_onewire_class m (fun x0 => some (w_onewire_class x0)) c_0 width_1 = (b_onewire_class m (fun x0 => some x0) c_0 width_1).map w_onewire_class := by
  simp only [b_onewire_class, cond_map, bind_map, map_none, map_some]
noncomputable def onewire_class (m : Nat) (c_0 : Onewire) (width_1 : Int) : Option (Int) := b_onewire_class m (fun x0 => some x0) c_0 width_1
theorem onewire_class_fun (m : Nat) (c_0 : Onewire) (width_1 : Int) : funK Try.prog Ψ0 keep m 1 48 [(dS of_Onewire cells_Onewire of_Onewire_ok).e c_0, (dInt .i64).e width_1] = (onewire_class m c_0 width_1).map w_onewire_class := by
  rw [onewire_class_pre]
  exact b_onewire_class_map m c_0 width_1
noncomputable def K_onewire_class (m : Nat) : KnownF C := mkK (dCons (dS of_Onewire cells_Onewire of_Onewire_ok) (dCons (dInt .i64) dNil)) (fun a => onewire_class m a.1 a.2.1) w_onewire_class
theorem K_onewire_class_ok (m : Nat) : KnownAt C Try.prog 48 fun l => (K_onewire_class m).run _ l some :=
  mkK_known good fit Ψ0_ok (keep := keep) (m := m) (d := 1) fun a => onewire_class_fun m a.1 a.2.1
/-! ### signalbench/onewire.pulse -/
noncomputable def Ψ_onewire_pulse (m : Nat) : Known C := fun f => match f with
  | 34 => some (K_onewire_closed m)
  | 33 => some (K_onewire_mark m)
  | 48 => some (K_onewire_class m)
  | _ => none
theorem Ψ_onewire_pulse_ok (m : Nat) : KnownOk C Try.prog (Ψ_onewire_pulse m) := by
  intro f φ h
  unfold Ψ_onewire_pulse at h
  split at h
  · injection h with h; subst h; exact K_onewire_closed_ok m
  · injection h with h; subst h; exact K_onewire_mark_ok m
  · injection h with h; subst h; exact K_onewire_class_ok m
  · cases h
def w_onewire_pulse (b : State × List Event) : List (RV C) := [(dS of_State cells_State of_State_ok).e b.1, (dRow 33).e b.2]
noncomputable def b_onewire_pulse {R : Type} (m : Nat) (ret : State → List Event → Option R) (c_0 : Onewire) (s_1 : State) (end_2 : Int) : Option R :=
 bif decide (s_1.Count < 0) then
 (bif decide (IntKind.i64.wrap (end_2 - s_1.Aux) ≥ IntKind.i64.wrap (4 * c_0.T)) then
 (bif decide (IntKind.i64.wrap (end_2 - s_1.Aux) ≤ IntKind.i64.wrap (20 * c_0.T)) then
 ret { s_1 with From := 0, Count := 0, Acc := 0 } ([Event.mk 4 s_1.From end_2 3 0 (bs []) 0])
 else
 (onewire_class m c_0 (IntKind.i64.wrap (end_2 - s_1.Aux))).bind fun r0 =>
 bif r0 == 3 then
 ret { s_1 with From := s_1.Aux, Count := -1, Acc := end_2 } ([Event.mk 4 s_1.From s_1.Acc 2 0 (bs []) 0])
 else
 bif r0 == 2 then
 ret { s_1 with From := 0, Count := 0, Acc := 0 } ([Event.mk 4 s_1.From s_1.Acc 2 0 (bs []) 0] ++ [Event.mk 3 s_1.Aux end_2 0 0 (bs []) 6])
 else
 bif r0 == 0 then
 ret { s_1 with From := s_1.Aux, Count := 1, Acc := 1 } ([Event.mk 4 s_1.From s_1.Acc 2 0 (bs []) 0])
 else
 ret { s_1 with From := s_1.Aux, Count := 1, Acc := 0 } ([Event.mk 4 s_1.From s_1.Acc 2 0 (bs []) 0]))
 else
 (onewire_class m c_0 (IntKind.i64.wrap (end_2 - s_1.Aux))).bind fun r1 =>
 bif r1 == 3 then
 ret { s_1 with From := s_1.Aux, Count := -1, Acc := end_2 } ([Event.mk 4 s_1.From s_1.Acc 2 0 (bs []) 0])
 else
 bif r1 == 2 then
 ret { s_1 with From := 0, Count := 0, Acc := 0 } ([Event.mk 4 s_1.From s_1.Acc 2 0 (bs []) 0] ++ [Event.mk 3 s_1.Aux end_2 0 0 (bs []) 6])
 else
 bif r1 == 0 then
 ret { s_1 with From := s_1.Aux, Count := 1, Acc := 1 } ([Event.mk 4 s_1.From s_1.Acc 2 0 (bs []) 0])
 else
 ret { s_1 with From := s_1.Aux, Count := 1, Acc := 0 } ([Event.mk 4 s_1.From s_1.Acc 2 0 (bs []) 0]))
 else
 bif s_1.Count == 0 then
 ((onewire_class m c_0 (IntKind.i64.wrap (end_2 - s_1.Aux))).bind fun r2 =>
 bif r2 == 3 then
 bif decide (s_1.Count > 0) then
 ret { s_1 with From := s_1.Aux, Count := -1, Acc := end_2 } ([Event.mk 3 s_1.Aux s_1.Aux 0 0 (bs []) 7])
 else
 ret { s_1 with From := s_1.Aux, Count := -1, Acc := end_2 } []
 else
 bif r2 == 2 then
 ret { s_1 with From := 0, Count := 0, Acc := 0 } ([Event.mk 3 s_1.Aux end_2 0 0 (bs []) 6])
 else
 bif r2 == 0 then
 bif decide ((if 8 < s_1.Count then 8 else s_1.Count) < 0) then
 none
 else
 bif decide (IntKind.i64.wrap (s_1.Count + 1) ≥ 8) then
 ret { s_1 with From := 0, Count := 0, Acc := 0 } ([Event.mk 3 s_1.Aux end_2 (IntKind.i64.wrap (((BitVec.ofInt 64 (IntKind.i64.wrap (((BitVec.ofInt 64 0 ||| BitVec.ofInt 64 (IntKind.i64.wrap (1 * 2 ^ min (if 8 < s_1.Count then 8 else s_1.Count).toNat 64))).toNat : Int))) &&& BitVec.ofInt 64 255).toNat : Int))) 0 (bs []) 0])
 else
 ret { s_1 with From := s_1.Aux, Count := IntKind.i64.wrap (s_1.Count + 1), Acc := IntKind.i64.wrap (((BitVec.ofInt 64 0 ||| BitVec.ofInt 64 (IntKind.i64.wrap (1 * 2 ^ min (if 8 < s_1.Count then 8 else s_1.Count).toNat 64))).toNat : Int)) } []
 else
 bif decide (IntKind.i64.wrap (s_1.Count + 1) ≥ 8) then
 ret { s_1 with From := 0, Count := 0, Acc := 0 } ([Event.mk 3 s_1.Aux end_2 0 0 (bs []) 0])
 else
 ret { s_1 with From := s_1.Aux, Count := IntKind.i64.wrap (s_1.Count + 1), Acc := 0 } [])
 else
 (onewire_class m c_0 (IntKind.i64.wrap (end_2 - s_1.Aux))).bind fun r3 =>
 bif r3 == 3 then
 bif decide (s_1.Count > 0) then
 ret { s_1 with From := s_1.Aux, Count := -1, Acc := end_2 } ([Event.mk 3 s_1.From s_1.Aux 0 0 (bs []) 7])
 else
 ret { s_1 with From := s_1.Aux, Count := -1, Acc := end_2 } []
 else
 bif r3 == 2 then
 ret { s_1 with From := 0, Count := 0, Acc := 0 } ([Event.mk 3 s_1.From end_2 0 0 (bs []) 6])
 else
 bif r3 == 0 then
 bif decide ((if 8 < s_1.Count then 8 else s_1.Count) < 0) then
 none
 else
 bif decide (IntKind.i64.wrap (s_1.Count + 1) ≥ 8) then
 ret { s_1 with From := 0, Count := 0, Acc := 0 } ([Event.mk 3 s_1.From end_2 (IntKind.i64.wrap (((BitVec.ofInt 64 (IntKind.i64.wrap (((BitVec.ofInt 64 s_1.Acc ||| BitVec.ofInt 64 (IntKind.i64.wrap (1 * 2 ^ min (if 8 < s_1.Count then 8 else s_1.Count).toNat 64))).toNat : Int))) &&& BitVec.ofInt 64 255).toNat : Int))) 0 (bs []) 0])
 else
 ret { s_1 with Count := IntKind.i64.wrap (s_1.Count + 1), Acc := IntKind.i64.wrap (((BitVec.ofInt 64 s_1.Acc ||| BitVec.ofInt 64 (IntKind.i64.wrap (1 * 2 ^ min (if 8 < s_1.Count then 8 else s_1.Count).toNat 64))).toNat : Int)) } []
 else
 bif decide (IntKind.i64.wrap (s_1.Count + 1) ≥ 8) then
 ret { s_1 with From := 0, Count := 0, Acc := 0 } ([Event.mk 3 s_1.From end_2 (IntKind.i64.wrap (((BitVec.ofInt 64 s_1.Acc &&& BitVec.ofInt 64 255).toNat : Int))) 0 (bs []) 0])
 else
 ret { s_1 with Count := IntKind.i64.wrap (s_1.Count + 1) } []
theorem onewire_pulse_pre (m : Nat) (c_0 : Onewire) (s_1 : State) (end_2 : Int) : funK Try.prog (Ψ_onewire_pulse m) keep m 1 32 [(dS of_Onewire cells_Onewire of_Onewire_ok).e c_0, (dS of_State cells_State of_State_ok).e s_1, (dInt .i64).e end_2] = b_onewire_pulse m (fun x0 x1 => some (w_onewire_pulse (x0, x1))) c_0 s_1 end_2 := by kernel_rfl
theorem b_onewire_pulse_map (m : Nat) (c_0 : Onewire) (s_1 : State) (end_2 : Int) : b_onewire_pulse m (fun x0 x1 => some (w_onewire_pulse (x0, x1))) c_0 s_1 end_2 = (b_onewire_pulse m (fun x0 x1 => some (x0, x1)) c_0 s_1 end_2).map w_onewire_pulse := by
  simp only [b_onewire_pulse, cond_map, bind_map, map_none, map_some]
noncomputable def onewire_pulse (m : Nat) (c_0 : Onewire) (s_1 : State) (end_2 : Int) : Option (State × List Event) := b_onewire_pulse m (fun x0 x1 => some (x0, x1)) c_0 s_1 end_2
theorem onewire_pulse_fun (m : Nat) (c_0 : Onewire) (s_1 : State) (end_2 : Int) : funK Try.prog (Ψ_onewire_pulse m) keep m 1 32 [(dS of_Onewire cells_Onewire of_Onewire_ok).e c_0, (dS of_State cells_State of_State_ok).e s_1, (dInt .i64).e end_2] = (onewire_pulse m c_0 s_1 end_2).map w_onewire_pulse := by
  rw [onewire_pulse_pre]
  exact b_onewire_pulse_map m c_0 s_1 end_2
noncomputable def K_onewire_pulse (m : Nat) : KnownF C := mkK (dCons (dS of_Onewire cells_Onewire of_Onewire_ok) (dCons (dS of_State cells_State of_State_ok) (dCons (dInt .i64) dNil))) (fun a => onewire_pulse m a.1 a.2.1 a.2.2.1) w_onewire_pulse
theorem K_onewire_pulse_ok (m : Nat) : KnownAt C Try.prog 32 fun l => (K_onewire_pulse m).run _ l some :=
  mkK_known good fit (Ψ_onewire_pulse_ok m) (keep := keep) (m := m) (d := 1) fun a => onewire_pulse_fun m a.1 a.2.1 a.2.2.1
/-! ### signalbench/onewire.Step -/
noncomputable def Ψ_onewire_Step (m : Nat) : Known C := fun f => match f with
  | 16 => some (K_onewire_Check m)
  | 31 => some (K_onewire_accepts m)
  | 32 => some (K_onewire_pulse m)
  | 33 => some (K_onewire_mark m)
  | 34 => some (K_onewire_closed m)
  | _ => none
theorem Ψ_onewire_Step_ok (m : Nat) : KnownOk C Try.prog (Ψ_onewire_Step m) := by
  intro f φ h
  unfold Ψ_onewire_Step at h
  split at h
  · injection h with h; subst h; exact K_onewire_Check_ok m
  · injection h with h; subst h; exact K_onewire_accepts_ok m
  · injection h with h; subst h; exact K_onewire_pulse_ok m
  · injection h with h; subst h; exact K_onewire_mark_ok m
  · injection h with h; subst h; exact K_onewire_closed_ok m
  · cases h
def w_onewire_Step (b : State × List Event) : List (RV C) := [(dS of_State cells_State of_State_ok).e b.1, (dRow 33).e b.2]
noncomputable def b_onewire_Step {R : Type} (m : Nat) (ret : State → List Event → Option R) (c_0 : Onewire) (s_1 : State) (e_2 : Event) : Option R :=
 (onewire_Check m c_0).bind fun r0 =>
 bif r0 != 0 then
 ret s_1 []
 else
 (onewire_accepts m s_1 e_2).bind fun r1 =>
 bif !r1 then
 ret s_1 []
 else
 bif e_2.Value == 0 then
 bif s_1.Prev == 0 then
 ret { s_1 with Phase := 1, At := e_2.To, Aux := e_2.From, Prev := 1 } []
 else
 ret { s_1 with Phase := 1, At := e_2.To } []
 else
 bif s_1.Prev == 1 then
 ((onewire_pulse m c_0 (State.mk 1 e_2.To s_1.From s_1.Count s_1.Acc s_1.Aux s_1.Prev s_1.Data) e_2.From).bind fun r2 =>
 bif decide (r2.fst.Count < 0) then
 bif decide (IntKind.i64.wrap (r2.fst.Acc + IntKind.i64.wrap (8 * c_0.T)) < e_2.To) then
 bif decide ((r2.snd.length + 1) * 64 ≤ 140737488355328) then
 ret (State.mk r2.fst.Phase r2.fst.At 0 0 0 0 0 r2.fst.Data) (r2.snd ++ [Event.mk 4 r2.fst.From r2.fst.Acc 2 0 (bs []) 0])
 else
 none
 else
 ret (State.mk r2.fst.Phase r2.fst.At r2.fst.From r2.fst.Count r2.fst.Acc 0 0 r2.fst.Data) r2.snd
 else
 ret (State.mk r2.fst.Phase r2.fst.At r2.fst.From r2.fst.Count r2.fst.Acc 0 0 r2.fst.Data) r2.snd)
 else
 bif decide (s_1.Count < 0) then
 bif decide (IntKind.i64.wrap (s_1.Acc + IntKind.i64.wrap (8 * c_0.T)) < e_2.To) then
 ret (State.mk 1 e_2.To 0 0 0 s_1.Aux s_1.Prev s_1.Data) ([Event.mk 4 s_1.From s_1.Acc 2 0 (bs []) 0])
 else
 ret { s_1 with Phase := 1, At := e_2.To } []
 else
 ret { s_1 with Phase := 1, At := e_2.To } []
theorem onewire_Step_pre (m : Nat) (c_0 : Onewire) (s_1 : State) (e_2 : Event) : funK Try.prog (Ψ_onewire_Step m) keep m 1 13 [(dS of_Onewire cells_Onewire of_Onewire_ok).e c_0, (dS of_State cells_State of_State_ok).e s_1, (dS of_Event cells_Event of_Event_ok).e e_2] = b_onewire_Step m (fun x0 x1 => some (w_onewire_Step (x0, x1))) c_0 s_1 e_2 := by kernel_rfl
theorem b_onewire_Step_map (m : Nat) (c_0 : Onewire) (s_1 : State) (e_2 : Event) : b_onewire_Step m (fun x0 x1 => some (w_onewire_Step (x0, x1))) c_0 s_1 e_2 = (b_onewire_Step m (fun x0 x1 => some (x0, x1)) c_0 s_1 e_2).map w_onewire_Step := by
  simp only [b_onewire_Step, cond_map, bind_map, map_none, map_some]
noncomputable def onewire_Step (m : Nat) (c_0 : Onewire) (s_1 : State) (e_2 : Event) : Option (State × List Event) := b_onewire_Step m (fun x0 x1 => some (x0, x1)) c_0 s_1 e_2
theorem onewire_Step_fun (m : Nat) (c_0 : Onewire) (s_1 : State) (e_2 : Event) : funK Try.prog (Ψ_onewire_Step m) keep m 1 13 [(dS of_Onewire cells_Onewire of_Onewire_ok).e c_0, (dS of_State cells_State of_State_ok).e s_1, (dS of_Event cells_Event of_Event_ok).e e_2] = (onewire_Step m c_0 s_1 e_2).map w_onewire_Step := by
  rw [onewire_Step_pre]
  exact b_onewire_Step_map m c_0 s_1 e_2
noncomputable def K_onewire_Step (m : Nat) : KnownF C := mkK (dCons (dS of_Onewire cells_Onewire of_Onewire_ok) (dCons (dS of_State cells_State of_State_ok) (dCons (dS of_Event cells_Event of_Event_ok) dNil))) (fun a => onewire_Step m a.1 a.2.1 a.2.2.1) w_onewire_Step
theorem K_onewire_Step_ok (m : Nat) : KnownAt C Try.prog 13 fun l => (K_onewire_Step m).run _ l some :=
  mkK_known good fit (Ψ_onewire_Step_ok m) (keep := keep) (m := m) (d := 1) fun a => onewire_Step_fun m a.1 a.2.1 a.2.2.1
/-! ### signalbench/onewire.End -/
noncomputable def Ψ_onewire_End (m : Nat) : Known C := fun f => match f with
  | 16 => some (K_onewire_Check m)
  | 33 => some (K_onewire_mark m)
  | _ => none
theorem Ψ_onewire_End_ok (m : Nat) : KnownOk C Try.prog (Ψ_onewire_End m) := by
  intro f φ h
  unfold Ψ_onewire_End at h
  split at h
  · injection h with h; subst h; exact K_onewire_Check_ok m
  · injection h with h; subst h; exact K_onewire_mark_ok m
  · cases h
def w_onewire_End (b : List Event) : List (RV C) := [(dRow 33).e b]
noncomputable def b_onewire_End {R : Type} (m : Nat) (ret : List Event → Option R) (c_0 : Onewire) (s_1 : State) : Option R :=
 (onewire_Check m c_0).bind fun r0 =>
 bif r0 != 0 then
 ret []
 else
 bif s_1.Count == 0 then
 ret []
 else
 bif decide (s_1.Count < 0) then
 ret ([Event.mk 4 s_1.From s_1.Acc 2 0 (bs []) 0])
 else
 ret ([Event.mk 3 s_1.From s_1.At 0 0 (bs []) 7])
theorem onewire_End_pre (m : Nat) (c_0 : Onewire) (s_1 : State) : funK Try.prog (Ψ_onewire_End m) keep m 1 18 [(dS of_Onewire cells_Onewire of_Onewire_ok).e c_0, (dS of_State cells_State of_State_ok).e s_1] = b_onewire_End m (fun x0 => some (w_onewire_End x0)) c_0 s_1 := by kernel_rfl
theorem b_onewire_End_map (m : Nat) (c_0 : Onewire) (s_1 : State) : b_onewire_End m (fun x0 => some (w_onewire_End x0)) c_0 s_1 = (b_onewire_End m (fun x0 => some x0) c_0 s_1).map w_onewire_End := by
  simp only [b_onewire_End, cond_map, bind_map, map_none, map_some]
noncomputable def onewire_End (m : Nat) (c_0 : Onewire) (s_1 : State) : Option (List Event) := b_onewire_End m (fun x0 => some x0) c_0 s_1
theorem onewire_End_fun (m : Nat) (c_0 : Onewire) (s_1 : State) : funK Try.prog (Ψ_onewire_End m) keep m 1 18 [(dS of_Onewire cells_Onewire of_Onewire_ok).e c_0, (dS of_State cells_State of_State_ok).e s_1] = (onewire_End m c_0 s_1).map w_onewire_End := by
  rw [onewire_End_pre]
  exact b_onewire_End_map m c_0 s_1
noncomputable def K_onewire_End (m : Nat) : KnownF C := mkK (dCons (dS of_Onewire cells_Onewire of_Onewire_ok) (dCons (dS of_State cells_State of_State_ok) dNil)) (fun a => onewire_End m a.1 a.2.1) w_onewire_End
theorem K_onewire_End_ok (m : Nat) : KnownAt C Try.prog 18 fun l => (K_onewire_End m).run _ l some :=
  mkK_known good fit (Ψ_onewire_End_ok m) (keep := keep) (m := m) (d := 1) fun a => onewire_End_fun m a.1 a.2.1
/-! ### signalbench/onewire.Decode -/
noncomputable def Ψ_onewire_Decode (m : Nat) : Known C := fun f => match f with
  | 11 => some (K_onewire_Start m)
  | 13 => some (K_onewire_Step m)
  | 18 => some (K_onewire_End m)
  | _ => none
theorem Ψ_onewire_Decode_ok (m : Nat) : KnownOk C Try.prog (Ψ_onewire_Decode m) := by
  intro f φ h
  unfold Ψ_onewire_Decode at h
  split at h
  · injection h with h; subst h; exact K_onewire_Start_ok m
  · injection h with h; subst h; exact K_onewire_Step_ok m
  · injection h with h; subst h; exact K_onewire_End_ok m
  · cases h
def w_onewire_Decode (b : List Event) : List (RV C) := [(dRow 33).e b]
noncomputable def Q_onewire_Decode_4 (m : Nat) : St C → (Exit → St C → Option (List (RV C))) → Option (List (RV C)) := fun σ k => codeK Try.prog (Ψ_onewire_Decode m) (callK Try.prog (Ψ_onewire_Decode m) keep m 0) (keep 20) m (subC body20 [.r, .r, .r, .l, .r, .b, .o]) σ k
noncomputable def KL_onewire_Decode_4 (m : Nat) : Exit → St C → Option (List (RV C)) := contK Try.prog (Ψ_onewire_Decode m) (callK Try.prog (Ψ_onewire_Decode m) keep m 0) (keep 20) m body20 [.r, .r, .r, .l, .r, .b, .o] (leaveK Try.prog Try.f20.results.toList (finK Try.prog Try.f20.resultTypes.toList))
noncomputable def L_onewire_Decode_l4 (m n : Nat) (t14 : Int) (t15 : Int) (c0 : Onewire) (out_5 : List Event) (c2 : State) (t13 : List Event) : Option (List (RV C)) := iterK (Q_onewire_Decode_4 m) (St.norm (keep 20 4)) n ({ T := [.dead, .dead, .fl (.one (.ptr 0 0)), .dead, .dead, .fl (.one (.sl 1)), .fl (.one (.ptr 2 0)), .dead, .dead, .dead, .dead, .dead, .dead, .fl (.one (.sl 3)), .fl (.one (.int .i64 t14)), .fl (.one (.int .i64 t15))] ++ List.replicate 20 .dead, F := [[]], H := [.box 23 (cells_Onewire c0), .row 33 true out_5, .box 28 (cells_State c2), .row 33 false t13] } : St C) (KL_onewire_Decode_4 m)
noncomputable def b_onewire_Decode_l4 {R : Type} (m : Nat) (ret : List Event → Option R) (k_l4 : Int → Int → Onewire → List Event → State → List Event → Option R) (t14 : Int) (t15 : Int) (c0 : Onewire) (out_5 : List Event) (c2 : State) (t13 : List Event) : Option R :=
 bif decide (t15 < t14) then
 (bif decide (0 ≤ t15) then
 (bif decide (t15 < (t13.length : Int)) then
 ((onewire_Step m c0 c2 (t13.getD t15.toNat dflt_Event)).bind fun r0 =>
 bif decide ((out_5.length + r0.snd.length) * 64 ≤ 140737488355328) then
 k_l4 t14 (IntKind.i64.wrap (t15 + 1)) c0 (out_5 ++ r0.snd) r0.fst t13
 else
 none)
 else
 none)
 else
 none)
 else
 (onewire_End m c0 c2).bind fun r1 =>
 bif decide ((out_5.length + r1.length) * 64 ≤ 140737488355328) then
 ret (out_5 ++ r1)
 else
 none
theorem L_onewire_Decode_l4_step (m n : Nat) (t14 : Int) (t15 : Int) (c0 : Onewire) (out_5 : List Event) (c2 : State) (t13 : List Event) : L_onewire_Decode_l4 m (n + 1) t14 t15 c0 out_5 c2 t13 = b_onewire_Decode_l4 m (fun x0 => some (w_onewire_Decode x0)) (fun t14 t15 c0 out_5 c2 t13 => L_onewire_Decode_l4 m n t14 t15 c0 out_5 c2 t13) t14 t15 c0 out_5 c2 t13 := by kernel_rfl
theorem b_onewire_Decode_l4_map (m : Nat) {k_l4 : Int → Int → Onewire → List Event → State → List Event → Option (List (RV C))} {q_l4 : Int → Int → Onewire → List Event → State → List Event → Option (List Event)} (h_l4 : ∀ t14 t15 c0 out_5 c2 t13, k_l4 t14 t15 c0 out_5 c2 t13 = (q_l4 t14 t15 c0 out_5 c2 t13).map w_onewire_Decode) (t14 : Int) (t15 : Int) (c0 : Onewire) (out_5 : List Event) (c2 : State) (t13 : List Event) : b_onewire_Decode_l4 m (fun x0 => some (w_onewire_Decode x0)) k_l4 t14 t15 c0 out_5 c2 t13 = (b_onewire_Decode_l4 m (fun x0 => some x0) q_l4 t14 t15 c0 out_5 c2 t13).map w_onewire_Decode := by
  simp only [b_onewire_Decode_l4, cond_map, bind_map, map_none, map_some, h_l4]
noncomputable def onewire_Decode_l4 (m : Nat) : Nat → Int → Int → Onewire → List Event → State → List Event → Option (List Event)
  | 0, _, _, _, _, _, _ => none
  | n + 1, t14, t15, c0, out_5, c2, t13 => b_onewire_Decode_l4 m (fun x0 => some x0) (fun t14 t15 c0 out_5 c2 t13 => onewire_Decode_l4 m n t14 t15 c0 out_5 c2 t13) t14 t15 c0 out_5 c2 t13
theorem L_onewire_Decode_l4_eq (m : Nat) : ∀ (n : Nat) (t14 : Int) (t15 : Int) (c0 : Onewire) (out_5 : List Event) (c2 : State) (t13 : List Event), L_onewire_Decode_l4 m n t14 t15 c0 out_5 c2 t13 = (onewire_Decode_l4 m n t14 t15 c0 out_5 c2 t13).map w_onewire_Decode
  | 0, t14, t15, c0, out_5, c2, t13 => by kernel_rfl
  | n + 1, t14, t15, c0, out_5, c2, t13 => by
    rw [L_onewire_Decode_l4_step]
    exact b_onewire_Decode_l4_map m (fun t14 t15 c0 out_5 c2 t13 => L_onewire_Decode_l4_eq m n t14 t15 c0 out_5 c2 t13) t14 t15 c0 out_5 c2 t13
noncomputable def b_onewire_Decode {R : Type} (m : Nat) (ret : List Event → Option R) (k_l4 : Int → Int → Onewire → List Event → State → List Event → Option R) (c_0 : Onewire) (l_1 : List Event) : Option R :=
 k_l4 (l_1.length : Int) 0 c_0 [] (State.mk 0 0 0 0 0 0 0 (bs [])) l_1
theorem onewire_Decode_pre (m : Nat) (c_0 : Onewire) (l_1 : List Event) : funK Try.prog (Ψ_onewire_Decode m) keep m 1 20 [(dS of_Onewire cells_Onewire of_Onewire_ok).e c_0, (dRow 33).e l_1] = b_onewire_Decode m (fun x0 => some (w_onewire_Decode x0)) (fun t14 t15 c0 out_5 c2 t13 => L_onewire_Decode_l4 m m t14 t15 c0 out_5 c2 t13) c_0 l_1 := by kernel_rfl
theorem b_onewire_Decode_map (m : Nat) {k_l4 : Int → Int → Onewire → List Event → State → List Event → Option (List (RV C))} {q_l4 : Int → Int → Onewire → List Event → State → List Event → Option (List Event)} (h_l4 : ∀ t14 t15 c0 out_5 c2 t13, k_l4 t14 t15 c0 out_5 c2 t13 = (q_l4 t14 t15 c0 out_5 c2 t13).map w_onewire_Decode) (c_0 : Onewire) (l_1 : List Event) : b_onewire_Decode m (fun x0 => some (w_onewire_Decode x0)) k_l4 c_0 l_1 = (b_onewire_Decode m (fun x0 => some x0) q_l4 c_0 l_1).map w_onewire_Decode := by
  simp only [b_onewire_Decode, cond_map, bind_map, map_none, map_some, h_l4]
noncomputable def onewire_Decode (m : Nat) (c_0 : Onewire) (l_1 : List Event) : Option (List Event) := b_onewire_Decode m (fun x0 => some x0) (fun t14 t15 c0 out_5 c2 t13 => onewire_Decode_l4 m m t14 t15 c0 out_5 c2 t13) c_0 l_1
theorem onewire_Decode_fun (m : Nat) (c_0 : Onewire) (l_1 : List Event) : funK Try.prog (Ψ_onewire_Decode m) keep m 1 20 [(dS of_Onewire cells_Onewire of_Onewire_ok).e c_0, (dRow 33).e l_1] = (onewire_Decode m c_0 l_1).map w_onewire_Decode := by
  rw [onewire_Decode_pre]
  exact b_onewire_Decode_map m (fun t14 t15 c0 out_5 c2 t13 => L_onewire_Decode_l4_eq m m t14 t15 c0 out_5 c2 t13) c_0 l_1
noncomputable def K_onewire_Decode (m : Nat) : KnownF C := mkK (dCons (dS of_Onewire cells_Onewire of_Onewire_ok) (dCons (dRow 33) dNil)) (fun a => onewire_Decode m a.1 a.2.1) w_onewire_Decode
theorem K_onewire_Decode_ok (m : Nat) : KnownAt C Try.prog 20 fun l => (K_onewire_Decode m).run _ l some :=
  mkK_known good fit (Ψ_onewire_Decode_ok m) (keep := keep) (m := m) (d := 1) fun a => onewire_Decode_fun m a.1 a.2.1
/-! ### signalbench/onewire.Expect -/
noncomputable def Ψ_onewire_Expect (m : Nat) : Known C := fun f => match f with
  | 23 => some (K_onewire_Encode m)
  | 20 => some (K_onewire_Decode m)
  | _ => none
theorem Ψ_onewire_Expect_ok (m : Nat) : KnownOk C Try.prog (Ψ_onewire_Expect m) := by
  intro f φ h
  unfold Ψ_onewire_Expect at h
  split at h
  · injection h with h; subst h; exact K_onewire_Encode_ok m
  · injection h with h; subst h; exact K_onewire_Decode_ok m
  · cases h
def w_onewire_Expect (b : List Event × Int) : List (RV C) := [(dRow 33).e b.1, (dInt .i64).e b.2]
noncomputable def Q_onewire_Expect_7 (m : Nat) : St C → (Exit → St C → Option (List (RV C))) → Option (List (RV C)) := fun σ k => codeK Try.prog (Ψ_onewire_Expect m) (callK Try.prog (Ψ_onewire_Expect m) keep m 0) (keep 26) m (subC body26 [.r, .r, .r, .r, .r, .l, .r, .b, .o]) σ k
noncomputable def KL_onewire_Expect_7 (m : Nat) : Exit → St C → Option (List (RV C)) := contK Try.prog (Ψ_onewire_Expect m) (callK Try.prog (Ψ_onewire_Expect m) keep m 0) (keep 26) m body26 [.r, .r, .r, .r, .r, .l, .r, .b, .o] (leaveK Try.prog Try.f26.results.toList (finK Try.prog Try.f26.resultTypes.toList))
noncomputable def L_onewire_Expect_l7 (m n : Nat) (at_9 : Int) (t22 : Int) (t23 : Int) (c0 : Onewire) (in_8 : List Event) (t21 : List Run) : Option (List (RV C)) := iterK (Q_onewire_Expect_7 m) (St.norm (keep 26 7)) n ({ T := [.dead, .dead, .fl (.one (.ptr 0 0)), .dead, .dead, .dead, .dead, .dead, .fl (.one (.sl 1)), .fl (.one (.int .i64 at_9)), .dead, .dead, .dead, .dead, .dead, .dead, .dead, .dead, .dead, .dead, .dead, .fl (.one (.sl 2)), .fl (.one (.int .i64 t22)), .fl (.one (.int .i64 t23))] ++ List.replicate 22 .dead, F := [[]], H := [.box 23 (cells_Onewire c0), .row 33 true in_8, .row 58 true t21] } : St C) (KL_onewire_Expect_7 m)
noncomputable def b_onewire_Expect_l7 {R : Type} (m : Nat) (ret : List Event → Int → Option R) (k_l7 : Int → Int → Int → Onewire → List Event → List Run → Option R) (at_9 : Int) (t22 : Int) (t23 : Int) (c0 : Onewire) (in_8 : List Event) (t21 : List Run) : Option R :=
 bif decide (t23 < t22) then
 bif decide (0 ≤ t23) then
 bif decide (t23 < (t21.length : Int)) then
 bif decide ((in_8.length + 1) * 64 ≤ 140737488355328) then
 k_l7 (IntKind.i64.wrap (at_9 + (t21.getD t23.toNat dflt_Run).Ticks)) t22 (IntKind.i64.wrap (t23 + 1)) c0 (in_8 ++ [Event.mk 1 at_9 (IntKind.i64.wrap (at_9 + (t21.getD t23.toNat dflt_Run).Ticks)) (t21.getD t23.toNat dflt_Run).Level 0 (bs []) 0]) t21
 else
 none
 else
 none
 else
 none
 else
 (onewire_Decode m c0 in_8).bind fun r0 =>
 ret r0 0
theorem L_onewire_Expect_l7_step (m n : Nat) (at_9 : Int) (t22 : Int) (t23 : Int) (c0 : Onewire) (in_8 : List Event) (t21 : List Run) : L_onewire_Expect_l7 m (n + 1) at_9 t22 t23 c0 in_8 t21 = b_onewire_Expect_l7 m (fun x0 x1 => some (w_onewire_Expect (x0, x1))) (fun at_9 t22 t23 c0 in_8 t21 => L_onewire_Expect_l7 m n at_9 t22 t23 c0 in_8 t21) at_9 t22 t23 c0 in_8 t21 := by kernel_rfl
theorem b_onewire_Expect_l7_map (m : Nat) {k_l7 : Int → Int → Int → Onewire → List Event → List Run → Option (List (RV C))} {q_l7 : Int → Int → Int → Onewire → List Event → List Run → Option (List Event × Int)} (h_l7 : ∀ at_9 t22 t23 c0 in_8 t21, k_l7 at_9 t22 t23 c0 in_8 t21 = (q_l7 at_9 t22 t23 c0 in_8 t21).map w_onewire_Expect) (at_9 : Int) (t22 : Int) (t23 : Int) (c0 : Onewire) (in_8 : List Event) (t21 : List Run) : b_onewire_Expect_l7 m (fun x0 x1 => some (w_onewire_Expect (x0, x1))) k_l7 at_9 t22 t23 c0 in_8 t21 = (b_onewire_Expect_l7 m (fun x0 x1 => some (x0, x1)) q_l7 at_9 t22 t23 c0 in_8 t21).map w_onewire_Expect := by
  simp only [b_onewire_Expect_l7, cond_map, bind_map, map_none, map_some, h_l7]
noncomputable def onewire_Expect_l7 (m : Nat) : Nat → Int → Int → Int → Onewire → List Event → List Run → Option (List Event × Int)
  | 0, _, _, _, _, _, _ => none
  | n + 1, at_9, t22, t23, c0, in_8, t21 => b_onewire_Expect_l7 m (fun x0 x1 => some (x0, x1)) (fun at_9 t22 t23 c0 in_8 t21 => onewire_Expect_l7 m n at_9 t22 t23 c0 in_8 t21) at_9 t22 t23 c0 in_8 t21
theorem L_onewire_Expect_l7_eq (m : Nat) : ∀ (n : Nat) (at_9 : Int) (t22 : Int) (t23 : Int) (c0 : Onewire) (in_8 : List Event) (t21 : List Run), L_onewire_Expect_l7 m n at_9 t22 t23 c0 in_8 t21 = (onewire_Expect_l7 m n at_9 t22 t23 c0 in_8 t21).map w_onewire_Expect
  | 0, at_9, t22, t23, c0, in_8, t21 => by kernel_rfl
  | n + 1, at_9, t22, t23, c0, in_8, t21 => by
    rw [L_onewire_Expect_l7_step]
    exact b_onewire_Expect_l7_map m (fun at_9 t22 t23 c0 in_8 t21 => L_onewire_Expect_l7_eq m n at_9 t22 t23 c0 in_8 t21) at_9 t22 t23 c0 in_8 t21
noncomputable def b_onewire_Expect {R : Type} (m : Nat) (ret : List Event → Int → Option R) (k_l7 : Int → Int → Int → Onewire → List Event → List Run → Option R) (c_0 : Onewire) (l_1 : List Item) : Option R :=
 (onewire_Encode m c_0 l_1).bind fun r0 =>
 bif r0.snd != 0 then
 ret [] r0.snd
 else
 k_l7 0 (r0.fst.length : Int) 0 c_0 [] r0.fst
theorem onewire_Expect_pre (m : Nat) (c_0 : Onewire) (l_1 : List Item) : funK Try.prog (Ψ_onewire_Expect m) keep m 1 26 [(dS of_Onewire cells_Onewire of_Onewire_ok).e c_0, (dRow 53).e l_1] = b_onewire_Expect m (fun x0 x1 => some (w_onewire_Expect (x0, x1))) (fun at_9 t22 t23 c0 in_8 t21 => L_onewire_Expect_l7 m m at_9 t22 t23 c0 in_8 t21) c_0 l_1 := by kernel_rfl
theorem b_onewire_Expect_map (m : Nat) {k_l7 : Int → Int → Int → Onewire → List Event → List Run → Option (List (RV C))} {q_l7 : Int → Int → Int → Onewire → List Event → List Run → Option (List Event × Int)} (h_l7 : ∀ at_9 t22 t23 c0 in_8 t21, k_l7 at_9 t22 t23 c0 in_8 t21 = (q_l7 at_9 t22 t23 c0 in_8 t21).map w_onewire_Expect) (c_0 : Onewire) (l_1 : List Item) : b_onewire_Expect m (fun x0 x1 => some (w_onewire_Expect (x0, x1))) k_l7 c_0 l_1 = (b_onewire_Expect m (fun x0 x1 => some (x0, x1)) q_l7 c_0 l_1).map w_onewire_Expect := by
  simp only [b_onewire_Expect, cond_map, bind_map, map_none, map_some, h_l7]
noncomputable def onewire_Expect (m : Nat) (c_0 : Onewire) (l_1 : List Item) : Option (List Event × Int) := b_onewire_Expect m (fun x0 x1 => some (x0, x1)) (fun at_9 t22 t23 c0 in_8 t21 => onewire_Expect_l7 m m at_9 t22 t23 c0 in_8 t21) c_0 l_1
theorem onewire_Expect_fun (m : Nat) (c_0 : Onewire) (l_1 : List Item) : funK Try.prog (Ψ_onewire_Expect m) keep m 1 26 [(dS of_Onewire cells_Onewire of_Onewire_ok).e c_0, (dRow 53).e l_1] = (onewire_Expect m c_0 l_1).map w_onewire_Expect := by
  rw [onewire_Expect_pre]
  exact b_onewire_Expect_map m (fun at_9 t22 t23 c0 in_8 t21 => L_onewire_Expect_l7_eq m m at_9 t22 t23 c0 in_8 t21) c_0 l_1
noncomputable def K_onewire_Expect (m : Nat) : KnownF C := mkK (dCons (dS of_Onewire cells_Onewire of_Onewire_ok) (dCons (dRow 53) dNil)) (fun a => onewire_Expect m a.1 a.2.1) w_onewire_Expect
theorem K_onewire_Expect_ok (m : Nat) : KnownAt C Try.prog 26 fun l => (K_onewire_Expect m).run _ l some :=
  mkK_known good fit (Ψ_onewire_Expect_ok m) (keep := keep) (m := m) (d := 1) fun a => onewire_Expect_fun m a.1 a.2.1
/-! ### signalbench/signalbenchlaw25.events -/
def w_law25_events (b : List Event) : List (RV C) := [(dRow 33).e b]
noncomputable def Q_law25_events_3 (m : Nat) : St C → (Exit → St C → Option (List (RV C))) → Option (List (RV C)) := fun σ k => codeK Try.prog Ψ0 (callK Try.prog Ψ0 keep m 0) (keep 27) m (subC body27 [.r, .r, .l, .r, .b, .o]) σ k
noncomputable def KL_law25_events_3 (m : Nat) : Exit → St C → Option (List (RV C)) := contK Try.prog Ψ0 (callK Try.prog Ψ0 keep m 0) (keep 27) m body27 [.r, .r, .l, .r, .b, .o] (leaveK Try.prog Try.f27.results.toList (finK Try.prog Try.f27.resultTypes.toList))
noncomputable def L_law25_events_l3 (m n : Nat) (at_4 : Int) (i_5 : Int) (l_0 : List Run) (out_3 : List Event) : Option (List (RV C)) := iterK (Q_law25_events_3 m) (St.norm (keep 27 3)) n ({ T := [.fl (.one (.sl 0)), .dead, .dead, .fl (.one (.sl 1)), .fl (.one (.int .i64 at_4)), .fl (.one (.int .i64 i_5))] ++ List.replicate 32 .dead, F := [[]], H := [.row 58 false l_0, .row 33 true out_3] } : St C) (KL_law25_events_3 m)
noncomputable def b_law25_events_l3 {R : Type} (m : Nat) (ret : List Event → Option R) (k_l3 : Int → Int → List Run → List Event → Option R) (at_4 : Int) (i_5 : Int) (l_0 : List Run) (out_3 : List Event) : Option R :=
 bif decide (i_5 < (l_0.length : Int)) then
 bif decide (0 ≤ i_5) then
 bif decide (i_5 < (l_0.length : Int)) then
 bif decide (0 ≤ i_5) then
 bif decide (i_5 < (l_0.length : Int)) then
 bif decide ((out_3.length + 1) * 64 ≤ 140737488355328) then
 bif decide (0 ≤ i_5) then
 bif decide (i_5 < (l_0.length : Int)) then
 k_l3 (IntKind.i64.wrap (at_4 + (l_0.getD i_5.toNat dflt_Run).Ticks)) (IntKind.i64.wrap (i_5 + 1)) l_0 (out_3 ++ [Event.mk 1 at_4 (IntKind.i64.wrap (at_4 + (l_0.getD i_5.toNat dflt_Run).Ticks)) (l_0.getD i_5.toNat dflt_Run).Level 0 (bs []) 0])
 else
 none
 else
 none
 else
 none
 else
 none
 else
 none
 else
 none
 else
 none
 else
 ret out_3
theorem L_law25_events_l3_step (m n : Nat) (at_4 : Int) (i_5 : Int) (l_0 : List Run) (out_3 : List Event) : L_law25_events_l3 m (n + 1) at_4 i_5 l_0 out_3 = b_law25_events_l3 m (fun x0 => some (w_law25_events x0)) (fun at_4 i_5 l_0 out_3 => L_law25_events_l3 m n at_4 i_5 l_0 out_3) at_4 i_5 l_0 out_3 := by kernel_rfl
theorem b_law25_events_l3_map (m : Nat) {k_l3 : Int → Int → List Run → List Event → Option (List (RV C))} {q_l3 : Int → Int → List Run → List Event → Option (List Event)} (h_l3 : ∀ at_4 i_5 l_0 out_3, k_l3 at_4 i_5 l_0 out_3 = (q_l3 at_4 i_5 l_0 out_3).map w_law25_events) (at_4 : Int) (i_5 : Int) (l_0 : List Run) (out_3 : List Event) : b_law25_events_l3 m (fun x0 => some (w_law25_events x0)) k_l3 at_4 i_5 l_0 out_3 = (b_law25_events_l3 m (fun x0 => some x0) q_l3 at_4 i_5 l_0 out_3).map w_law25_events := by
  simp only [b_law25_events_l3, cond_map, bind_map, map_none, map_some, h_l3]
noncomputable def law25_events_l3 (m : Nat) : Nat → Int → Int → List Run → List Event → Option (List Event)
  | 0, _, _, _, _ => none
  | n + 1, at_4, i_5, l_0, out_3 => b_law25_events_l3 m (fun x0 => some x0) (fun at_4 i_5 l_0 out_3 => law25_events_l3 m n at_4 i_5 l_0 out_3) at_4 i_5 l_0 out_3
theorem L_law25_events_l3_eq (m : Nat) : ∀ (n : Nat) (at_4 : Int) (i_5 : Int) (l_0 : List Run) (out_3 : List Event), L_law25_events_l3 m n at_4 i_5 l_0 out_3 = (law25_events_l3 m n at_4 i_5 l_0 out_3).map w_law25_events
  | 0, at_4, i_5, l_0, out_3 => by kernel_rfl
  | n + 1, at_4, i_5, l_0, out_3 => by
    rw [L_law25_events_l3_step]
    exact b_law25_events_l3_map m (fun at_4 i_5 l_0 out_3 => L_law25_events_l3_eq m n at_4 i_5 l_0 out_3) at_4 i_5 l_0 out_3
noncomputable def b_law25_events {R : Type} (m : Nat) (ret : List Event → Option R) (k_l3 : Int → Int → List Run → List Event → Option R) (l_0 : List Run) : Option R :=
 k_l3 0 0 l_0 []
theorem law25_events_pre (m : Nat) (l_0 : List Run) : funK Try.prog Ψ0 keep m 1 27 [(dRow 58).e l_0] = b_law25_events m (fun x0 => some (w_law25_events x0)) (fun at_4 i_5 l_0 out_3 => L_law25_events_l3 m m at_4 i_5 l_0 out_3) l_0 := by kernel_rfl
theorem b_law25_events_map (m : Nat) {k_l3 : Int → Int → List Run → List Event → Option (List (RV C))} {q_l3 : Int → Int → List Run → List Event → Option (List Event)} (h_l3 : ∀ at_4 i_5 l_0 out_3, k_l3 at_4 i_5 l_0 out_3 = (q_l3 at_4 i_5 l_0 out_3).map w_law25_events) (l_0 : List Run) : b_law25_events m (fun x0 => some (w_law25_events x0)) k_l3 l_0 = (b_law25_events m (fun x0 => some x0) q_l3 l_0).map w_law25_events := by
  simp only [b_law25_events, cond_map, bind_map, map_none, map_some, h_l3]
noncomputable def law25_events (m : Nat) (l_0 : List Run) : Option (List Event) := b_law25_events m (fun x0 => some x0) (fun at_4 i_5 l_0 out_3 => law25_events_l3 m m at_4 i_5 l_0 out_3) l_0
theorem law25_events_fun (m : Nat) (l_0 : List Run) : funK Try.prog Ψ0 keep m 1 27 [(dRow 58).e l_0] = (law25_events m l_0).map w_law25_events := by
  rw [law25_events_pre]
  exact b_law25_events_map m (fun at_4 i_5 l_0 out_3 => L_law25_events_l3_eq m m at_4 i_5 l_0 out_3) l_0
noncomputable def K_law25_events (m : Nat) : KnownF C := mkK (dCons (dRow 58) dNil) (fun a => law25_events m a.1) w_law25_events
theorem K_law25_events_ok (m : Nat) : KnownAt C Try.prog 27 fun l => (K_law25_events m).run _ l some :=
  mkK_known good fit Ψ0_ok (keep := keep) (m := m) (d := 1) fun a => law25_events_fun m a.1
/-! ### signalbench/signalbenchlaw25.awake -/
noncomputable def Ψ_law25_awake (m : Nat) : Known C := fun f => match f with
  | 23 => some (K_onewire_Encode m)
  | 26 => some (K_onewire_Expect m)
  | 16 => some (K_onewire_Check m)
  | 27 => some (K_law25_events m)
  | 20 => some (K_onewire_Decode m)
  | _ => none
theorem Ψ_law25_awake_ok (m : Nat) : KnownOk C Try.prog (Ψ_law25_awake m) := by
  intro f φ h
  unfold Ψ_law25_awake at h
  split at h
  · injection h with h; subst h; exact K_onewire_Encode_ok m
  · injection h with h; subst h; exact K_onewire_Expect_ok m
  · injection h with h; subst h; exact K_onewire_Check_ok m
  · injection h with h; subst h; exact K_law25_events_ok m
  · injection h with h; subst h; exact K_onewire_Decode_ok m
  · cases h
def w_law25_awake (b : Bool) : List (RV C) := [dBool.e b]
noncomputable def b_law25_awake {R : Type} (m : Nat) (ret : Bool → Option R) : Option R :=
 (onewire_Encode m (Onewire.mk 1) [Item.mk 0 1 0 (bs []) 0]).bind fun r0 =>
 (onewire_Expect m (Onewire.mk 1) [Item.mk 0 1 0 (bs []) 0, Item.mk 0 0 1 (bs []) 0, Item.mk 0 0 2 (bs []) 0]).bind fun r1 =>
 bif r0.snd != 0 then
 ret false
 else
 bif r1.snd != 0 then
 ret false
 else
 bif (r0.fst.length : Int) != 17 then
 ret false
 else
 bif (r1.fst.length : Int) != 3 then
 ret false
 else
 (law25_events m r0.fst).bind fun r2 =>
 (onewire_Decode m (Onewire.mk 1) r2).bind fun r3 =>
 bif decide (1 < (r0.fst.length : Int)) then
 bif (r0.fst.getD 1 dflt_Run).Level == 0 && ((r0.fst.getD 1 dflt_Run).Ticks == 1 && true) then
 bif decide (3 < (r0.fst.length : Int)) then
 bif (r0.fst.getD 3 dflt_Run).Level == 0 && ((r0.fst.getD 3 dflt_Run).Ticks == 4 && true) then
 bif decide (0 < (r1.fst.length : Int)) then
 bif (r1.fst.getD 0 dflt_Event).Kind == 3 && ((r1.fst.getD 0 dflt_Event).From == 8 && ((r1.fst.getD 0 dflt_Event).To == 54 && ((r1.fst.getD 0 dflt_Event).Value == 1 && ((r1.fst.getD 0 dflt_Event).Aux == 0 && ((r1.fst.getD 0 dflt_Event).Data == bs [] && ((r1.fst.getD 0 dflt_Event).Fault == 0 && true)))))) then
 bif decide (1 < (r1.fst.length : Int)) then
 bif (r1.fst.getD 1 dflt_Event).Kind == 4 && ((r1.fst.getD 1 dflt_Event).From == 56 && ((r1.fst.getD 1 dflt_Event).To == 88 && ((r1.fst.getD 1 dflt_Event).Value == 2 && ((r1.fst.getD 1 dflt_Event).Aux == 0 && ((r1.fst.getD 1 dflt_Event).Data == bs [] && ((r1.fst.getD 1 dflt_Event).Fault == 0 && true)))))) then
 bif decide (2 < (r1.fst.length : Int)) then
 bif (r1.fst.getD 2 dflt_Event).Kind == 4 && ((r1.fst.getD 2 dflt_Event).From == 120 && ((r1.fst.getD 2 dflt_Event).To == 162 && ((r1.fst.getD 2 dflt_Event).Value == 3 && ((r1.fst.getD 2 dflt_Event).Aux == 0 && ((r1.fst.getD 2 dflt_Event).Data == bs [] && ((r1.fst.getD 2 dflt_Event).Fault == 0 && true)))))) then
 bif (r3.length : Int) == 1 then
 bif decide (0 < (r3.length : Int)) then
 bif decide (0 < (r1.fst.length : Int)) then
 ret ((r3.getD 0 dflt_Event).Kind == (r1.fst.getD 0 dflt_Event).Kind && ((r3.getD 0 dflt_Event).From == (r1.fst.getD 0 dflt_Event).From && ((r3.getD 0 dflt_Event).To == (r1.fst.getD 0 dflt_Event).To && ((r3.getD 0 dflt_Event).Value == (r1.fst.getD 0 dflt_Event).Value && ((r3.getD 0 dflt_Event).Aux == (r1.fst.getD 0 dflt_Event).Aux && ((r3.getD 0 dflt_Event).Data == (r1.fst.getD 0 dflt_Event).Data && ((r3.getD 0 dflt_Event).Fault == (r1.fst.getD 0 dflt_Event).Fault && true)))))))
 else
 none
 else
 none
 else
 ret false
 else
 ret false
 else
 none
 else
 ret false
 else
 none
 else
 ret false
 else
 none
 else
 ret false
 else
 none
 else
 ret false
 else
 none
theorem law25_awake_pre (m : Nat) : funK Try.prog (Ψ_law25_awake m) keep m 1 10 [] = b_law25_awake m (fun x0 => some (w_law25_awake x0)) := by kernel_rfl
theorem b_law25_awake_map (m : Nat) : b_law25_awake m (fun x0 => some (w_law25_awake x0)) = (b_law25_awake m (fun x0 => some x0)).map w_law25_awake := by
  simp only [b_law25_awake, cond_map, bind_map, map_none, map_some]
noncomputable def law25_awake (m : Nat) : Option (Bool) := b_law25_awake m (fun x0 => some x0)
theorem law25_awake_fun (m : Nat) : funK Try.prog (Ψ_law25_awake m) keep m 1 10 [] = (law25_awake m).map w_law25_awake := by
  rw [law25_awake_pre]
  exact b_law25_awake_map m
noncomputable def K_law25_awake (m : Nat) : KnownF C := mkK dNil (fun a => law25_awake m) w_law25_awake
theorem K_law25_awake_ok (m : Nat) : KnownAt C Try.prog 10 fun l => (K_law25_awake m).run _ l some :=
  mkK_known good fit (Ψ_law25_awake_ok m) (keep := keep) (m := m) (d := 1) fun a => law25_awake_fun m
/-! ### signalbench/signalbenchref25.Start -/
def w_ref25_Start (b : State) : List (RV C) := [(dS of_State cells_State of_State_ok).e b]
noncomputable def b_ref25_Start {R : Type} (m : Nat) (ret : State → Option R) (c_0 : Onewire) : Option R :=
 ret (State.mk 0 0 0 0 0 0 0 (bs []))
theorem ref25_Start_pre (m : Nat) (c_0 : Onewire) : funK Try.prog Ψ0 keep m 1 12 [(dS of_Onewire cells_Onewire of_Onewire_ok).e c_0] = b_ref25_Start m (fun x0 => some (w_ref25_Start x0)) c_0 := by kernel_rfl
theorem b_ref25_Start_map (m : Nat) (c_0 : Onewire) : b_ref25_Start m (fun x0 => some (w_ref25_Start x0)) c_0 = (b_ref25_Start m (fun x0 => some x0) c_0).map w_ref25_Start := by
  simp only [b_ref25_Start, cond_map, bind_map, map_none, map_some]
noncomputable def ref25_Start (m : Nat) (c_0 : Onewire) : Option (State) := b_ref25_Start m (fun x0 => some x0) c_0
theorem ref25_Start_fun (m : Nat) (c_0 : Onewire) : funK Try.prog Ψ0 keep m 1 12 [(dS of_Onewire cells_Onewire of_Onewire_ok).e c_0] = (ref25_Start m c_0).map w_ref25_Start := by
  rw [ref25_Start_pre]
  exact b_ref25_Start_map m c_0
noncomputable def K_ref25_Start (m : Nat) : KnownF C := mkK (dCons (dS of_Onewire cells_Onewire of_Onewire_ok) dNil) (fun a => ref25_Start m a.1) w_ref25_Start
theorem K_ref25_Start_ok (m : Nat) : KnownAt C Try.prog 12 fun l => (K_ref25_Start m).run _ l some :=
  mkK_known good fit Ψ0_ok (keep := keep) (m := m) (d := 1) fun a => ref25_Start_fun m a.1
/-! ### signalbench/signalbenchref25.Check -/
def w_ref25_Check (b : Int) : List (RV C) := [(dInt .i64).e b]
noncomputable def b_ref25_Check {R : Type} (m : Nat) (ret : Int → Option R) (c_0 : Onewire) : Option R :=
 bif decide (c_0.T < 1) then
 ret 2
 else
 bif decide (c_0.T > 1048576) then
 ret 2
 else
 ret 0
theorem ref25_Check_pre (m : Nat) (c_0 : Onewire) : funK Try.prog Ψ0 keep m 1 17 [(dS of_Onewire cells_Onewire of_Onewire_ok).e c_0] = b_ref25_Check m (fun x0 => some (w_ref25_Check x0)) c_0 := by kernel_rfl
theorem b_ref25_Check_map (m : Nat) (c_0 : Onewire) : b_ref25_Check m (fun x0 => some (w_ref25_Check x0)) c_0 = (b_ref25_Check m (fun x0 => some x0) c_0).map w_ref25_Check := by
  simp only [b_ref25_Check, cond_map, bind_map, map_none, map_some]
noncomputable def ref25_Check (m : Nat) (c_0 : Onewire) : Option (Int) := b_ref25_Check m (fun x0 => some x0) c_0
theorem ref25_Check_fun (m : Nat) (c_0 : Onewire) : funK Try.prog Ψ0 keep m 1 17 [(dS of_Onewire cells_Onewire of_Onewire_ok).e c_0] = (ref25_Check m c_0).map w_ref25_Check := by
  rw [ref25_Check_pre]
  exact b_ref25_Check_map m c_0
noncomputable def K_ref25_Check (m : Nat) : KnownF C := mkK (dCons (dS of_Onewire cells_Onewire of_Onewire_ok) dNil) (fun a => ref25_Check m a.1) w_ref25_Check
theorem K_ref25_Check_ok (m : Nat) : KnownAt C Try.prog 17 fun l => (K_ref25_Check m).run _ l some :=
  mkK_known good fit Ψ0_ok (keep := keep) (m := m) (d := 1) fun a => ref25_Check_fun m a.1
/-! ### signalbench/signalbenchref07.Valid -/
def w_ref07_Valid (b : Bool) : List (RV C) := [dBool.e b]
noncomputable def b_ref07_Valid {R : Type} (m : Nat) (ret : Bool → Option R) (e_0 : Event) : Option R :=
 bif decide (e_0.Kind < 1) then
 ret false
 else
 bif decide (e_0.Kind > 8) then
 ret false
 else
 bif decide (e_0.From < 0) then
 ret false
 else
 bif decide (e_0.From > e_0.To) then
 ret false
 else
 bif decide (e_0.To > 1099511627776) then
 ret false
 else
 bif decide ((e_0.Data.size : Int) > 4096) then
 ret false
 else
 bif decide (e_0.Fault < 0) then
 ret false
 else
 bif decide (e_0.Fault > 12) then
 ret false
 else
 bif decide (e_0.Value ≥ -9007199254740992) then
 bif decide (e_0.Value ≤ 9007199254740992) then
 bif decide (e_0.Aux ≥ -9007199254740992) then
 ret (decide (e_0.Aux ≤ 9007199254740992))
 else
 ret false
 else
 ret false
 else
 ret false
theorem ref07_Valid_pre (m : Nat) (e_0 : Event) : funK Try.prog Ψ0 keep m 1 46 [(dS of_Event cells_Event of_Event_ok).e e_0] = b_ref07_Valid m (fun x0 => some (w_ref07_Valid x0)) e_0 := by kernel_rfl
theorem b_ref07_Valid_map (m : Nat) (e_0 : Event) : b_ref07_Valid m (fun x0 => some (w_ref07_Valid x0)) e_0 = (b_ref07_Valid m (fun x0 => some x0) e_0).map w_ref07_Valid := by
  simp only [b_ref07_Valid, cond_map, bind_map, map_none, map_some]
noncomputable def ref07_Valid (m : Nat) (e_0 : Event) : Option (Bool) := b_ref07_Valid m (fun x0 => some x0) e_0
theorem ref07_Valid_fun (m : Nat) (e_0 : Event) : funK Try.prog Ψ0 keep m 1 46 [(dS of_Event cells_Event of_Event_ok).e e_0] = (ref07_Valid m e_0).map w_ref07_Valid := by
  rw [ref07_Valid_pre]
  exact b_ref07_Valid_map m e_0
noncomputable def K_ref07_Valid (m : Nat) : KnownF C := mkK (dCons (dS of_Event cells_Event of_Event_ok) dNil) (fun a => ref07_Valid m a.1) w_ref07_Valid
theorem K_ref07_Valid_ok (m : Nat) : KnownAt C Try.prog 46 fun l => (K_ref07_Valid m).run _ l some :=
  mkK_known good fit Ψ0_ok (keep := keep) (m := m) (d := 1) fun a => ref07_Valid_fun m a.1
/-! ### signalbench/signalbenchref25.accepts -/
noncomputable def Ψ_ref25_accepts (m : Nat) : Known C := fun f => match f with
  | 46 => some (K_ref07_Valid m)
  | _ => none
theorem Ψ_ref25_accepts_ok (m : Nat) : KnownOk C Try.prog (Ψ_ref25_accepts m) := by
  intro f φ h
  unfold Ψ_ref25_accepts at h
  split at h
  · injection h with h; subst h; exact K_ref07_Valid_ok m
  · cases h
def w_ref25_accepts (b : Bool) : List (RV C) := [dBool.e b]
noncomputable def b_ref25_accepts {R : Type} (m : Nat) (ret : Bool → Option R) (s_0 : State) (e_1 : Event) : Option R :=
 (ref07_Valid m e_1).bind fun r0 =>
 bif !r0 then
 ret false
 else
 bif e_1.Kind != 1 then
 ret false
 else
 bif e_1.Fault != 0 then
 ret false
 else
 bif decide (e_1.From ≥ e_1.To) then
 ret false
 else
 bif decide (e_1.Value < 0) then
 ret false
 else
 bif decide (e_1.Value > 1) then
 ret false
 else
 bif s_0.Phase == 0 then
 ret true
 else
 ret (e_1.From == s_0.At)
theorem ref25_accepts_pre (m : Nat) (s_0 : State) (e_1 : Event) : funK Try.prog (Ψ_ref25_accepts m) keep m 1 35 [(dS of_State cells_State of_State_ok).e s_0, (dS of_Event cells_Event of_Event_ok).e e_1] = b_ref25_accepts m (fun x0 => some (w_ref25_accepts x0)) s_0 e_1 := by kernel_rfl
theorem b_ref25_accepts_map (m : Nat) (s_0 : State) (e_1 : Event) : b_ref25_accepts m (fun x0 => some (w_ref25_accepts x0)) s_0 e_1 = (b_ref25_accepts m (fun x0 => some x0) s_0 e_1).map w_ref25_accepts := by
  simp only [b_ref25_accepts, cond_map, bind_map, map_none, map_some]
noncomputable def ref25_accepts (m : Nat) (s_0 : State) (e_1 : Event) : Option (Bool) := b_ref25_accepts m (fun x0 => some x0) s_0 e_1
theorem ref25_accepts_fun (m : Nat) (s_0 : State) (e_1 : Event) : funK Try.prog (Ψ_ref25_accepts m) keep m 1 35 [(dS of_State cells_State of_State_ok).e s_0, (dS of_Event cells_Event of_Event_ok).e e_1] = (ref25_accepts m s_0 e_1).map w_ref25_accepts := by
  rw [ref25_accepts_pre]
  exact b_ref25_accepts_map m s_0 e_1
noncomputable def K_ref25_accepts (m : Nat) : KnownF C := mkK (dCons (dS of_State cells_State of_State_ok) (dCons (dS of_Event cells_Event of_Event_ok) dNil)) (fun a => ref25_accepts m a.1 a.2.1) w_ref25_accepts
theorem K_ref25_accepts_ok (m : Nat) : KnownAt C Try.prog 35 fun l => (K_ref25_accepts m).run _ l some :=
  mkK_known good fit (Ψ_ref25_accepts_ok m) (keep := keep) (m := m) (d := 1) fun a => ref25_accepts_fun m a.1 a.2.1
/-! ### signalbench/signalbenchref25.broken -/
def w_ref25_broken (b : Event) : List (RV C) := [(dS of_Event cells_Event of_Event_ok).e b]
noncomputable def b_ref25_broken {R : Type} (m : Nat) (ret : Event → Option R) (fault_0 : Int) (from_1 : Int) (to_2 : Int) : Option R :=
 ret (Event.mk 3 from_1 to_2 0 0 (bs []) fault_0)
theorem ref25_broken_pre (m : Nat) (fault_0 : Int) (from_1 : Int) (to_2 : Int) : funK Try.prog Ψ0 keep m 1 38 [(dInt .i64).e fault_0, (dInt .i64).e from_1, (dInt .i64).e to_2] = b_ref25_broken m (fun x0 => some (w_ref25_broken x0)) fault_0 from_1 to_2 := by kernel_rfl
theorem b_ref25_broken_map (m : Nat) (fault_0 : Int) (from_1 : Int) (to_2 : Int) : b_ref25_broken m (fun x0 => some (w_ref25_broken x0)) fault_0 from_1 to_2 = (b_ref25_broken m (fun x0 => some x0) fault_0 from_1 to_2).map w_ref25_broken := by
  simp only [b_ref25_broken, cond_map, bind_map, map_none, map_some]
noncomputable def ref25_broken (m : Nat) (fault_0 : Int) (from_1 : Int) (to_2 : Int) : Option (Event) := b_ref25_broken m (fun x0 => some x0) fault_0 from_1 to_2
theorem ref25_broken_fun (m : Nat) (fault_0 : Int) (from_1 : Int) (to_2 : Int) : funK Try.prog Ψ0 keep m 1 38 [(dInt .i64).e fault_0, (dInt .i64).e from_1, (dInt .i64).e to_2] = (ref25_broken m fault_0 from_1 to_2).map w_ref25_broken := by
  rw [ref25_broken_pre]
  exact b_ref25_broken_map m fault_0 from_1 to_2
noncomputable def K_ref25_broken (m : Nat) : KnownF C := mkK (dCons (dInt .i64) (dCons (dInt .i64) (dCons (dInt .i64) dNil))) (fun a => ref25_broken m a.1 a.2.1 a.2.2.1) w_ref25_broken
theorem K_ref25_broken_ok (m : Nat) : KnownAt C Try.prog 38 fun l => (K_ref25_broken m).run _ l some :=
  mkK_known good fit Ψ0_ok (keep := keep) (m := m) (d := 1) fun a => ref25_broken_fun m a.1 a.2.1 a.2.2.1
/-! ### signalbench/signalbenchref25.plain -/
noncomputable def Ψ_ref25_plain (m : Nat) : Known C := fun f => match f with
  | 38 => some (K_ref25_broken m)
  | _ => none
theorem Ψ_ref25_plain_ok (m : Nat) : KnownOk C Try.prog (Ψ_ref25_plain m) := by
  intro f φ h
  unfold Ψ_ref25_plain at h
  split at h
  · injection h with h; subst h; exact K_ref25_broken_ok m
  · cases h
def w_ref25_plain (b : State × List Event) : List (RV C) := [(dS of_State cells_State of_State_ok).e b.1, (dRow 33).e b.2]
noncomputable def b_ref25_plain {R : Type} (m : Nat) (ret : State → List Event → Option R) (c_0 : Onewire) (s_1 : State) (a_2 : Int) (b_3 : Int) : Option R :=
 bif decide (s_1.Count > 0) then
 bif decide (IntKind.i64.wrap (b_3 - a_2) ≥ IntKind.i64.wrap (24 * c_0.T)) then
 bif decide (s_1.Count > 0) then
 ret { s_1 with Count := 0, Acc := 0, Aux := b_3, Prev := a_2 } ([] ++ [Event.mk 3 s_1.Prev a_2 0 0 (bs []) 7])
 else
 ret { s_1 with Count := 0, Acc := 0, Aux := b_3, Prev := a_2 } []
 else
 bif decide (IntKind.i64.wrap (b_3 - a_2) ≥ IntKind.i64.wrap (16 * c_0.T)) then
 ret { s_1 with Count := 0, Acc := 0 } ([Event.mk 3 s_1.Prev b_3 0 0 (bs []) 6])
 else
 bif decide (IntKind.i64.wrap (b_3 - a_2) < IntKind.i64.wrap (2 * c_0.T)) then
 bif decide (s_1.Count < 0) then
 none
 else
 bif decide (IntKind.i64.wrap (s_1.Count + 1) < 8) then
 ret { s_1 with Count := IntKind.i64.wrap (s_1.Count + 1), Acc := IntKind.i64.wrap (s_1.Acc + IntKind.i64.wrap (1 * 2 ^ min s_1.Count.toNat 64)) } []
 else
 ret { s_1 with Count := 0, Acc := 0 } ([Event.mk 3 s_1.Prev b_3 (IntKind.i64.wrap (s_1.Acc + IntKind.i64.wrap (1 * 2 ^ min s_1.Count.toNat 64))) 0 (bs []) 0])
 else
 bif decide (IntKind.i64.wrap (s_1.Count + 1) < 8) then
 ret { s_1 with Count := IntKind.i64.wrap (s_1.Count + 1) } []
 else
 ret { s_1 with Count := 0, Acc := 0 } ([Event.mk 3 s_1.Prev b_3 s_1.Acc 0 (bs []) 0])
 else
 bif decide (IntKind.i64.wrap (b_3 - a_2) ≥ IntKind.i64.wrap (24 * c_0.T)) then
 bif decide (s_1.Count > 0) then
 ret { s_1 with Count := 0, Acc := 0, Aux := b_3, Prev := a_2 } ([] ++ [Event.mk 3 a_2 a_2 0 0 (bs []) 7])
 else
 ret { s_1 with Count := 0, Acc := 0, Aux := b_3, Prev := a_2 } []
 else
 bif decide (IntKind.i64.wrap (b_3 - a_2) ≥ IntKind.i64.wrap (16 * c_0.T)) then
 ret { s_1 with Count := 0, Acc := 0 } ([Event.mk 3 a_2 b_3 0 0 (bs []) 6])
 else
 bif decide (IntKind.i64.wrap (b_3 - a_2) < IntKind.i64.wrap (2 * c_0.T)) then
 bif decide (s_1.Count < 0) then
 none
 else
 bif decide (IntKind.i64.wrap (s_1.Count + 1) < 8) then
 ret { s_1 with Count := IntKind.i64.wrap (s_1.Count + 1), Acc := IntKind.i64.wrap (s_1.Acc + IntKind.i64.wrap (1 * 2 ^ min s_1.Count.toNat 64)), Prev := a_2 } []
 else
 ret { s_1 with Count := 0, Acc := 0, Prev := a_2 } ([Event.mk 3 a_2 b_3 (IntKind.i64.wrap (s_1.Acc + IntKind.i64.wrap (1 * 2 ^ min s_1.Count.toNat 64))) 0 (bs []) 0])
 else
 bif decide (IntKind.i64.wrap (s_1.Count + 1) < 8) then
 ret { s_1 with Count := IntKind.i64.wrap (s_1.Count + 1), Prev := a_2 } []
 else
 ret { s_1 with Count := 0, Acc := 0, Prev := a_2 } ([Event.mk 3 a_2 b_3 s_1.Acc 0 (bs []) 0])
theorem ref25_plain_pre (m : Nat) (c_0 : Onewire) (s_1 : State) (a_2 : Int) (b_3 : Int) : funK Try.prog (Ψ_ref25_plain m) keep m 1 49 [(dS of_Onewire cells_Onewire of_Onewire_ok).e c_0, (dS of_State cells_State of_State_ok).e s_1, (dInt .i64).e a_2, (dInt .i64).e b_3] = b_ref25_plain m (fun x0 x1 => some (w_ref25_plain (x0, x1))) c_0 s_1 a_2 b_3 := by kernel_rfl
theorem b_ref25_plain_map (m : Nat) (c_0 : Onewire) (s_1 : State) (a_2 : Int) (b_3 : Int) : b_ref25_plain m (fun x0 x1 => some (w_ref25_plain (x0, x1))) c_0 s_1 a_2 b_3 = (b_ref25_plain m (fun x0 x1 => some (x0, x1)) c_0 s_1 a_2 b_3).map w_ref25_plain := by
  simp only [b_ref25_plain, cond_map, bind_map, map_none, map_some]
noncomputable def ref25_plain (m : Nat) (c_0 : Onewire) (s_1 : State) (a_2 : Int) (b_3 : Int) : Option (State × List Event) := b_ref25_plain m (fun x0 x1 => some (x0, x1)) c_0 s_1 a_2 b_3
theorem ref25_plain_fun (m : Nat) (c_0 : Onewire) (s_1 : State) (a_2 : Int) (b_3 : Int) : funK Try.prog (Ψ_ref25_plain m) keep m 1 49 [(dS of_Onewire cells_Onewire of_Onewire_ok).e c_0, (dS of_State cells_State of_State_ok).e s_1, (dInt .i64).e a_2, (dInt .i64).e b_3] = (ref25_plain m c_0 s_1 a_2 b_3).map w_ref25_plain := by
  rw [ref25_plain_pre]
  exact b_ref25_plain_map m c_0 s_1 a_2 b_3
noncomputable def K_ref25_plain (m : Nat) : KnownF C := mkK (dCons (dS of_Onewire cells_Onewire of_Onewire_ok) (dCons (dS of_State cells_State of_State_ok) (dCons (dInt .i64) (dCons (dInt .i64) dNil)))) (fun a => ref25_plain m a.1 a.2.1 a.2.2.1 a.2.2.2.1) w_ref25_plain
theorem K_ref25_plain_ok (m : Nat) : KnownAt C Try.prog 49 fun l => (K_ref25_plain m).run _ l some :=
  mkK_known good fit (Ψ_ref25_plain_ok m) (keep := keep) (m := m) (d := 1) fun a => ref25_plain_fun m a.1 a.2.1 a.2.2.1 a.2.2.2.1
/-! ### signalbench/signalbenchref25.mark -/
def w_ref25_mark (b : Event) : List (RV C) := [(dS of_Event cells_Event of_Event_ok).e b]
noncomputable def b_ref25_mark {R : Type} (m : Nat) (ret : Event → Option R) (value_0 : Int) (from_1 : Int) (to_2 : Int) : Option R :=
 ret (Event.mk 4 from_1 to_2 value_0 0 (bs []) 0)
theorem ref25_mark_pre (m : Nat) (value_0 : Int) (from_1 : Int) (to_2 : Int) : funK Try.prog Ψ0 keep m 1 37 [(dInt .i64).e value_0, (dInt .i64).e from_1, (dInt .i64).e to_2] = b_ref25_mark m (fun x0 => some (w_ref25_mark x0)) value_0 from_1 to_2 := by kernel_rfl
theorem b_ref25_mark_map (m : Nat) (value_0 : Int) (from_1 : Int) (to_2 : Int) : b_ref25_mark m (fun x0 => some (w_ref25_mark x0)) value_0 from_1 to_2 = (b_ref25_mark m (fun x0 => some x0) value_0 from_1 to_2).map w_ref25_mark := by
  simp only [b_ref25_mark, cond_map, bind_map, map_none, map_some]
noncomputable def ref25_mark (m : Nat) (value_0 : Int) (from_1 : Int) (to_2 : Int) : Option (Event) := b_ref25_mark m (fun x0 => some x0) value_0 from_1 to_2
theorem ref25_mark_fun (m : Nat) (value_0 : Int) (from_1 : Int) (to_2 : Int) : funK Try.prog Ψ0 keep m 1 37 [(dInt .i64).e value_0, (dInt .i64).e from_1, (dInt .i64).e to_2] = (ref25_mark m value_0 from_1 to_2).map w_ref25_mark := by
  rw [ref25_mark_pre]
  exact b_ref25_mark_map m value_0 from_1 to_2
noncomputable def K_ref25_mark (m : Nat) : KnownF C := mkK (dCons (dInt .i64) (dCons (dInt .i64) (dCons (dInt .i64) dNil))) (fun a => ref25_mark m a.1 a.2.1 a.2.2.1) w_ref25_mark
theorem K_ref25_mark_ok (m : Nat) : KnownAt C Try.prog 37 fun l => (K_ref25_mark m).run _ l some :=
  mkK_known good fit Ψ0_ok (keep := keep) (m := m) (d := 1) fun a => ref25_mark_fun m a.1 a.2.1 a.2.2.1
/-! ### signalbench/signalbenchref25.pulse -/
noncomputable def Ψ_ref25_pulse (m : Nat) : Known C := fun f => match f with
  | 49 => some (K_ref25_plain m)
  | 37 => some (K_ref25_mark m)
  | _ => none
theorem Ψ_ref25_pulse_ok (m : Nat) : KnownOk C Try.prog (Ψ_ref25_pulse m) := by
  intro f φ h
  unfold Ψ_ref25_pulse at h
  split at h
  · injection h with h; subst h; exact K_ref25_plain_ok m
  · injection h with h; subst h; exact K_ref25_mark_ok m
  · cases h
def w_ref25_pulse (b : State × List Event) : List (RV C) := [(dS of_State cells_State of_State_ok).e b.1, (dRow 33).e b.2]
noncomputable def b_ref25_pulse {R : Type} (m : Nat) (ret : State → List Event → Option R) (c_0 : Onewire) (s_1 : State) (a_2 : Int) (b_3 : Int) : Option R :=
 bif s_1.Aux == 0 then
 ((ref25_plain m c_0 s_1 a_2 b_3).bind fun r0 =>
 ret r0.fst r0.snd)
 else
 bif decide (IntKind.i64.wrap (b_3 - a_2) ≥ IntKind.i64.wrap (4 * c_0.T)) then
 (bif decide (IntKind.i64.wrap (b_3 - a_2) ≤ IntKind.i64.wrap (20 * c_0.T)) then
 ret { s_1 with Aux := 0 } ([Event.mk 4 s_1.Prev b_3 3 0 (bs []) 0])
 else
 (ref25_plain m c_0 (State.mk s_1.Phase s_1.At s_1.From s_1.Count s_1.Acc 0 s_1.Prev s_1.Data) a_2 b_3).bind fun r1 =>
 bif decide ((1 + r1.snd.length) * 64 ≤ 140737488355328) then
 ret r1.fst ([Event.mk 4 s_1.Prev s_1.Aux 2 0 (bs []) 0] ++ r1.snd)
 else
 none)
 else
 (ref25_plain m c_0 (State.mk s_1.Phase s_1.At s_1.From s_1.Count s_1.Acc 0 s_1.Prev s_1.Data) a_2 b_3).bind fun r2 =>
 bif decide ((1 + r2.snd.length) * 64 ≤ 140737488355328) then
 ret r2.fst ([Event.mk 4 s_1.Prev s_1.Aux 2 0 (bs []) 0] ++ r2.snd)
 else
 none
theorem ref25_pulse_pre (m : Nat) (c_0 : Onewire) (s_1 : State) (a_2 : Int) (b_3 : Int) : funK Try.prog (Ψ_ref25_pulse m) keep m 1 36 [(dS of_Onewire cells_Onewire of_Onewire_ok).e c_0, (dS of_State cells_State of_State_ok).e s_1, (dInt .i64).e a_2, (dInt .i64).e b_3] = b_ref25_pulse m (fun x0 x1 => some (w_ref25_pulse (x0, x1))) c_0 s_1 a_2 b_3 := by kernel_rfl
theorem b_ref25_pulse_map (m : Nat) (c_0 : Onewire) (s_1 : State) (a_2 : Int) (b_3 : Int) : b_ref25_pulse m (fun x0 x1 => some (w_ref25_pulse (x0, x1))) c_0 s_1 a_2 b_3 = (b_ref25_pulse m (fun x0 x1 => some (x0, x1)) c_0 s_1 a_2 b_3).map w_ref25_pulse := by
  simp only [b_ref25_pulse, cond_map, bind_map, map_none, map_some]
noncomputable def ref25_pulse (m : Nat) (c_0 : Onewire) (s_1 : State) (a_2 : Int) (b_3 : Int) : Option (State × List Event) := b_ref25_pulse m (fun x0 x1 => some (x0, x1)) c_0 s_1 a_2 b_3
theorem ref25_pulse_fun (m : Nat) (c_0 : Onewire) (s_1 : State) (a_2 : Int) (b_3 : Int) : funK Try.prog (Ψ_ref25_pulse m) keep m 1 36 [(dS of_Onewire cells_Onewire of_Onewire_ok).e c_0, (dS of_State cells_State of_State_ok).e s_1, (dInt .i64).e a_2, (dInt .i64).e b_3] = (ref25_pulse m c_0 s_1 a_2 b_3).map w_ref25_pulse := by
  rw [ref25_pulse_pre]
  exact b_ref25_pulse_map m c_0 s_1 a_2 b_3
noncomputable def K_ref25_pulse (m : Nat) : KnownF C := mkK (dCons (dS of_Onewire cells_Onewire of_Onewire_ok) (dCons (dS of_State cells_State of_State_ok) (dCons (dInt .i64) (dCons (dInt .i64) dNil)))) (fun a => ref25_pulse m a.1 a.2.1 a.2.2.1 a.2.2.2.1) w_ref25_pulse
theorem K_ref25_pulse_ok (m : Nat) : KnownAt C Try.prog 36 fun l => (K_ref25_pulse m).run _ l some :=
  mkK_known good fit (Ψ_ref25_pulse_ok m) (keep := keep) (m := m) (d := 1) fun a => ref25_pulse_fun m a.1 a.2.1 a.2.2.1 a.2.2.2.1
/-! ### signalbench/signalbenchref25.Step -/
noncomputable def Ψ_ref25_Step (m : Nat) : Known C := fun f => match f with
  | 17 => some (K_ref25_Check m)
  | 35 => some (K_ref25_accepts m)
  | 36 => some (K_ref25_pulse m)
  | 37 => some (K_ref25_mark m)
  | _ => none
theorem Ψ_ref25_Step_ok (m : Nat) : KnownOk C Try.prog (Ψ_ref25_Step m) := by
  intro f φ h
  unfold Ψ_ref25_Step at h
  split at h
  · injection h with h; subst h; exact K_ref25_Check_ok m
  · injection h with h; subst h; exact K_ref25_accepts_ok m
  · injection h with h; subst h; exact K_ref25_pulse_ok m
  · injection h with h; subst h; exact K_ref25_mark_ok m
  · cases h
def w_ref25_Step (b : State × List Event) : List (RV C) := [(dS of_State cells_State of_State_ok).e b.1, (dRow 33).e b.2]
noncomputable def b_ref25_Step {R : Type} (m : Nat) (ret : State → List Event → Option R) (c_0 : Onewire) (s_1 : State) (e_2 : Event) : Option R :=
 (ref25_Check m c_0).bind fun r0 =>
 bif r0 != 0 then
 ret s_1 []
 else
 (ref25_accepts m s_1 e_2).bind fun r1 =>
 bif !r1 then
 ret s_1 []
 else
 bif e_2.Value == 0 then
 bif s_1.Phase != 2 then
 ret { s_1 with Phase := 2, At := e_2.To, From := e_2.From } []
 else
 ret { s_1 with Phase := 2, At := e_2.To } []
 else
 bif s_1.Phase == 2 then
 ((ref25_pulse m c_0 s_1 s_1.From e_2.From).bind fun r2 =>
 bif decide (r2.fst.Aux > 0) then
 bif decide (IntKind.i64.wrap (r2.fst.Aux + IntKind.i64.wrap (8 * c_0.T)) < e_2.To) then
 bif decide ((r2.snd.length + 1) * 64 ≤ 140737488355328) then
 ret (State.mk 1 e_2.To r2.fst.From r2.fst.Count r2.fst.Acc 0 r2.fst.Prev r2.fst.Data) (r2.snd ++ [Event.mk 4 r2.fst.Prev r2.fst.Aux 2 0 (bs []) 0])
 else
 none
 else
 ret (State.mk 1 e_2.To r2.fst.From r2.fst.Count r2.fst.Acc r2.fst.Aux r2.fst.Prev r2.fst.Data) r2.snd
 else
 ret (State.mk 1 e_2.To r2.fst.From r2.fst.Count r2.fst.Acc r2.fst.Aux r2.fst.Prev r2.fst.Data) r2.snd)
 else
 bif decide (s_1.Aux > 0) then
 bif decide (IntKind.i64.wrap (s_1.Aux + IntKind.i64.wrap (8 * c_0.T)) < e_2.To) then
 ret { s_1 with Phase := 1, At := e_2.To, Aux := 0 } ([] ++ [Event.mk 4 s_1.Prev s_1.Aux 2 0 (bs []) 0])
 else
 ret { s_1 with Phase := 1, At := e_2.To } []
 else
 ret { s_1 with Phase := 1, At := e_2.To } []
theorem ref25_Step_pre (m : Nat) (c_0 : Onewire) (s_1 : State) (e_2 : Event) : funK Try.prog (Ψ_ref25_Step m) keep m 1 14 [(dS of_Onewire cells_Onewire of_Onewire_ok).e c_0, (dS of_State cells_State of_State_ok).e s_1, (dS of_Event cells_Event of_Event_ok).e e_2] = b_ref25_Step m (fun x0 x1 => some (w_ref25_Step (x0, x1))) c_0 s_1 e_2 := by kernel_rfl
theorem b_ref25_Step_map (m : Nat) (c_0 : Onewire) (s_1 : State) (e_2 : Event) : b_ref25_Step m (fun x0 x1 => some (w_ref25_Step (x0, x1))) c_0 s_1 e_2 = (b_ref25_Step m (fun x0 x1 => some (x0, x1)) c_0 s_1 e_2).map w_ref25_Step := by
  simp only [b_ref25_Step, cond_map, bind_map, map_none, map_some]
noncomputable def ref25_Step (m : Nat) (c_0 : Onewire) (s_1 : State) (e_2 : Event) : Option (State × List Event) := b_ref25_Step m (fun x0 x1 => some (x0, x1)) c_0 s_1 e_2
theorem ref25_Step_fun (m : Nat) (c_0 : Onewire) (s_1 : State) (e_2 : Event) : funK Try.prog (Ψ_ref25_Step m) keep m 1 14 [(dS of_Onewire cells_Onewire of_Onewire_ok).e c_0, (dS of_State cells_State of_State_ok).e s_1, (dS of_Event cells_Event of_Event_ok).e e_2] = (ref25_Step m c_0 s_1 e_2).map w_ref25_Step := by
  rw [ref25_Step_pre]
  exact b_ref25_Step_map m c_0 s_1 e_2
noncomputable def K_ref25_Step (m : Nat) : KnownF C := mkK (dCons (dS of_Onewire cells_Onewire of_Onewire_ok) (dCons (dS of_State cells_State of_State_ok) (dCons (dS of_Event cells_Event of_Event_ok) dNil))) (fun a => ref25_Step m a.1 a.2.1 a.2.2.1) w_ref25_Step
theorem K_ref25_Step_ok (m : Nat) : KnownAt C Try.prog 14 fun l => (K_ref25_Step m).run _ l some :=
  mkK_known good fit (Ψ_ref25_Step_ok m) (keep := keep) (m := m) (d := 1) fun a => ref25_Step_fun m a.1 a.2.1 a.2.2.1
/-! ### signalbench/signalbenchref07.Same -/
def w_ref07_Same (b : Bool) : List (RV C) := [dBool.e b]
noncomputable def Q_ref07_Same_4 (m : Nat) : St C → (Exit → St C → Option (List (RV C))) → Option (List (RV C)) := fun σ k => codeK Try.prog Ψ0 (callK Try.prog Ψ0 keep m 0) (keep 15) m (subC body15 [.r, .r, .l, .r, .b, .o]) σ k
noncomputable def KL_ref07_Same_4 (m : Nat) : Exit → St C → Option (List (RV C)) := contK Try.prog Ψ0 (callK Try.prog Ψ0 keep m 0) (keep 15) m body15 [.r, .r, .l, .r, .b, .o] (leaveK Try.prog Try.f15.results.toList (finK Try.prog Try.f15.resultTypes.toList))
noncomputable def L_ref07_Same_l4 (m n : Nat) (i_5 : Int) (a_0 : List Event) (b_1 : List Event) : Option (List (RV C)) := iterK (Q_ref07_Same_4 m) (St.norm (keep 15 4)) n ({ T := [.fl (.one (.sl 0)), .fl (.one (.sl 1)), .dead, .dead, .dead, .fl (.one (.int .i64 i_5))] ++ List.replicate 20 .dead, F := [[]], H := [.row 33 false a_0, .row 33 false b_1] } : St C) (KL_ref07_Same_4 m)
noncomputable def b_ref07_Same_l4 {R : Type} (m : Nat) (ret : Bool → Option R) (k_l4 : Int → List Event → List Event → Option R) (i_5 : Int) (a_0 : List Event) (b_1 : List Event) : Option R :=
 bif decide (i_5 < (a_0.length : Int)) then
 bif decide (0 ≤ i_5) then
 bif decide (i_5 < (a_0.length : Int)) then
 bif decide (0 ≤ i_5) then
 bif decide (i_5 < (b_1.length : Int)) then
 bif !((a_0.getD i_5.toNat dflt_Event).Kind == (b_1.getD i_5.toNat dflt_Event).Kind && ((a_0.getD i_5.toNat dflt_Event).From == (b_1.getD i_5.toNat dflt_Event).From && ((a_0.getD i_5.toNat dflt_Event).To == (b_1.getD i_5.toNat dflt_Event).To && ((a_0.getD i_5.toNat dflt_Event).Value == (b_1.getD i_5.toNat dflt_Event).Value && ((a_0.getD i_5.toNat dflt_Event).Aux == (b_1.getD i_5.toNat dflt_Event).Aux && ((a_0.getD i_5.toNat dflt_Event).Data == (b_1.getD i_5.toNat dflt_Event).Data && ((a_0.getD i_5.toNat dflt_Event).Fault == (b_1.getD i_5.toNat dflt_Event).Fault && true))))))) then
 ret false
 else
 k_l4 (IntKind.i64.wrap (i_5 + 1)) a_0 b_1
 else
 none
 else
 none
 else
 none
 else
 none
 else
 ret true
theorem L_ref07_Same_l4_step (m n : Nat) (i_5 : Int) (a_0 : List Event) (b_1 : List Event) : L_ref07_Same_l4 m (n + 1) i_5 a_0 b_1 = b_ref07_Same_l4 m (fun x0 => some (w_ref07_Same x0)) (fun i_5 a_0 b_1 => L_ref07_Same_l4 m n i_5 a_0 b_1) i_5 a_0 b_1 := by kernel_rfl
theorem b_ref07_Same_l4_map (m : Nat) {k_l4 : Int → List Event → List Event → Option (List (RV C))} {q_l4 : Int → List Event → List Event → Option (Bool)} (h_l4 : ∀ i_5 a_0 b_1, k_l4 i_5 a_0 b_1 = (q_l4 i_5 a_0 b_1).map w_ref07_Same) (i_5 : Int) (a_0 : List Event) (b_1 : List Event) : b_ref07_Same_l4 m (fun x0 => some (w_ref07_Same x0)) k_l4 i_5 a_0 b_1 = (b_ref07_Same_l4 m (fun x0 => some x0) q_l4 i_5 a_0 b_1).map w_ref07_Same := by
  simp only [b_ref07_Same_l4, cond_map, bind_map, map_none, map_some, h_l4]
noncomputable def ref07_Same_l4 (m : Nat) : Nat → Int → List Event → List Event → Option (Bool)
  | 0, _, _, _ => none
  | n + 1, i_5, a_0, b_1 => b_ref07_Same_l4 m (fun x0 => some x0) (fun i_5 a_0 b_1 => ref07_Same_l4 m n i_5 a_0 b_1) i_5 a_0 b_1
theorem L_ref07_Same_l4_eq (m : Nat) : ∀ (n : Nat) (i_5 : Int) (a_0 : List Event) (b_1 : List Event), L_ref07_Same_l4 m n i_5 a_0 b_1 = (ref07_Same_l4 m n i_5 a_0 b_1).map w_ref07_Same
  | 0, i_5, a_0, b_1 => by kernel_rfl
  | n + 1, i_5, a_0, b_1 => by
    rw [L_ref07_Same_l4_step]
    exact b_ref07_Same_l4_map m (fun i_5 a_0 b_1 => L_ref07_Same_l4_eq m n i_5 a_0 b_1) i_5 a_0 b_1
noncomputable def b_ref07_Same {R : Type} (m : Nat) (ret : Bool → Option R) (k_l4 : Int → List Event → List Event → Option R) (a_0 : List Event) (b_1 : List Event) : Option R :=
 bif (a_0.length : Int) != (b_1.length : Int) then
 ret false
 else
 k_l4 0 a_0 b_1
theorem ref07_Same_pre (m : Nat) (a_0 : List Event) (b_1 : List Event) : funK Try.prog Ψ0 keep m 1 15 [(dRow 33).e a_0, (dRow 33).e b_1] = b_ref07_Same m (fun x0 => some (w_ref07_Same x0)) (fun i_5 a_0 b_1 => L_ref07_Same_l4 m m i_5 a_0 b_1) a_0 b_1 := by kernel_rfl
theorem b_ref07_Same_map (m : Nat) {k_l4 : Int → List Event → List Event → Option (List (RV C))} {q_l4 : Int → List Event → List Event → Option (Bool)} (h_l4 : ∀ i_5 a_0 b_1, k_l4 i_5 a_0 b_1 = (q_l4 i_5 a_0 b_1).map w_ref07_Same) (a_0 : List Event) (b_1 : List Event) : b_ref07_Same m (fun x0 => some (w_ref07_Same x0)) k_l4 a_0 b_1 = (b_ref07_Same m (fun x0 => some x0) q_l4 a_0 b_1).map w_ref07_Same := by
  simp only [b_ref07_Same, cond_map, bind_map, map_none, map_some, h_l4]
noncomputable def ref07_Same (m : Nat) (a_0 : List Event) (b_1 : List Event) : Option (Bool) := b_ref07_Same m (fun x0 => some x0) (fun i_5 a_0 b_1 => ref07_Same_l4 m m i_5 a_0 b_1) a_0 b_1
theorem ref07_Same_fun (m : Nat) (a_0 : List Event) (b_1 : List Event) : funK Try.prog Ψ0 keep m 1 15 [(dRow 33).e a_0, (dRow 33).e b_1] = (ref07_Same m a_0 b_1).map w_ref07_Same := by
  rw [ref07_Same_pre]
  exact b_ref07_Same_map m (fun i_5 a_0 b_1 => L_ref07_Same_l4_eq m m i_5 a_0 b_1) a_0 b_1
noncomputable def K_ref07_Same (m : Nat) : KnownF C := mkK (dCons (dRow 33) (dCons (dRow 33) dNil)) (fun a => ref07_Same m a.1 a.2.1) w_ref07_Same
theorem K_ref07_Same_ok (m : Nat) : KnownAt C Try.prog 15 fun l => (K_ref07_Same m).run _ l some :=
  mkK_known good fit Ψ0_ok (keep := keep) (m := m) (d := 1) fun a => ref07_Same_fun m a.1 a.2.1
/-! ### signalbench/signalbenchref25.End -/
noncomputable def Ψ_ref25_End (m : Nat) : Known C := fun f => match f with
  | 17 => some (K_ref25_Check m)
  | 37 => some (K_ref25_mark m)
  | 38 => some (K_ref25_broken m)
  | _ => none
theorem Ψ_ref25_End_ok (m : Nat) : KnownOk C Try.prog (Ψ_ref25_End m) := by
  intro f φ h
  unfold Ψ_ref25_End at h
  split at h
  · injection h with h; subst h; exact K_ref25_Check_ok m
  · injection h with h; subst h; exact K_ref25_mark_ok m
  · injection h with h; subst h; exact K_ref25_broken_ok m
  · cases h
def w_ref25_End (b : List Event) : List (RV C) := [(dRow 33).e b]
noncomputable def b_ref25_End {R : Type} (m : Nat) (ret : List Event → Option R) (c_0 : Onewire) (s_1 : State) : Option R :=
 (ref25_Check m c_0).bind fun r0 =>
 bif r0 != 0 then
 ret []
 else
 bif decide (s_1.Aux > 0) then
 ret ([Event.mk 4 s_1.Prev s_1.Aux 2 0 (bs []) 0])
 else
 bif decide (s_1.Count > 0) then
 ret ([Event.mk 3 s_1.Prev s_1.At 0 0 (bs []) 7])
 else
 ret []
theorem ref25_End_pre (m : Nat) (c_0 : Onewire) (s_1 : State) : funK Try.prog (Ψ_ref25_End m) keep m 1 19 [(dS of_Onewire cells_Onewire of_Onewire_ok).e c_0, (dS of_State cells_State of_State_ok).e s_1] = b_ref25_End m (fun x0 => some (w_ref25_End x0)) c_0 s_1 := by kernel_rfl
theorem b_ref25_End_map (m : Nat) (c_0 : Onewire) (s_1 : State) : b_ref25_End m (fun x0 => some (w_ref25_End x0)) c_0 s_1 = (b_ref25_End m (fun x0 => some x0) c_0 s_1).map w_ref25_End := by
  simp only [b_ref25_End, cond_map, bind_map, map_none, map_some]
noncomputable def ref25_End (m : Nat) (c_0 : Onewire) (s_1 : State) : Option (List Event) := b_ref25_End m (fun x0 => some x0) c_0 s_1
theorem ref25_End_fun (m : Nat) (c_0 : Onewire) (s_1 : State) : funK Try.prog (Ψ_ref25_End m) keep m 1 19 [(dS of_Onewire cells_Onewire of_Onewire_ok).e c_0, (dS of_State cells_State of_State_ok).e s_1] = (ref25_End m c_0 s_1).map w_ref25_End := by
  rw [ref25_End_pre]
  exact b_ref25_End_map m c_0 s_1
noncomputable def K_ref25_End (m : Nat) : KnownF C := mkK (dCons (dS of_Onewire cells_Onewire of_Onewire_ok) (dCons (dS of_State cells_State of_State_ok) dNil)) (fun a => ref25_End m a.1 a.2.1) w_ref25_End
theorem K_ref25_End_ok (m : Nat) : KnownAt C Try.prog 19 fun l => (K_ref25_End m).run _ l some :=
  mkK_known good fit (Ψ_ref25_End_ok m) (keep := keep) (m := m) (d := 1) fun a => ref25_End_fun m a.1 a.2.1
/-! ### signalbench/signalbenchref25.Decode -/
noncomputable def Ψ_ref25_Decode (m : Nat) : Known C := fun f => match f with
  | 12 => some (K_ref25_Start m)
  | 14 => some (K_ref25_Step m)
  | 19 => some (K_ref25_End m)
  | _ => none
theorem Ψ_ref25_Decode_ok (m : Nat) : KnownOk C Try.prog (Ψ_ref25_Decode m) := by
  intro f φ h
  unfold Ψ_ref25_Decode at h
  split at h
  · injection h with h; subst h; exact K_ref25_Start_ok m
  · injection h with h; subst h; exact K_ref25_Step_ok m
  · injection h with h; subst h; exact K_ref25_End_ok m
  · cases h
def w_ref25_Decode (b : List Event) : List (RV C) := [(dRow 33).e b]
noncomputable def Q_ref25_Decode_3 (m : Nat) : St C → (Exit → St C → Option (List (RV C))) → Option (List (RV C)) := fun σ k => codeK Try.prog (Ψ_ref25_Decode m) (callK Try.prog (Ψ_ref25_Decode m) keep m 0) (keep 21) m (subC body21 [.r, .r, .l, .r, .b, .o]) σ k
noncomputable def KL_ref25_Decode_3 (m : Nat) : Exit → St C → Option (List (RV C)) := contK Try.prog (Ψ_ref25_Decode m) (callK Try.prog (Ψ_ref25_Decode m) keep m 0) (keep 21) m body21 [.r, .r, .l, .r, .b, .o] (leaveK Try.prog Try.f21.results.toList (finK Try.prog Try.f21.resultTypes.toList))
noncomputable def L_ref25_Decode_l3 (m n : Nat) (i_7 : Int) (l_1 : List Event) (c1 : Onewire) (c2 : State) (out_6 : List Event) : Option (List (RV C)) := iterK (Q_ref25_Decode_3 m) (St.norm (keep 21 3)) n ({ T := [.dead, .fl (.one (.sl 0)), .fl (.one (.ptr 1 0)), .dead, .dead, .fl (.one (.ptr 2 0)), .fl (.one (.sl 3)), .fl (.one (.int .i64 i_7))] ++ List.replicate 30 .dead, F := [[]], H := [.row 33 false l_1, .box 23 (cells_Onewire c1), .box 28 (cells_State c2), .row 33 true out_6] } : St C) (KL_ref25_Decode_3 m)
noncomputable def b_ref25_Decode_l3 {R : Type} (m : Nat) (ret : List Event → Option R) (k_l3 : Int → List Event → Onewire → State → List Event → Option R) (i_7 : Int) (l_1 : List Event) (c1 : Onewire) (c2 : State) (out_6 : List Event) : Option R :=
 bif decide (i_7 < (l_1.length : Int)) then
 (bif decide (0 ≤ i_7) then
 (bif decide (i_7 < (l_1.length : Int)) then
 ((ref25_Step m c1 c2 (l_1.getD i_7.toNat dflt_Event)).bind fun r0 =>
 bif decide ((out_6.length + r0.snd.length) * 64 ≤ 140737488355328) then
 k_l3 (IntKind.i64.wrap (i_7 + 1)) l_1 c1 r0.fst (out_6 ++ r0.snd)
 else
 none)
 else
 none)
 else
 none)
 else
 (ref25_End m c1 c2).bind fun r1 =>
 bif decide ((out_6.length + r1.length) * 64 ≤ 140737488355328) then
 ret (out_6 ++ r1)
 else
 none
theorem L_ref25_Decode_l3_step (m n : Nat) (i_7 : Int) (l_1 : List Event) (c1 : Onewire) (c2 : State) (out_6 : List Event) : L_ref25_Decode_l3 m (n + 1) i_7 l_1 c1 c2 out_6 = b_ref25_Decode_l3 m (fun x0 => some (w_ref25_Decode x0)) (fun i_7 l_1 c1 c2 out_6 => L_ref25_Decode_l3 m n i_7 l_1 c1 c2 out_6) i_7 l_1 c1 c2 out_6 := by kernel_rfl
theorem b_ref25_Decode_l3_map (m : Nat) {k_l3 : Int → List Event → Onewire → State → List Event → Option (List (RV C))} {q_l3 : Int → List Event → Onewire → State → List Event → Option (List Event)} (h_l3 : ∀ i_7 l_1 c1 c2 out_6, k_l3 i_7 l_1 c1 c2 out_6 = (q_l3 i_7 l_1 c1 c2 out_6).map w_ref25_Decode) (i_7 : Int) (l_1 : List Event) (c1 : Onewire) (c2 : State) (out_6 : List Event) : b_ref25_Decode_l3 m (fun x0 => some (w_ref25_Decode x0)) k_l3 i_7 l_1 c1 c2 out_6 = (b_ref25_Decode_l3 m (fun x0 => some x0) q_l3 i_7 l_1 c1 c2 out_6).map w_ref25_Decode := by
  simp only [b_ref25_Decode_l3, cond_map, bind_map, map_none, map_some, h_l3]
noncomputable def ref25_Decode_l3 (m : Nat) : Nat → Int → List Event → Onewire → State → List Event → Option (List Event)
  | 0, _, _, _, _, _ => none
  | n + 1, i_7, l_1, c1, c2, out_6 => b_ref25_Decode_l3 m (fun x0 => some x0) (fun i_7 l_1 c1 c2 out_6 => ref25_Decode_l3 m n i_7 l_1 c1 c2 out_6) i_7 l_1 c1 c2 out_6
theorem L_ref25_Decode_l3_eq (m : Nat) : ∀ (n : Nat) (i_7 : Int) (l_1 : List Event) (c1 : Onewire) (c2 : State) (out_6 : List Event), L_ref25_Decode_l3 m n i_7 l_1 c1 c2 out_6 = (ref25_Decode_l3 m n i_7 l_1 c1 c2 out_6).map w_ref25_Decode
  | 0, i_7, l_1, c1, c2, out_6 => by kernel_rfl
  | n + 1, i_7, l_1, c1, c2, out_6 => by
    rw [L_ref25_Decode_l3_step]
    exact b_ref25_Decode_l3_map m (fun i_7 l_1 c1 c2 out_6 => L_ref25_Decode_l3_eq m n i_7 l_1 c1 c2 out_6) i_7 l_1 c1 c2 out_6
noncomputable def b_ref25_Decode {R : Type} (m : Nat) (ret : List Event → Option R) (k_l3 : Int → List Event → Onewire → State → List Event → Option R) (c_0 : Onewire) (l_1 : List Event) : Option R :=
 k_l3 0 l_1 c_0 (State.mk 0 0 0 0 0 0 0 (bs [])) []
theorem ref25_Decode_pre (m : Nat) (c_0 : Onewire) (l_1 : List Event) : funK Try.prog (Ψ_ref25_Decode m) keep m 1 21 [(dS of_Onewire cells_Onewire of_Onewire_ok).e c_0, (dRow 33).e l_1] = b_ref25_Decode m (fun x0 => some (w_ref25_Decode x0)) (fun i_7 l_1 c1 c2 out_6 => L_ref25_Decode_l3 m m i_7 l_1 c1 c2 out_6) c_0 l_1 := by kernel_rfl
theorem b_ref25_Decode_map (m : Nat) {k_l3 : Int → List Event → Onewire → State → List Event → Option (List (RV C))} {q_l3 : Int → List Event → Onewire → State → List Event → Option (List Event)} (h_l3 : ∀ i_7 l_1 c1 c2 out_6, k_l3 i_7 l_1 c1 c2 out_6 = (q_l3 i_7 l_1 c1 c2 out_6).map w_ref25_Decode) (c_0 : Onewire) (l_1 : List Event) : b_ref25_Decode m (fun x0 => some (w_ref25_Decode x0)) k_l3 c_0 l_1 = (b_ref25_Decode m (fun x0 => some x0) q_l3 c_0 l_1).map w_ref25_Decode := by
  simp only [b_ref25_Decode, cond_map, bind_map, map_none, map_some, h_l3]
noncomputable def ref25_Decode (m : Nat) (c_0 : Onewire) (l_1 : List Event) : Option (List Event) := b_ref25_Decode m (fun x0 => some x0) (fun i_7 l_1 c1 c2 out_6 => ref25_Decode_l3 m m i_7 l_1 c1 c2 out_6) c_0 l_1
theorem ref25_Decode_fun (m : Nat) (c_0 : Onewire) (l_1 : List Event) : funK Try.prog (Ψ_ref25_Decode m) keep m 1 21 [(dS of_Onewire cells_Onewire of_Onewire_ok).e c_0, (dRow 33).e l_1] = (ref25_Decode m c_0 l_1).map w_ref25_Decode := by
  rw [ref25_Decode_pre]
  exact b_ref25_Decode_map m (fun i_7 l_1 c1 c2 out_6 => L_ref25_Decode_l3_eq m m i_7 l_1 c1 c2 out_6) c_0 l_1
noncomputable def K_ref25_Decode (m : Nat) : KnownF C := mkK (dCons (dS of_Onewire cells_Onewire of_Onewire_ok) (dCons (dRow 33) dNil)) (fun a => ref25_Decode m a.1 a.2.1) w_ref25_Decode
theorem K_ref25_Decode_ok (m : Nat) : KnownAt C Try.prog 21 fun l => (K_ref25_Decode m).run _ l some :=
  mkK_known good fit (Ψ_ref25_Decode_ok m) (keep := keep) (m := m) (d := 1) fun a => ref25_Decode_fun m a.1 a.2.1
/-! ### signalbench/signalbenchlaw25.OnewireDecodes -/
noncomputable def Ψ_law25_OnewireDecodes (m : Nat) : Known C := fun f => match f with
  | 9 => some (K_law25_small m)
  | 10 => some (K_law25_awake m)
  | 11 => some (K_onewire_Start m)
  | 12 => some (K_ref25_Start m)
  | 13 => some (K_onewire_Step m)
  | 14 => some (K_ref25_Step m)
  | 15 => some (K_ref07_Same m)
  | 16 => some (K_onewire_Check m)
  | 17 => some (K_ref25_Check m)
  | 18 => some (K_onewire_End m)
  | 19 => some (K_ref25_End m)
  | 20 => some (K_onewire_Decode m)
  | 21 => some (K_ref25_Decode m)
  | _ => none
theorem Ψ_law25_OnewireDecodes_ok (m : Nat) : KnownOk C Try.prog (Ψ_law25_OnewireDecodes m) := by
  intro f φ h
  unfold Ψ_law25_OnewireDecodes at h
  split at h
  · injection h with h; subst h; exact K_law25_small_ok m
  · injection h with h; subst h; exact K_law25_awake_ok m
  · injection h with h; subst h; exact K_onewire_Start_ok m
  · injection h with h; subst h; exact K_ref25_Start_ok m
  · injection h with h; subst h; exact K_onewire_Step_ok m
  · injection h with h; subst h; exact K_ref25_Step_ok m
  · injection h with h; subst h; exact K_ref07_Same_ok m
  · injection h with h; subst h; exact K_onewire_Check_ok m
  · injection h with h; subst h; exact K_ref25_Check_ok m
  · injection h with h; subst h; exact K_onewire_End_ok m
  · injection h with h; subst h; exact K_ref25_End_ok m
  · injection h with h; subst h; exact K_onewire_Decode_ok m
  · injection h with h; subst h; exact K_ref25_Decode_ok m
  · cases h
def w_law25_OnewireDecodes (b : Bool) : List (RV C) := [dBool.e b]
noncomputable def Q_law25_OnewireDecodes_5 (m : Nat) : St C → (Exit → St C → Option (List (RV C))) → Option (List (RV C)) := fun σ k => codeK Try.prog (Ψ_law25_OnewireDecodes m) (callK Try.prog (Ψ_law25_OnewireDecodes m) keep m 0) (keep 3) m (subC body3 [.r, .r, .r, .l, .r, .b, .o]) σ k
noncomputable def KL_law25_OnewireDecodes_5 (m : Nat) : Exit → St C → Option (List (RV C)) := contK Try.prog (Ψ_law25_OnewireDecodes m) (callK Try.prog (Ψ_law25_OnewireDecodes m) keep m 0) (keep 3) m body3 [.r, .r, .r, .l, .r, .b, .o] (leaveK Try.prog Try.f3.results.toList (finK Try.prog Try.f3.resultTypes.toList))
noncomputable def L_law25_OnewireDecodes_l5 (m n : Nat) (i_7 : Int) (l_1 : List Event) (c1 : Onewire) (c2 : State) (c3 : State) : Option (List (RV C)) := iterK (Q_law25_OnewireDecodes_5 m) (St.norm (keep 3 5)) n ({ T := [.dead, .fl (.one (.sl 0)), .fl (.one (.ptr 1 0)), .dead, .dead, .fl (.one (.ptr 2 0)), .fl (.one (.ptr 3 0)), .fl (.one (.int .i64 i_7))] ++ List.replicate 70 .dead, F := [[]], H := [.row 33 false l_1, .box 23 (cells_Onewire c1), .box 28 (cells_State c2), .box 28 (cells_State c3)] } : St C) (KL_law25_OnewireDecodes_5 m)
noncomputable def b_law25_OnewireDecodes_l5 {R : Type} (m : Nat) (ret : Bool → Option R) (k_l5 : Int → List Event → Onewire → State → State → Option R) (i_7 : Int) (l_1 : List Event) (c1 : Onewire) (c2 : State) (c3 : State) : Option R :=
 bif decide (i_7 < (l_1.length : Int)) then
 (bif decide (0 ≤ i_7) then
 (bif decide (i_7 < (l_1.length : Int)) then
 ((onewire_Step m c1 c2 (l_1.getD i_7.toNat dflt_Event)).bind fun r0 =>
 bif decide (0 ≤ i_7) then
 (bif decide (i_7 < (l_1.length : Int)) then
 ((ref25_Step m c1 c3 (l_1.getD i_7.toNat dflt_Event)).bind fun r1 =>
 (ref07_Same m r0.snd r1.snd).bind fun r2 =>
 bif !r2 then
 ret false
 else
 k_l5 (IntKind.i64.wrap (i_7 + 1)) l_1 c1 r0.fst r1.fst)
 else
 none)
 else
 none)
 else
 none)
 else
 none)
 else
 (onewire_Check m c1).bind fun r3 =>
 (ref25_Check m c1).bind fun r4 =>
 bif r3 == r4 then
 ((onewire_End m c1 c2).bind fun r5 =>
 (ref25_End m c1 c3).bind fun r6 =>
 (ref07_Same m r5 r6).bind fun r7 =>
 bif r7 then
 ((onewire_Decode m c1 l_1).bind fun r8 =>
 (ref25_Decode m c1 l_1).bind fun r9 =>
 (ref07_Same m r8 r9).bind fun r10 =>
 bif r10 then
 ((law25_awake m).bind fun r11 =>
 ret r11)
 else
 ret false)
 else
 ret false)
 else
 ret false
theorem L_law25_OnewireDecodes_l5_step (m n : Nat) (i_7 : Int) (l_1 : List Event) (c1 : Onewire) (c2 : State) (c3 : State) : L_law25_OnewireDecodes_l5 m (n + 1) i_7 l_1 c1 c2 c3 = b_law25_OnewireDecodes_l5 m (fun x0 => some (w_law25_OnewireDecodes x0)) (fun i_7 l_1 c1 c2 c3 => L_law25_OnewireDecodes_l5 m n i_7 l_1 c1 c2 c3) i_7 l_1 c1 c2 c3 := by kernel_rfl
theorem b_law25_OnewireDecodes_l5_map (m : Nat) {k_l5 : Int → List Event → Onewire → State → State → Option (List (RV C))} {q_l5 : Int → List Event → Onewire → State → State → Option (Bool)} (h_l5 : ∀ i_7 l_1 c1 c2 c3, k_l5 i_7 l_1 c1 c2 c3 = (q_l5 i_7 l_1 c1 c2 c3).map w_law25_OnewireDecodes) (i_7 : Int) (l_1 : List Event) (c1 : Onewire) (c2 : State) (c3 : State) : b_law25_OnewireDecodes_l5 m (fun x0 => some (w_law25_OnewireDecodes x0)) k_l5 i_7 l_1 c1 c2 c3 = (b_law25_OnewireDecodes_l5 m (fun x0 => some x0) q_l5 i_7 l_1 c1 c2 c3).map w_law25_OnewireDecodes := by
  simp only [b_law25_OnewireDecodes_l5, cond_map, bind_map, map_none, map_some, h_l5]
noncomputable def law25_OnewireDecodes_l5 (m : Nat) : Nat → Int → List Event → Onewire → State → State → Option (Bool)
  | 0, _, _, _, _, _ => none
  | n + 1, i_7, l_1, c1, c2, c3 => b_law25_OnewireDecodes_l5 m (fun x0 => some x0) (fun i_7 l_1 c1 c2 c3 => law25_OnewireDecodes_l5 m n i_7 l_1 c1 c2 c3) i_7 l_1 c1 c2 c3
theorem L_law25_OnewireDecodes_l5_eq (m : Nat) : ∀ (n : Nat) (i_7 : Int) (l_1 : List Event) (c1 : Onewire) (c2 : State) (c3 : State), L_law25_OnewireDecodes_l5 m n i_7 l_1 c1 c2 c3 = (law25_OnewireDecodes_l5 m n i_7 l_1 c1 c2 c3).map w_law25_OnewireDecodes
  | 0, i_7, l_1, c1, c2, c3 => by kernel_rfl
  | n + 1, i_7, l_1, c1, c2, c3 => by
    rw [L_law25_OnewireDecodes_l5_step]
    exact b_law25_OnewireDecodes_l5_map m (fun i_7 l_1 c1 c2 c3 => L_law25_OnewireDecodes_l5_eq m n i_7 l_1 c1 c2 c3) i_7 l_1 c1 c2 c3
noncomputable def b_law25_OnewireDecodes {R : Type} (m : Nat) (ret : Bool → Option R) (k_l5 : Int → List Event → Onewire → State → State → Option R) (c_0 : Onewire) (l_1 : List Event) : Option R :=
 (law25_small m l_1).bind fun r0 =>
 bif !r0 then
 ((law25_awake m).bind fun r1 =>
 ret r1)
 else
 k_l5 0 l_1 c_0 (State.mk 0 0 0 0 0 0 0 (bs [])) (State.mk 0 0 0 0 0 0 0 (bs []))
theorem law25_OnewireDecodes_pre (m : Nat) (c_0 : Onewire) (l_1 : List Event) : funK Try.prog (Ψ_law25_OnewireDecodes m) keep m 1 3 [(dS of_Onewire cells_Onewire of_Onewire_ok).e c_0, (dRow 33).e l_1] = b_law25_OnewireDecodes m (fun x0 => some (w_law25_OnewireDecodes x0)) (fun i_7 l_1 c1 c2 c3 => L_law25_OnewireDecodes_l5 m m i_7 l_1 c1 c2 c3) c_0 l_1 := by kernel_rfl
theorem b_law25_OnewireDecodes_map (m : Nat) {k_l5 : Int → List Event → Onewire → State → State → Option (List (RV C))} {q_l5 : Int → List Event → Onewire → State → State → Option (Bool)} (h_l5 : ∀ i_7 l_1 c1 c2 c3, k_l5 i_7 l_1 c1 c2 c3 = (q_l5 i_7 l_1 c1 c2 c3).map w_law25_OnewireDecodes) (c_0 : Onewire) (l_1 : List Event) : b_law25_OnewireDecodes m (fun x0 => some (w_law25_OnewireDecodes x0)) k_l5 c_0 l_1 = (b_law25_OnewireDecodes m (fun x0 => some x0) q_l5 c_0 l_1).map w_law25_OnewireDecodes := by
  simp only [b_law25_OnewireDecodes, cond_map, bind_map, map_none, map_some, h_l5]
noncomputable def law25_OnewireDecodes (m : Nat) (c_0 : Onewire) (l_1 : List Event) : Option (Bool) := b_law25_OnewireDecodes m (fun x0 => some x0) (fun i_7 l_1 c1 c2 c3 => law25_OnewireDecodes_l5 m m i_7 l_1 c1 c2 c3) c_0 l_1
theorem law25_OnewireDecodes_fun (m : Nat) (c_0 : Onewire) (l_1 : List Event) : funK Try.prog (Ψ_law25_OnewireDecodes m) keep m 1 3 [(dS of_Onewire cells_Onewire of_Onewire_ok).e c_0, (dRow 33).e l_1] = (law25_OnewireDecodes m c_0 l_1).map w_law25_OnewireDecodes := by
  rw [law25_OnewireDecodes_pre]
  exact b_law25_OnewireDecodes_map m (fun i_7 l_1 c1 c2 c3 => L_law25_OnewireDecodes_l5_eq m m i_7 l_1 c1 c2 c3) c_0 l_1
noncomputable def K_law25_OnewireDecodes (m : Nat) : KnownF C := mkK (dCons (dS of_Onewire cells_Onewire of_Onewire_ok) (dCons (dRow 33) dNil)) (fun a => law25_OnewireDecodes m a.1 a.2.1) w_law25_OnewireDecodes
theorem K_law25_OnewireDecodes_ok (m : Nat) : KnownAt C Try.prog 3 fun l => (K_law25_OnewireDecodes m).run _ l some :=
  mkK_known good fit (Ψ_law25_OnewireDecodes_ok m) (keep := keep) (m := m) (d := 1) fun a => law25_OnewireDecodes_fun m a.1 a.2.1
/-! ### signalbench/signalbenchlaw25.tiny -/
def w_law25_tiny (b : Bool) : List (RV C) := [dBool.e b]
noncomputable def Q_law25_tiny_4 (m : Nat) : St C → (Exit → St C → Option (List (RV C))) → Option (List (RV C)) := fun σ k => codeK Try.prog Ψ0 (callK Try.prog Ψ0 keep m 0) (keep 22) m (subC body22 [.r, .r, .l, .r, .b, .o]) σ k
noncomputable def KL_law25_tiny_4 (m : Nat) : Exit → St C → Option (List (RV C)) := contK Try.prog Ψ0 (callK Try.prog Ψ0 keep m 0) (keep 22) m body22 [.r, .r, .l, .r, .b, .o] (leaveK Try.prog Try.f22.results.toList (finK Try.prog Try.f22.resultTypes.toList))
noncomputable def L_law25_tiny_l4 (m n : Nat) (i_3 : Int) (l_0 : List Item) : Option (List (RV C)) := iterK (Q_law25_tiny_4 m) (St.norm (keep 22 4)) n ({ T := [.fl (.one (.sl 0)), .dead, .dead, .fl (.one (.int .i64 i_3))] ++ List.replicate 16 .dead, F := [[]], H := [.row 53 false l_0] } : St C) (KL_law25_tiny_4 m)
noncomputable def b_law25_tiny_l4 {R : Type} (m : Nat) (ret : Bool → Option R) (k_l4 : Int → List Item → Option R) (i_3 : Int) (l_0 : List Item) : Option R :=
 bif decide (i_3 < (l_0.length : Int)) then
 bif decide (0 ≤ i_3) then
 bif decide (i_3 < (l_0.length : Int)) then
 bif decide (((l_0.getD i_3.toNat dflt_Item).Data.size : Int) > 20) then
 ret false
 else
 k_l4 (IntKind.i64.wrap (i_3 + 1)) l_0
 else
 none
 else
 none
 else
 ret true
theorem L_law25_tiny_l4_step (m n : Nat) (i_3 : Int) (l_0 : List Item) : L_law25_tiny_l4 m (n + 1) i_3 l_0 = b_law25_tiny_l4 m (fun x0 => some (w_law25_tiny x0)) (fun i_3 l_0 => L_law25_tiny_l4 m n i_3 l_0) i_3 l_0 := by kernel_rfl
theorem b_law25_tiny_l4_map (m : Nat) {k_l4 : Int → List Item → Option (List (RV C))} {q_l4 : Int → List Item → Option (Bool)} (h_l4 : ∀ i_3 l_0, k_l4 i_3 l_0 = (q_l4 i_3 l_0).map w_law25_tiny) (i_3 : Int) (l_0 : List Item) : b_law25_tiny_l4 m (fun x0 => some (w_law25_tiny x0)) k_l4 i_3 l_0 = (b_law25_tiny_l4 m (fun x0 => some x0) q_l4 i_3 l_0).map w_law25_tiny := by
  simp only [b_law25_tiny_l4, cond_map, bind_map, map_none, map_some, h_l4]
noncomputable def law25_tiny_l4 (m : Nat) : Nat → Int → List Item → Option (Bool)
  | 0, _, _ => none
  | n + 1, i_3, l_0 => b_law25_tiny_l4 m (fun x0 => some x0) (fun i_3 l_0 => law25_tiny_l4 m n i_3 l_0) i_3 l_0
theorem L_law25_tiny_l4_eq (m : Nat) : ∀ (n : Nat) (i_3 : Int) (l_0 : List Item), L_law25_tiny_l4 m n i_3 l_0 = (law25_tiny_l4 m n i_3 l_0).map w_law25_tiny
  | 0, i_3, l_0 => by kernel_rfl
  | n + 1, i_3, l_0 => by
    rw [L_law25_tiny_l4_step]
    exact b_law25_tiny_l4_map m (fun i_3 l_0 => L_law25_tiny_l4_eq m n i_3 l_0) i_3 l_0
noncomputable def b_law25_tiny {R : Type} (m : Nat) (ret : Bool → Option R) (k_l4 : Int → List Item → Option R) (l_0 : List Item) : Option R :=
 bif decide ((l_0.length : Int) > 12) then
 ret false
 else
 k_l4 0 l_0
theorem law25_tiny_pre (m : Nat) (l_0 : List Item) : funK Try.prog Ψ0 keep m 1 22 [(dRow 53).e l_0] = b_law25_tiny m (fun x0 => some (w_law25_tiny x0)) (fun i_3 l_0 => L_law25_tiny_l4 m m i_3 l_0) l_0 := by kernel_rfl
theorem b_law25_tiny_map (m : Nat) {k_l4 : Int → List Item → Option (List (RV C))} {q_l4 : Int → List Item → Option (Bool)} (h_l4 : ∀ i_3 l_0, k_l4 i_3 l_0 = (q_l4 i_3 l_0).map w_law25_tiny) (l_0 : List Item) : b_law25_tiny m (fun x0 => some (w_law25_tiny x0)) k_l4 l_0 = (b_law25_tiny m (fun x0 => some x0) q_l4 l_0).map w_law25_tiny := by
  simp only [b_law25_tiny, cond_map, bind_map, map_none, map_some, h_l4]
noncomputable def law25_tiny (m : Nat) (l_0 : List Item) : Option (Bool) := b_law25_tiny m (fun x0 => some x0) (fun i_3 l_0 => law25_tiny_l4 m m i_3 l_0) l_0
theorem law25_tiny_fun (m : Nat) (l_0 : List Item) : funK Try.prog Ψ0 keep m 1 22 [(dRow 53).e l_0] = (law25_tiny m l_0).map w_law25_tiny := by
  rw [law25_tiny_pre]
  exact b_law25_tiny_map m (fun i_3 l_0 => L_law25_tiny_l4_eq m m i_3 l_0) l_0
noncomputable def K_law25_tiny (m : Nat) : KnownF C := mkK (dCons (dRow 53) dNil) (fun a => law25_tiny m a.1) w_law25_tiny
theorem K_law25_tiny_ok (m : Nat) : KnownAt C Try.prog 22 fun l => (K_law25_tiny m).run _ l some :=
  mkK_known good fit Ψ0_ok (keep := keep) (m := m) (d := 1) fun a => law25_tiny_fun m a.1
/-! ### signalbench/signalbenchref25.add -/
def w_ref25_add (b : List Run) : List (RV C) := [(dRow 58).e b]
noncomputable def b_ref25_add {R : Type} (m : Nat) (ret : List Run → Option R) (l_0 : List Run) (level_1 : Int) (ticks_2 : Int) : Option R :=
 bif ticks_2 == 0 then
 ret l_0
 else
 bif decide (IntKind.i64.wrap ((l_0.length : Int) - 1) ≥ 0) then
 bif decide (0 ≤ IntKind.i64.wrap ((l_0.length : Int) - 1)) then
 bif decide (IntKind.i64.wrap ((l_0.length : Int) - 1) < (l_0.length : Int)) then
 bif (l_0.getD (IntKind.i64.wrap ((l_0.length : Int) - 1)).toNat dflt_Run).Level == level_1 then
 bif decide (0 ≤ IntKind.i64.wrap ((l_0.length : Int) - 1)) then
 bif decide (IntKind.i64.wrap ((l_0.length : Int) - 1) ≤ (l_0.length : Int)) then
 bif decide (0 ≤ IntKind.i64.wrap ((l_0.length : Int) - 1)) then
 bif decide ((0 + (List.drop 0 (List.take (IntKind.i64.wrap ((l_0.length : Int) - 1)).toNat l_0)).length) * 16 ≤ 140737488355328) then
 bif decide (0 ≤ IntKind.i64.wrap ((l_0.length : Int) - 1)) then
 bif decide (IntKind.i64.wrap ((l_0.length : Int) - 1) < (l_0.length : Int)) then
 bif decide ((([] ++ List.drop 0 (List.take (IntKind.i64.wrap ((l_0.length : Int) - 1)).toNat l_0)).length + 1) * 16 ≤ 140737488355328) then
 ret ([] ++ List.drop 0 (List.take (IntKind.i64.wrap ((l_0.length : Int) - 1)).toNat l_0) ++ [Run.mk level_1 (IntKind.i64.wrap ((l_0.getD (IntKind.i64.wrap ((l_0.length : Int) - 1)).toNat dflt_Run).Ticks + ticks_2))])
 else
 none
 else
 none
 else
 none
 else
 none
 else
 none
 else
 none
 else
 none
 else
 bif decide ((l_0.length + 1) * 16 ≤ 140737488355328) then
 ret (l_0 ++ [Run.mk level_1 ticks_2])
 else
 none
 else
 none
 else
 none
 else
 bif decide ((l_0.length + 1) * 16 ≤ 140737488355328) then
 ret (l_0 ++ [Run.mk level_1 ticks_2])
 else
 none
theorem ref25_add_pre (m : Nat) (l_0 : List Run) (level_1 : Int) (ticks_2 : Int) : funE Try.prog Ψ0 keep m 1 42 [.row, .no, .no] [(dRow 58).e l_0, (dInt .i64).e level_1, (dInt .i64).e ticks_2] = b_ref25_add m (fun x0 => some (w_ref25_add x0)) l_0 level_1 ticks_2 := by kernel_rfl
theorem b_ref25_add_map (m : Nat) (l_0 : List Run) (level_1 : Int) (ticks_2 : Int) : b_ref25_add m (fun x0 => some (w_ref25_add x0)) l_0 level_1 ticks_2 = (b_ref25_add m (fun x0 => some x0) l_0 level_1 ticks_2).map w_ref25_add := by
  simp only [b_ref25_add, cond_map, bind_map, map_none, map_some]
noncomputable def ref25_add (m : Nat) (l_0 : List Run) (level_1 : Int) (ticks_2 : Int) : Option (List Run) := b_ref25_add m (fun x0 => some x0) l_0 level_1 ticks_2
theorem ref25_add_fun (m : Nat) (l_0 : List Run) (level_1 : Int) (ticks_2 : Int) : funE Try.prog Ψ0 keep m 1 42 [.row, .no, .no] [(dRow 58).e l_0, (dInt .i64).e level_1, (dInt .i64).e ticks_2] = (ref25_add m l_0 level_1 ticks_2).map w_ref25_add := by
  rw [ref25_add_pre]
  exact b_ref25_add_map m l_0 level_1 ticks_2
noncomputable def K_ref25_add (m : Nat) : KnownF C := mkE [.row, .no, .no] (dCons (dRow 58) (dCons (dInt .i64) (dCons (dInt .i64) dNil))) (fun a => ref25_add m a.1 a.2.1 a.2.2.1) w_ref25_add
theorem K_ref25_add_ok (m : Nat) : KnownAtE C Try.prog 42 [.row, .no, .no] fun l => (K_ref25_add m).run _ l some :=
  mkE_known good fit Ψ0_ok (keep := keep) (m := m) (d := 1) fun a => ref25_add_fun m a.1 a.2.1 a.2.2.1
/-! ### signalbench/signalbenchref25.wrong -/
def w_ref25_wrong (b : Int) : List (RV C) := [(dInt .i64).e b]
noncomputable def b_ref25_wrong {R : Type} (m : Nat) (ret : Int → Option R) (x_0 : Item) : Option R :=
 bif decide (x_0.Gap < 0) then
 ret 1
 else
 bif decide (x_0.Gap > 1048576) then
 ret 1
 else
 bif decide ((x_0.Data.size : Int) > 4096) then
 ret 6
 else
 bif decide (x_0.Aux < 0) then
 ret 2
 else
 bif decide (x_0.Aux > 2) then
 ret 2
 else
 bif decide (x_0.Value < 0) then
 ret 2
 else
 bif decide (x_0.Value > 255) then
 ret 2
 else
 bif x_0.Fault != 0 then
 bif x_0.Fault != 6 then
 ret 1
 else
 bif x_0.Aux != 0 then
 bif x_0.Value != 0 then
 ret 1
 else
 bif x_0.Fault != 0 then
 ret 1
 else
 bif !x_0.Data.toList == (bs []).toList then
 ret 1
 else
 ret 0
 else
 bif !x_0.Data.toList == (bs []).toList then
 ret 1
 else
 ret 0
 else
 bif x_0.Aux != 0 then
 bif x_0.Value != 0 then
 ret 1
 else
 bif x_0.Fault != 0 then
 ret 1
 else
 bif !x_0.Data.toList == (bs []).toList then
 ret 1
 else
 ret 0
 else
 bif !x_0.Data.toList == (bs []).toList then
 ret 1
 else
 ret 0
theorem ref25_wrong_pre (m : Nat) (x_0 : Item) : funK Try.prog Ψ0 keep m 1 43 [(dS of_Item cells_Item of_Item_ok).e x_0] = b_ref25_wrong m (fun x0 => some (w_ref25_wrong x0)) x_0 := by kernel_rfl
theorem b_ref25_wrong_map (m : Nat) (x_0 : Item) : b_ref25_wrong m (fun x0 => some (w_ref25_wrong x0)) x_0 = (b_ref25_wrong m (fun x0 => some x0) x_0).map w_ref25_wrong := by
  simp only [b_ref25_wrong, cond_map, bind_map, map_none, map_some]
noncomputable def ref25_wrong (m : Nat) (x_0 : Item) : Option (Int) := b_ref25_wrong m (fun x0 => some x0) x_0
theorem ref25_wrong_fun (m : Nat) (x_0 : Item) : funK Try.prog Ψ0 keep m 1 43 [(dS of_Item cells_Item of_Item_ok).e x_0] = (ref25_wrong m x_0).map w_ref25_wrong := by
  rw [ref25_wrong_pre]
  exact b_ref25_wrong_map m x_0
noncomputable def K_ref25_wrong (m : Nat) : KnownF C := mkK (dCons (dS of_Item cells_Item of_Item_ok) dNil) (fun a => ref25_wrong m a.1) w_ref25_wrong
theorem K_ref25_wrong_ok (m : Nat) : KnownAt C Try.prog 43 fun l => (K_ref25_wrong m).run _ l some :=
  mkK_known good fit Ψ0_ok (keep := keep) (m := m) (d := 1) fun a => ref25_wrong_fun m a.1
/-! ### signalbench/signalbenchref25.widths -/
def w_ref25_widths (b : List Int) : List (RV C) := [(dRow 3).e b]
noncomputable def Q_ref25_widths_9 (m : Nat) : St C → (Exit → St C → Option (List (RV C))) → Option (List (RV C)) := fun σ k => codeK Try.prog Ψ0 (callK Try.prog Ψ0 keep m 0) (keep 44) m (subC body44 [.r, .r, .r, .r, .r, .l, .r, .b, .o]) σ k
noncomputable def KL_ref25_widths_9 (m : Nat) : Exit → St C → Option (List (RV C)) := contK Try.prog Ψ0 (callK Try.prog Ψ0 keep m 0) (keep 44) m body44 [.r, .r, .r, .r, .r, .l, .r, .b, .o] (leaveK Try.prog Try.f44.results.toList (finK Try.prog Try.f44.resultTypes.toList))
noncomputable def L_ref25_widths_l9 (m n : Nat) (n_4 : Int) (i_5 : Int) (c0 : Item) (out_3 : List Int) : Option (List (RV C)) := iterK (Q_ref25_widths_9 m) (St.norm (keep 44 9)) n ({ T := [.dead, .fl (.one (.ptr 0 0)), .dead, .fl (.one (.sl 1)), .fl (.one (.int .i64 n_4)), .fl (.one (.int .i64 i_5))] ++ List.replicate 36 .dead, F := [[]], H := [.box 53 (cells_Item c0), .row 3 true out_3] } : St C) (KL_ref25_widths_9 m)
noncomputable def b_ref25_widths_l9 {R : Type} (m : Nat) (ret : List Int → Option R) (k_l9 : Int → Int → Item → List Int → Option R) (n_4 : Int) (i_5 : Int) (c0 : Item) (out_3 : List Int) : Option R :=
 bif decide (i_5 < n_4) then
 bif decide (i_5 < 0) then
 none
 else
 bif (c0.Value.fdiv (2 ^ min i_5.toNat 64)).tmod 2 == 1 then
 bif decide ((out_3.length + 2) * 8 ≤ 140737488355328) then
 k_l9 n_4 (IntKind.i64.wrap (i_5 + 1)) c0 (out_3 ++ [1, 5])
 else
 none
 else
 bif decide ((out_3.length + 2) * 8 ≤ 140737488355328) then
 k_l9 n_4 (IntKind.i64.wrap (i_5 + 1)) c0 (out_3 ++ [4, 2])
 else
 none
 else
 bif c0.Fault == 6 then
 bif decide ((out_3.length + 2) * 8 ≤ 140737488355328) then
 ret (out_3 ++ [20, 4])
 else
 none
 else
 ret out_3
theorem L_ref25_widths_l9_step (m n : Nat) (n_4 : Int) (i_5 : Int) (c0 : Item) (out_3 : List Int) : L_ref25_widths_l9 m (n + 1) n_4 i_5 c0 out_3 = b_ref25_widths_l9 m (fun x0 => some (w_ref25_widths x0)) (fun n_4 i_5 c0 out_3 => L_ref25_widths_l9 m n n_4 i_5 c0 out_3) n_4 i_5 c0 out_3 := by kernel_rfl
theorem b_ref25_widths_l9_map (m : Nat) {k_l9 : Int → Int → Item → List Int → Option (List (RV C))} {q_l9 : Int → Int → Item → List Int → Option (List Int)} (h_l9 : ∀ n_4 i_5 c0 out_3, k_l9 n_4 i_5 c0 out_3 = (q_l9 n_4 i_5 c0 out_3).map w_ref25_widths) (n_4 : Int) (i_5 : Int) (c0 : Item) (out_3 : List Int) : b_ref25_widths_l9 m (fun x0 => some (w_ref25_widths x0)) k_l9 n_4 i_5 c0 out_3 = (b_ref25_widths_l9 m (fun x0 => some x0) q_l9 n_4 i_5 c0 out_3).map w_ref25_widths := by
  simp only [b_ref25_widths_l9, cond_map, bind_map, map_none, map_some, h_l9]
noncomputable def ref25_widths_l9 (m : Nat) : Nat → Int → Int → Item → List Int → Option (List Int)
  | 0, _, _, _, _ => none
  | n + 1, n_4, i_5, c0, out_3 => b_ref25_widths_l9 m (fun x0 => some x0) (fun n_4 i_5 c0 out_3 => ref25_widths_l9 m n n_4 i_5 c0 out_3) n_4 i_5 c0 out_3
theorem L_ref25_widths_l9_eq (m : Nat) : ∀ (n : Nat) (n_4 : Int) (i_5 : Int) (c0 : Item) (out_3 : List Int), L_ref25_widths_l9 m n n_4 i_5 c0 out_3 = (ref25_widths_l9 m n n_4 i_5 c0 out_3).map w_ref25_widths
  | 0, n_4, i_5, c0, out_3 => by kernel_rfl
  | n + 1, n_4, i_5, c0, out_3 => by
    rw [L_ref25_widths_l9_step]
    exact b_ref25_widths_l9_map m (fun n_4 i_5 c0 out_3 => L_ref25_widths_l9_eq m n n_4 i_5 c0 out_3) n_4 i_5 c0 out_3
noncomputable def b_ref25_widths {R : Type} (m : Nat) (ret : List Int → Option R) (k_l9 : Int → Int → Item → List Int → Option R) (x_0 : Item) : Option R :=
 bif x_0.Aux == 1 then
 ret ([32, 32])
 else
 bif x_0.Aux == 2 then
 ret ([32, 2, 8, 22])
 else
 bif x_0.Fault == 6 then
 k_l9 3 0 x_0 []
 else
 k_l9 8 0 x_0 []
theorem ref25_widths_pre (m : Nat) (x_0 : Item) : funK Try.prog Ψ0 keep m 1 44 [(dS of_Item cells_Item of_Item_ok).e x_0] = b_ref25_widths m (fun x0 => some (w_ref25_widths x0)) (fun n_4 i_5 c0 out_3 => L_ref25_widths_l9 m m n_4 i_5 c0 out_3) x_0 := by kernel_rfl
theorem b_ref25_widths_map (m : Nat) {k_l9 : Int → Int → Item → List Int → Option (List (RV C))} {q_l9 : Int → Int → Item → List Int → Option (List Int)} (h_l9 : ∀ n_4 i_5 c0 out_3, k_l9 n_4 i_5 c0 out_3 = (q_l9 n_4 i_5 c0 out_3).map w_ref25_widths) (x_0 : Item) : b_ref25_widths m (fun x0 => some (w_ref25_widths x0)) k_l9 x_0 = (b_ref25_widths m (fun x0 => some x0) q_l9 x_0).map w_ref25_widths := by
  simp only [b_ref25_widths, cond_map, bind_map, map_none, map_some, h_l9]
noncomputable def ref25_widths (m : Nat) (x_0 : Item) : Option (List Int) := b_ref25_widths m (fun x0 => some x0) (fun n_4 i_5 c0 out_3 => ref25_widths_l9 m m n_4 i_5 c0 out_3) x_0
theorem ref25_widths_fun (m : Nat) (x_0 : Item) : funK Try.prog Ψ0 keep m 1 44 [(dS of_Item cells_Item of_Item_ok).e x_0] = (ref25_widths m x_0).map w_ref25_widths := by
  rw [ref25_widths_pre]
  exact b_ref25_widths_map m (fun n_4 i_5 c0 out_3 => L_ref25_widths_l9_eq m m n_4 i_5 c0 out_3) x_0
noncomputable def K_ref25_widths (m : Nat) : KnownF C := mkK (dCons (dS of_Item cells_Item of_Item_ok) dNil) (fun a => ref25_widths m a.1) w_ref25_widths
theorem K_ref25_widths_ok (m : Nat) : KnownAt C Try.prog 44 fun l => (K_ref25_widths m).run _ l some :=
  mkK_known good fit Ψ0_ok (keep := keep) (m := m) (d := 1) fun a => ref25_widths_fun m a.1
/-! ### signalbench/signalbenchref25.fitting -/
def w_ref25_fitting (b : List Run × Int) : List (RV C) := [(dRow 58).e b.1, (dInt .i64).e b.2]
noncomputable def Q_ref25_fitting_5 (m : Nat) : St C → (Exit → St C → Option (List (RV C))) → Option (List (RV C)) := fun σ k => codeK Try.prog Ψ0 (callK Try.prog Ψ0 keep m 0) (keep 45) m (subC body45 [.r, .r, .r, .l, .r, .b, .o]) σ k
noncomputable def KL_ref25_fitting_5 (m : Nat) : Exit → St C → Option (List (RV C)) := contK Try.prog Ψ0 (callK Try.prog Ψ0 keep m 0) (keep 45) m body45 [.r, .r, .r, .l, .r, .b, .o] (leaveK Try.prog Try.f45.results.toList (finE Try.prog [.row] Try.f45.resultTypes.toList))
noncomputable def L_ref25_fitting_l5 (m n : Nat) (total_4 : Int) (i_5 : Int) (l_0 : List Run) : Option (List (RV C)) := iterK (Q_ref25_fitting_5 m) (St.norm (keep 45 5)) n ({ T := [.fl (.one (.sl 0)), .dead, .dead, .dead, .fl (.one (.int .i64 total_4)), .fl (.one (.int .i64 i_5))] ++ List.replicate 19 .dead, F := [[.dead]], H := [.row 58 true l_0] } : St C) (KL_ref25_fitting_5 m)
noncomputable def b_ref25_fitting_l5 {R : Type} (m : Nat) (ret : List Run → Int → Option R) (k_l5 : Int → Int → List Run → Option R) (total_4 : Int) (i_5 : Int) (l_0 : List Run) : Option R :=
 bif decide (i_5 < (l_0.length : Int)) then
 bif decide (0 ≤ i_5) then
 bif decide (i_5 < (l_0.length : Int)) then
 k_l5 (IntKind.i64.wrap (total_4 + (l_0.getD i_5.toNat dflt_Run).Ticks)) (IntKind.i64.wrap (i_5 + 1)) l_0
 else
 none
 else
 none
 else
 bif decide (total_4 > 1099511627776) then
 ret [] 2
 else
 ret l_0 0
theorem L_ref25_fitting_l5_step (m n : Nat) (total_4 : Int) (i_5 : Int) (l_0 : List Run) : L_ref25_fitting_l5 m (n + 1) total_4 i_5 l_0 = b_ref25_fitting_l5 m (fun x0 x1 => some (w_ref25_fitting (x0, x1))) (fun total_4 i_5 l_0 => L_ref25_fitting_l5 m n total_4 i_5 l_0) total_4 i_5 l_0 := by kernel_rfl
theorem b_ref25_fitting_l5_map (m : Nat) {k_l5 : Int → Int → List Run → Option (List (RV C))} {q_l5 : Int → Int → List Run → Option (List Run × Int)} (h_l5 : ∀ total_4 i_5 l_0, k_l5 total_4 i_5 l_0 = (q_l5 total_4 i_5 l_0).map w_ref25_fitting) (total_4 : Int) (i_5 : Int) (l_0 : List Run) : b_ref25_fitting_l5 m (fun x0 x1 => some (w_ref25_fitting (x0, x1))) k_l5 total_4 i_5 l_0 = (b_ref25_fitting_l5 m (fun x0 x1 => some (x0, x1)) q_l5 total_4 i_5 l_0).map w_ref25_fitting := by
  simp only [b_ref25_fitting_l5, cond_map, bind_map, map_none, map_some, h_l5]
noncomputable def ref25_fitting_l5 (m : Nat) : Nat → Int → Int → List Run → Option (List Run × Int)
  | 0, _, _, _ => none
  | n + 1, total_4, i_5, l_0 => b_ref25_fitting_l5 m (fun x0 x1 => some (x0, x1)) (fun total_4 i_5 l_0 => ref25_fitting_l5 m n total_4 i_5 l_0) total_4 i_5 l_0
theorem L_ref25_fitting_l5_eq (m : Nat) : ∀ (n : Nat) (total_4 : Int) (i_5 : Int) (l_0 : List Run), L_ref25_fitting_l5 m n total_4 i_5 l_0 = (ref25_fitting_l5 m n total_4 i_5 l_0).map w_ref25_fitting
  | 0, total_4, i_5, l_0 => by kernel_rfl
  | n + 1, total_4, i_5, l_0 => by
    rw [L_ref25_fitting_l5_step]
    exact b_ref25_fitting_l5_map m (fun total_4 i_5 l_0 => L_ref25_fitting_l5_eq m n total_4 i_5 l_0) total_4 i_5 l_0
noncomputable def b_ref25_fitting {R : Type} (m : Nat) (ret : List Run → Int → Option R) (k_l5 : Int → Int → List Run → Option R) (l_0 : List Run) : Option R :=
 bif decide ((l_0.length : Int) > 262144) then
 ret [] 6
 else
 k_l5 0 0 l_0
theorem ref25_fitting_pre (m : Nat) (l_0 : List Run) : funE Try.prog Ψ0 keep m 1 45 [.row] [(dRow 58).e l_0] = b_ref25_fitting m (fun x0 x1 => some (w_ref25_fitting (x0, x1))) (fun total_4 i_5 l_0 => L_ref25_fitting_l5 m m total_4 i_5 l_0) l_0 := by kernel_rfl
theorem b_ref25_fitting_map (m : Nat) {k_l5 : Int → Int → List Run → Option (List (RV C))} {q_l5 : Int → Int → List Run → Option (List Run × Int)} (h_l5 : ∀ total_4 i_5 l_0, k_l5 total_4 i_5 l_0 = (q_l5 total_4 i_5 l_0).map w_ref25_fitting) (l_0 : List Run) : b_ref25_fitting m (fun x0 x1 => some (w_ref25_fitting (x0, x1))) k_l5 l_0 = (b_ref25_fitting m (fun x0 x1 => some (x0, x1)) q_l5 l_0).map w_ref25_fitting := by
  simp only [b_ref25_fitting, cond_map, bind_map, map_none, map_some, h_l5]
noncomputable def ref25_fitting (m : Nat) (l_0 : List Run) : Option (List Run × Int) := b_ref25_fitting m (fun x0 x1 => some (x0, x1)) (fun total_4 i_5 l_0 => ref25_fitting_l5 m m total_4 i_5 l_0) l_0
theorem ref25_fitting_fun (m : Nat) (l_0 : List Run) : funE Try.prog Ψ0 keep m 1 45 [.row] [(dRow 58).e l_0] = (ref25_fitting m l_0).map w_ref25_fitting := by
  rw [ref25_fitting_pre]
  exact b_ref25_fitting_map m (fun total_4 i_5 l_0 => L_ref25_fitting_l5_eq m m total_4 i_5 l_0) l_0
noncomputable def K_ref25_fitting (m : Nat) : KnownF C := mkE [.row] (dCons (dRow 58) dNil) (fun a => ref25_fitting m a.1) w_ref25_fitting
theorem K_ref25_fitting_ok (m : Nat) : KnownAtE C Try.prog 45 [.row] fun l => (K_ref25_fitting m).run _ l some :=
  mkE_known good fit Ψ0_ok (keep := keep) (m := m) (d := 1) fun a => ref25_fitting_fun m a.1
/-! ### signalbench/signalbenchref25.Encode -/
noncomputable def Ψ_ref25_Encode (m : Nat) : Known C := fun f => match f with
  | 17 => some (K_ref25_Check m)
  | 42 => some (K_ref25_add m)
  | 43 => some (K_ref25_wrong m)
  | 44 => some (K_ref25_widths m)
  | 45 => some (K_ref25_fitting m)
  | _ => none
theorem Ψ_ref25_Encode_ok (m : Nat) : KnownOk C Try.prog (Ψ_ref25_Encode m) := by
  intro f φ h
  unfold Ψ_ref25_Encode at h
  split at h
  · injection h with h; subst h; exact K_ref25_Check_ok m
  · injection h with h; subst h; exact K_ref25_add_ok m
  · injection h with h; subst h; exact K_ref25_wrong_ok m
  · injection h with h; subst h; exact K_ref25_widths_ok m
  · injection h with h; subst h; exact K_ref25_fitting_ok m
  · cases h
def w_ref25_Encode (b : List Run × Int) : List (RV C) := [(dRow 58).e b.1, (dInt .i64).e b.2]
noncomputable def Q_ref25_Encode_8 (m : Nat) : St C → (Exit → St C → Option (List (RV C))) → Option (List (RV C)) := fun σ k => codeK Try.prog (Ψ_ref25_Encode m) (callK Try.prog (Ψ_ref25_Encode m) keep m 0) (keep 24) m (subC body24 [.r, .r, .r, .r, .l, .r, .b, .o]) σ k
noncomputable def KL_ref25_Encode_8 (m : Nat) : Exit → St C → Option (List (RV C)) := contK Try.prog (Ψ_ref25_Encode m) (callK Try.prog (Ψ_ref25_Encode m) keep m 0) (keep 24) m body24 [.r, .r, .r, .r, .l, .r, .b, .o] (leaveK Try.prog Try.f24.results.toList (finK Try.prog Try.f24.resultTypes.toList))
noncomputable def Q_ref25_Encode_16 (m : Nat) : St C → (Exit → St C → Option (List (RV C))) → Option (List (RV C)) := fun σ k => codeK Try.prog (Ψ_ref25_Encode m) (callK Try.prog (Ψ_ref25_Encode m) keep m 0) (keep 24) m (subC (subC body24 [.r, .r, .r, .r, .l, .r, .b, .o]) [.r, .l, .b, .r, .r, .r, .r, .b, .o]) σ k
noncomputable def KL_ref25_Encode_16 (m : Nat) (n8 : Nat) : Exit → St C → Option (List (RV C)) := contK Try.prog (Ψ_ref25_Encode m) (callK Try.prog (Ψ_ref25_Encode m) keep m 0) (keep 24) m (subC body24 [.r, .r, .r, .r, .l, .r, .b, .o]) [.r, .l, .b, .r, .r, .r, .r, .b, .o] (rndK (Q_ref25_Encode_8 m) (St.norm (keep 24 8)) n8 (KL_ref25_Encode_8 m))
noncomputable def L_ref25_Encode_l8 (m n : Nat) (i_8 : Int) (l_1 : List Item) (c1 : Onewire) (out_7 : List Run) : Option (List (RV C)) := iterK (Q_ref25_Encode_8 m) (St.norm (keep 24 8)) n ({ T := [.dead, .fl (.one (.sl 0)), .fl (.one (.ptr 1 0)), .dead, .dead, .dead, .dead, .fl (.one (.sl 2)), .fl (.one (.int .i64 i_8))] ++ List.replicate 66 .dead, F := [[]], H := [.row 53 false l_1, .box 23 (cells_Onewire c1), .row 58 true out_7] } : St C) (KL_ref25_Encode_8 m)
noncomputable def L_ref25_Encode_l16 (m n8 n : Nat) (i_8 : Int) (k_11 : Int) (l_1 : List Item) (c1 : Onewire) (out_7 : List Run) (w_10 : List Int) : Option (List (RV C)) := iterK (Q_ref25_Encode_16 m) (St.norm (keep 24 16)) n ({ T := [.dead, .fl (.one (.sl 0)), .fl (.one (.ptr 1 0)), .dead, .dead, .dead, .dead, .fl (.one (.sl 2)), .fl (.one (.int .i64 i_8)), .dead, .fl (.one (.sl 3)), .fl (.one (.int .i64 k_11))] ++ List.replicate 63 .dead, F := [[]], H := [.row 53 false l_1, .box 23 (cells_Onewire c1), .row 58 true out_7, .row 3 true w_10] } : St C) (KL_ref25_Encode_16 m n8)
noncomputable def b_ref25_Encode_l16 {R : Type} (m : Nat) (ret : List Run → Int → Option R) (k_l16 : Int → Int → List Item → Onewire → List Run → List Int → Option R) (k_l8 : Int → List Item → Onewire → List Run → Option R) (i_8 : Int) (k_11 : Int) (l_1 : List Item) (c1 : Onewire) (out_7 : List Run) (w_10 : List Int) : Option R :=
 bif decide (k_11 < (w_10.length : Int)) then
 (bif decide (0 ≤ k_11) then
 (bif decide (k_11 < (w_10.length : Int)) then
 ((ref25_add m out_7 (k_11.tmod 2) (IntKind.i64.wrap (w_10.getD k_11.toNat 0 * c1.T))).bind fun r0 =>
 k_l16 i_8 (IntKind.i64.wrap (k_11 + 1)) l_1 c1 r0 w_10)
 else
 none)
 else
 none)
 else
 k_l8 (IntKind.i64.wrap (i_8 + 1)) l_1 c1 out_7
theorem L_ref25_Encode_l16_step (m n8 n : Nat) (i_8 : Int) (k_11 : Int) (l_1 : List Item) (c1 : Onewire) (out_7 : List Run) (w_10 : List Int) : L_ref25_Encode_l16 m n8 (n + 1) i_8 k_11 l_1 c1 out_7 w_10 = b_ref25_Encode_l16 m (fun x0 x1 => some (w_ref25_Encode (x0, x1))) (fun i_8 k_11 l_1 c1 out_7 w_10 => L_ref25_Encode_l16 m n8 n i_8 k_11 l_1 c1 out_7 w_10) (fun i_8 l_1 c1 out_7 => L_ref25_Encode_l8 m n8 i_8 l_1 c1 out_7) i_8 k_11 l_1 c1 out_7 w_10 := by kernel_rfl
theorem b_ref25_Encode_l16_map (m : Nat) {k_l16 : Int → Int → List Item → Onewire → List Run → List Int → Option (List (RV C))} {q_l16 : Int → Int → List Item → Onewire → List Run → List Int → Option (List Run × Int)} (h_l16 : ∀ i_8 k_11 l_1 c1 out_7 w_10, k_l16 i_8 k_11 l_1 c1 out_7 w_10 = (q_l16 i_8 k_11 l_1 c1 out_7 w_10).map w_ref25_Encode) {k_l8 : Int → List Item → Onewire → List Run → Option (List (RV C))} {q_l8 : Int → List Item → Onewire → List Run → Option (List Run × Int)} (h_l8 : ∀ i_8 l_1 c1 out_7, k_l8 i_8 l_1 c1 out_7 = (q_l8 i_8 l_1 c1 out_7).map w_ref25_Encode) (i_8 : Int) (k_11 : Int) (l_1 : List Item) (c1 : Onewire) (out_7 : List Run) (w_10 : List Int) : b_ref25_Encode_l16 m (fun x0 x1 => some (w_ref25_Encode (x0, x1))) k_l16 k_l8 i_8 k_11 l_1 c1 out_7 w_10 = (b_ref25_Encode_l16 m (fun x0 x1 => some (x0, x1)) q_l16 q_l8 i_8 k_11 l_1 c1 out_7 w_10).map w_ref25_Encode := by
  simp only [b_ref25_Encode_l16, cond_map, bind_map, map_none, map_some, h_l16, h_l8]
noncomputable def ref25_Encode_l16 (m : Nat) (q_l8 : Int → List Item → Onewire → List Run → Option (List Run × Int)) : Nat → Int → Int → List Item → Onewire → List Run → List Int → Option (List Run × Int)
  | 0, _, _, _, _, _, _ => none
  | n + 1, i_8, k_11, l_1, c1, out_7, w_10 => b_ref25_Encode_l16 m (fun x0 x1 => some (x0, x1)) (fun i_8 k_11 l_1 c1 out_7 w_10 => ref25_Encode_l16 m q_l8 n i_8 k_11 l_1 c1 out_7 w_10) q_l8 i_8 k_11 l_1 c1 out_7 w_10
theorem L_ref25_Encode_l16_eq (m n8 : Nat) (q_l8 : Int → List Item → Onewire → List Run → Option (List Run × Int)) (h_l8 : ∀ i_8 l_1 c1 out_7, L_ref25_Encode_l8 m n8 i_8 l_1 c1 out_7 = (q_l8 i_8 l_1 c1 out_7).map w_ref25_Encode) : ∀ (n : Nat) (i_8 : Int) (k_11 : Int) (l_1 : List Item) (c1 : Onewire) (out_7 : List Run) (w_10 : List Int), L_ref25_Encode_l16 m n8 n i_8 k_11 l_1 c1 out_7 w_10 = (ref25_Encode_l16 m q_l8 n i_8 k_11 l_1 c1 out_7 w_10).map w_ref25_Encode
  | 0, i_8, k_11, l_1, c1, out_7, w_10 => by kernel_rfl
  | n + 1, i_8, k_11, l_1, c1, out_7, w_10 => by
    rw [L_ref25_Encode_l16_step]
    exact b_ref25_Encode_l16_map m (fun i_8 k_11 l_1 c1 out_7 w_10 => L_ref25_Encode_l16_eq m n8 q_l8 h_l8 n i_8 k_11 l_1 c1 out_7 w_10) h_l8 i_8 k_11 l_1 c1 out_7 w_10
noncomputable def b_ref25_Encode_l8 {R : Type} (m : Nat) (ret : List Run → Int → Option R) (k_l16 : Int → Int → List Item → Onewire → List Run → List Int → Option R) (i_8 : Int) (l_1 : List Item) (c1 : Onewire) (out_7 : List Run) : Option R :=
 bif decide (i_8 < (l_1.length : Int)) then
 (bif decide (0 ≤ i_8) then
 (bif decide (i_8 < (l_1.length : Int)) then
 ((ref25_wrong m (l_1.getD i_8.toNat dflt_Item)).bind fun r0 =>
 bif r0 != 0 then
 ret [] r0
 else
 bif decide (0 ≤ i_8) then
 (bif decide (i_8 < (l_1.length : Int)) then
 ((ref25_add m out_7 1 (l_1.getD i_8.toNat dflt_Item).Gap).bind fun r1 =>
 bif decide (0 ≤ i_8) then
 (bif decide (i_8 < (l_1.length : Int)) then
 ((ref25_widths m (l_1.getD i_8.toNat dflt_Item)).bind fun r2 =>
 k_l16 i_8 0 l_1 c1 r1 r2)
 else
 none)
 else
 none)
 else
 none)
 else
 none)
 else
 none)
 else
 none)
 else
 (ref25_add m out_7 1 (IntKind.i64.wrap (8 * c1.T))).bind fun r3 =>
 (ref25_fitting m r3).bind fun r4 =>
 ret r4.fst r4.snd
theorem L_ref25_Encode_l8_step (m n : Nat) (i_8 : Int) (l_1 : List Item) (c1 : Onewire) (out_7 : List Run) : L_ref25_Encode_l8 m (n + 1) i_8 l_1 c1 out_7 = b_ref25_Encode_l8 m (fun x0 x1 => some (w_ref25_Encode (x0, x1))) (fun i_8 k_11 l_1 c1 out_7 w_10 => L_ref25_Encode_l16 m n m i_8 k_11 l_1 c1 out_7 w_10) i_8 l_1 c1 out_7 := by kernel_rfl
theorem b_ref25_Encode_l8_map (m : Nat) {k_l16 : Int → Int → List Item → Onewire → List Run → List Int → Option (List (RV C))} {q_l16 : Int → Int → List Item → Onewire → List Run → List Int → Option (List Run × Int)} (h_l16 : ∀ i_8 k_11 l_1 c1 out_7 w_10, k_l16 i_8 k_11 l_1 c1 out_7 w_10 = (q_l16 i_8 k_11 l_1 c1 out_7 w_10).map w_ref25_Encode) (i_8 : Int) (l_1 : List Item) (c1 : Onewire) (out_7 : List Run) : b_ref25_Encode_l8 m (fun x0 x1 => some (w_ref25_Encode (x0, x1))) k_l16 i_8 l_1 c1 out_7 = (b_ref25_Encode_l8 m (fun x0 x1 => some (x0, x1)) q_l16 i_8 l_1 c1 out_7).map w_ref25_Encode := by
  simp only [b_ref25_Encode_l8, cond_map, bind_map, map_none, map_some, h_l16]
noncomputable def ref25_Encode_l8 (m : Nat) : Nat → Int → List Item → Onewire → List Run → Option (List Run × Int)
  | 0, _, _, _, _ => none
  | n + 1, i_8, l_1, c1, out_7 => b_ref25_Encode_l8 m (fun x0 x1 => some (x0, x1)) (fun i_8 k_11 l_1 c1 out_7 w_10 => ref25_Encode_l16 m (fun i_8 l_1 c1 out_7 => ref25_Encode_l8 m n i_8 l_1 c1 out_7) m i_8 k_11 l_1 c1 out_7 w_10) i_8 l_1 c1 out_7
theorem L_ref25_Encode_l8_eq (m : Nat) : ∀ (n : Nat) (i_8 : Int) (l_1 : List Item) (c1 : Onewire) (out_7 : List Run), L_ref25_Encode_l8 m n i_8 l_1 c1 out_7 = (ref25_Encode_l8 m n i_8 l_1 c1 out_7).map w_ref25_Encode
  | 0, i_8, l_1, c1, out_7 => by kernel_rfl
  | n + 1, i_8, l_1, c1, out_7 => by
    rw [L_ref25_Encode_l8_step]
    exact b_ref25_Encode_l8_map m (fun i_8 k_11 l_1 c1 out_7 w_10 => L_ref25_Encode_l16_eq m n (fun i_8 l_1 c1 out_7 => ref25_Encode_l8 m n i_8 l_1 c1 out_7) (fun i_8 l_1 c1 out_7 => L_ref25_Encode_l8_eq m n i_8 l_1 c1 out_7) m i_8 k_11 l_1 c1 out_7 w_10) i_8 l_1 c1 out_7
noncomputable def b_ref25_Encode {R : Type} (m : Nat) (ret : List Run → Int → Option R) (k_l8 : Int → List Item → Onewire → List Run → Option R) (c_0 : Onewire) (l_1 : List Item) : Option R :=
 (ref25_Check m c_0).bind fun r0 =>
 bif r0 != 0 then
 ret [] r0
 else
 bif decide ((l_1.length : Int) > 1024) then
 ret [] 6
 else
 (ref25_add m [] 1 (IntKind.i64.wrap (8 * c_0.T))).bind fun r1 =>
 k_l8 0 l_1 c_0 r1
theorem ref25_Encode_pre (m : Nat) (c_0 : Onewire) (l_1 : List Item) : funK Try.prog (Ψ_ref25_Encode m) keep m 1 24 [(dS of_Onewire cells_Onewire of_Onewire_ok).e c_0, (dRow 53).e l_1] = b_ref25_Encode m (fun x0 x1 => some (w_ref25_Encode (x0, x1))) (fun i_8 l_1 c1 out_7 => L_ref25_Encode_l8 m m i_8 l_1 c1 out_7) c_0 l_1 := by kernel_rfl
theorem b_ref25_Encode_map (m : Nat) {k_l8 : Int → List Item → Onewire → List Run → Option (List (RV C))} {q_l8 : Int → List Item → Onewire → List Run → Option (List Run × Int)} (h_l8 : ∀ i_8 l_1 c1 out_7, k_l8 i_8 l_1 c1 out_7 = (q_l8 i_8 l_1 c1 out_7).map w_ref25_Encode) (c_0 : Onewire) (l_1 : List Item) : b_ref25_Encode m (fun x0 x1 => some (w_ref25_Encode (x0, x1))) k_l8 c_0 l_1 = (b_ref25_Encode m (fun x0 x1 => some (x0, x1)) q_l8 c_0 l_1).map w_ref25_Encode := by
  simp only [b_ref25_Encode, cond_map, bind_map, map_none, map_some, h_l8]
noncomputable def ref25_Encode (m : Nat) (c_0 : Onewire) (l_1 : List Item) : Option (List Run × Int) := b_ref25_Encode m (fun x0 x1 => some (x0, x1)) (fun i_8 l_1 c1 out_7 => ref25_Encode_l8 m m i_8 l_1 c1 out_7) c_0 l_1
theorem ref25_Encode_fun (m : Nat) (c_0 : Onewire) (l_1 : List Item) : funK Try.prog (Ψ_ref25_Encode m) keep m 1 24 [(dS of_Onewire cells_Onewire of_Onewire_ok).e c_0, (dRow 53).e l_1] = (ref25_Encode m c_0 l_1).map w_ref25_Encode := by
  rw [ref25_Encode_pre]
  exact b_ref25_Encode_map m (fun i_8 l_1 c1 out_7 => L_ref25_Encode_l8_eq m m i_8 l_1 c1 out_7) c_0 l_1
noncomputable def K_ref25_Encode (m : Nat) : KnownF C := mkK (dCons (dS of_Onewire cells_Onewire of_Onewire_ok) (dCons (dRow 53) dNil)) (fun a => ref25_Encode m a.1 a.2.1) w_ref25_Encode
theorem K_ref25_Encode_ok (m : Nat) : KnownAt C Try.prog 24 fun l => (K_ref25_Encode m).run _ l some :=
  mkK_known good fit (Ψ_ref25_Encode_ok m) (keep := keep) (m := m) (d := 1) fun a => ref25_Encode_fun m a.1 a.2.1
/-! ### signalbench/signalbenchlaw25.same -/
def w_law25_same (b : Bool) : List (RV C) := [dBool.e b]
noncomputable def Q_law25_same_4 (m : Nat) : St C → (Exit → St C → Option (List (RV C))) → Option (List (RV C)) := fun σ k => codeK Try.prog Ψ0 (callK Try.prog Ψ0 keep m 0) (keep 25) m (subC body25 [.r, .r, .l, .r, .b, .o]) σ k
noncomputable def KL_law25_same_4 (m : Nat) : Exit → St C → Option (List (RV C)) := contK Try.prog Ψ0 (callK Try.prog Ψ0 keep m 0) (keep 25) m body25 [.r, .r, .l, .r, .b, .o] (leaveK Try.prog Try.f25.results.toList (finK Try.prog Try.f25.resultTypes.toList))
noncomputable def L_law25_same_l4 (m n : Nat) (i_5 : Int) (a_0 : List Run) (b_1 : List Run) : Option (List (RV C)) := iterK (Q_law25_same_4 m) (St.norm (keep 25 4)) n ({ T := [.fl (.one (.sl 0)), .fl (.one (.sl 1)), .dead, .dead, .dead, .fl (.one (.int .i64 i_5))] ++ List.replicate 20 .dead, F := [[]], H := [.row 58 false a_0, .row 58 false b_1] } : St C) (KL_law25_same_4 m)
noncomputable def b_law25_same_l4 {R : Type} (m : Nat) (ret : Bool → Option R) (k_l4 : Int → List Run → List Run → Option R) (i_5 : Int) (a_0 : List Run) (b_1 : List Run) : Option R :=
 bif decide (i_5 < (a_0.length : Int)) then
 bif decide (0 ≤ i_5) then
 bif decide (i_5 < (a_0.length : Int)) then
 bif decide (0 ≤ i_5) then
 bif decide (i_5 < (b_1.length : Int)) then
 bif !((a_0.getD i_5.toNat dflt_Run).Level == (b_1.getD i_5.toNat dflt_Run).Level && ((a_0.getD i_5.toNat dflt_Run).Ticks == (b_1.getD i_5.toNat dflt_Run).Ticks && true)) then
 ret false
 else
 k_l4 (IntKind.i64.wrap (i_5 + 1)) a_0 b_1
 else
 none
 else
 none
 else
 none
 else
 none
 else
 ret true
theorem L_law25_same_l4_step (m n : Nat) (i_5 : Int) (a_0 : List Run) (b_1 : List Run) : L_law25_same_l4 m (n + 1) i_5 a_0 b_1 = b_law25_same_l4 m (fun x0 => some (w_law25_same x0)) (fun i_5 a_0 b_1 => L_law25_same_l4 m n i_5 a_0 b_1) i_5 a_0 b_1 := by kernel_rfl
theorem b_law25_same_l4_map (m : Nat) {k_l4 : Int → List Run → List Run → Option (List (RV C))} {q_l4 : Int → List Run → List Run → Option (Bool)} (h_l4 : ∀ i_5 a_0 b_1, k_l4 i_5 a_0 b_1 = (q_l4 i_5 a_0 b_1).map w_law25_same) (i_5 : Int) (a_0 : List Run) (b_1 : List Run) : b_law25_same_l4 m (fun x0 => some (w_law25_same x0)) k_l4 i_5 a_0 b_1 = (b_law25_same_l4 m (fun x0 => some x0) q_l4 i_5 a_0 b_1).map w_law25_same := by
  simp only [b_law25_same_l4, cond_map, bind_map, map_none, map_some, h_l4]
noncomputable def law25_same_l4 (m : Nat) : Nat → Int → List Run → List Run → Option (Bool)
  | 0, _, _, _ => none
  | n + 1, i_5, a_0, b_1 => b_law25_same_l4 m (fun x0 => some x0) (fun i_5 a_0 b_1 => law25_same_l4 m n i_5 a_0 b_1) i_5 a_0 b_1
theorem L_law25_same_l4_eq (m : Nat) : ∀ (n : Nat) (i_5 : Int) (a_0 : List Run) (b_1 : List Run), L_law25_same_l4 m n i_5 a_0 b_1 = (law25_same_l4 m n i_5 a_0 b_1).map w_law25_same
  | 0, i_5, a_0, b_1 => by kernel_rfl
  | n + 1, i_5, a_0, b_1 => by
    rw [L_law25_same_l4_step]
    exact b_law25_same_l4_map m (fun i_5 a_0 b_1 => L_law25_same_l4_eq m n i_5 a_0 b_1) i_5 a_0 b_1
noncomputable def b_law25_same {R : Type} (m : Nat) (ret : Bool → Option R) (k_l4 : Int → List Run → List Run → Option R) (a_0 : List Run) (b_1 : List Run) : Option R :=
 bif (a_0.length : Int) != (b_1.length : Int) then
 ret false
 else
 k_l4 0 a_0 b_1
theorem law25_same_pre (m : Nat) (a_0 : List Run) (b_1 : List Run) : funK Try.prog Ψ0 keep m 1 25 [(dRow 58).e a_0, (dRow 58).e b_1] = b_law25_same m (fun x0 => some (w_law25_same x0)) (fun i_5 a_0 b_1 => L_law25_same_l4 m m i_5 a_0 b_1) a_0 b_1 := by kernel_rfl
theorem b_law25_same_map (m : Nat) {k_l4 : Int → List Run → List Run → Option (List (RV C))} {q_l4 : Int → List Run → List Run → Option (Bool)} (h_l4 : ∀ i_5 a_0 b_1, k_l4 i_5 a_0 b_1 = (q_l4 i_5 a_0 b_1).map w_law25_same) (a_0 : List Run) (b_1 : List Run) : b_law25_same m (fun x0 => some (w_law25_same x0)) k_l4 a_0 b_1 = (b_law25_same m (fun x0 => some x0) q_l4 a_0 b_1).map w_law25_same := by
  simp only [b_law25_same, cond_map, bind_map, map_none, map_some, h_l4]
noncomputable def law25_same (m : Nat) (a_0 : List Run) (b_1 : List Run) : Option (Bool) := b_law25_same m (fun x0 => some x0) (fun i_5 a_0 b_1 => law25_same_l4 m m i_5 a_0 b_1) a_0 b_1
theorem law25_same_fun (m : Nat) (a_0 : List Run) (b_1 : List Run) : funK Try.prog Ψ0 keep m 1 25 [(dRow 58).e a_0, (dRow 58).e b_1] = (law25_same m a_0 b_1).map w_law25_same := by
  rw [law25_same_pre]
  exact b_law25_same_map m (fun i_5 a_0 b_1 => L_law25_same_l4_eq m m i_5 a_0 b_1) a_0 b_1
noncomputable def K_law25_same (m : Nat) : KnownF C := mkK (dCons (dRow 58) (dCons (dRow 58) dNil)) (fun a => law25_same m a.1 a.2.1) w_law25_same
theorem K_law25_same_ok (m : Nat) : KnownAt C Try.prog 25 fun l => (K_law25_same m).run _ l some :=
  mkK_known good fit Ψ0_ok (keep := keep) (m := m) (d := 1) fun a => law25_same_fun m a.1 a.2.1
/-! ### signalbench/signalbenchlaw25.OnewireEncodes -/
noncomputable def Ψ_law25_OnewireEncodes (m : Nat) : Known C := fun f => match f with
  | 22 => some (K_law25_tiny m)
  | 10 => some (K_law25_awake m)
  | 23 => some (K_onewire_Encode m)
  | 24 => some (K_ref25_Encode m)
  | 25 => some (K_law25_same m)
  | _ => none
theorem Ψ_law25_OnewireEncodes_ok (m : Nat) : KnownOk C Try.prog (Ψ_law25_OnewireEncodes m) := by
  intro f φ h
  unfold Ψ_law25_OnewireEncodes at h
  split at h
  · injection h with h; subst h; exact K_law25_tiny_ok m
  · injection h with h; subst h; exact K_law25_awake_ok m
  · injection h with h; subst h; exact K_onewire_Encode_ok m
  · injection h with h; subst h; exact K_ref25_Encode_ok m
  · injection h with h; subst h; exact K_law25_same_ok m
  · cases h
def w_law25_OnewireEncodes (b : Bool) : List (RV C) := [dBool.e b]
noncomputable def b_law25_OnewireEncodes {R : Type} (m : Nat) (ret : Bool → Option R) (c_0 : Onewire) (l_1 : List Item) : Option R :=
 (law25_tiny m l_1).bind fun r0 =>
 bif !r0 then
 ((law25_awake m).bind fun r1 =>
 ret r1)
 else
 (onewire_Encode m c_0 l_1).bind fun r2 =>
 (ref25_Encode m c_0 l_1).bind fun r3 =>
 (law25_same m r2.fst r3.fst).bind fun r4 =>
 bif r4 then
 (bif r2.snd == r3.snd then
 ((law25_awake m).bind fun r5 =>
 ret r5)
 else
 ret false)
 else
 ret false
theorem law25_OnewireEncodes_pre (m : Nat) (c_0 : Onewire) (l_1 : List Item) : funK Try.prog (Ψ_law25_OnewireEncodes m) keep m 1 4 [(dS of_Onewire cells_Onewire of_Onewire_ok).e c_0, (dRow 53).e l_1] = b_law25_OnewireEncodes m (fun x0 => some (w_law25_OnewireEncodes x0)) c_0 l_1 := by kernel_rfl
theorem b_law25_OnewireEncodes_map (m : Nat) (c_0 : Onewire) (l_1 : List Item) : b_law25_OnewireEncodes m (fun x0 => some (w_law25_OnewireEncodes x0)) c_0 l_1 = (b_law25_OnewireEncodes m (fun x0 => some x0) c_0 l_1).map w_law25_OnewireEncodes := by
  simp only [b_law25_OnewireEncodes, cond_map, bind_map, map_none, map_some]
noncomputable def law25_OnewireEncodes (m : Nat) (c_0 : Onewire) (l_1 : List Item) : Option (Bool) := b_law25_OnewireEncodes m (fun x0 => some x0) c_0 l_1
theorem law25_OnewireEncodes_fun (m : Nat) (c_0 : Onewire) (l_1 : List Item) : funK Try.prog (Ψ_law25_OnewireEncodes m) keep m 1 4 [(dS of_Onewire cells_Onewire of_Onewire_ok).e c_0, (dRow 53).e l_1] = (law25_OnewireEncodes m c_0 l_1).map w_law25_OnewireEncodes := by
  rw [law25_OnewireEncodes_pre]
  exact b_law25_OnewireEncodes_map m c_0 l_1
noncomputable def K_law25_OnewireEncodes (m : Nat) : KnownF C := mkK (dCons (dS of_Onewire cells_Onewire of_Onewire_ok) (dCons (dRow 53) dNil)) (fun a => law25_OnewireEncodes m a.1 a.2.1) w_law25_OnewireEncodes
theorem K_law25_OnewireEncodes_ok (m : Nat) : KnownAt C Try.prog 4 fun l => (K_law25_OnewireEncodes m).run _ l some :=
  mkK_known good fit (Ψ_law25_OnewireEncodes_ok m) (keep := keep) (m := m) (d := 1) fun a => law25_OnewireEncodes_fun m a.1 a.2.1
/-! ### signalbench/signalbenchlaw25.OnewireExpects -/
noncomputable def Ψ_law25_OnewireExpects (m : Nat) : Known C := fun f => match f with
  | 22 => some (K_law25_tiny m)
  | 10 => some (K_law25_awake m)
  | 23 => some (K_onewire_Encode m)
  | 26 => some (K_onewire_Expect m)
  | 27 => some (K_law25_events m)
  | 20 => some (K_onewire_Decode m)
  | 15 => some (K_ref07_Same m)
  | _ => none
theorem Ψ_law25_OnewireExpects_ok (m : Nat) : KnownOk C Try.prog (Ψ_law25_OnewireExpects m) := by
  intro f φ h
  unfold Ψ_law25_OnewireExpects at h
  split at h
  · injection h with h; subst h; exact K_law25_tiny_ok m
  · injection h with h; subst h; exact K_law25_awake_ok m
  · injection h with h; subst h; exact K_onewire_Encode_ok m
  · injection h with h; subst h; exact K_onewire_Expect_ok m
  · injection h with h; subst h; exact K_law25_events_ok m
  · injection h with h; subst h; exact K_onewire_Decode_ok m
  · injection h with h; subst h; exact K_ref07_Same_ok m
  · cases h
def w_law25_OnewireExpects (b : Bool) : List (RV C) := [dBool.e b]
noncomputable def b_law25_OnewireExpects {R : Type} (m : Nat) (ret : Bool → Option R) (c_0 : Onewire) (l_1 : List Item) : Option R :=
 (law25_tiny m l_1).bind fun r0 =>
 bif !r0 then
 ((law25_awake m).bind fun r1 =>
 ret r1)
 else
 (onewire_Encode m c_0 l_1).bind fun r2 =>
 (onewire_Expect m c_0 l_1).bind fun r3 =>
 bif r2.snd != 0 then
 (bif r3.snd == r2.snd then
 (bif (r3.fst.length : Int) == 0 then
 (bif (r2.fst.length : Int) == 0 then
 ((law25_awake m).bind fun r4 =>
 ret r4)
 else
 ret false)
 else
 ret false)
 else
 ret false)
 else
 bif r3.snd == 0 then
 ((law25_events m r2.fst).bind fun r5 =>
 (onewire_Decode m c_0 r5).bind fun r6 =>
 (ref07_Same m r3.fst r6).bind fun r7 =>
 bif r7 then
 ((law25_awake m).bind fun r8 =>
 ret r8)
 else
 ret false)
 else
 ret false
theorem law25_OnewireExpects_pre (m : Nat) (c_0 : Onewire) (l_1 : List Item) : funK Try.prog (Ψ_law25_OnewireExpects m) keep m 1 5 [(dS of_Onewire cells_Onewire of_Onewire_ok).e c_0, (dRow 53).e l_1] = b_law25_OnewireExpects m (fun x0 => some (w_law25_OnewireExpects x0)) c_0 l_1 := by kernel_rfl
theorem b_law25_OnewireExpects_map (m : Nat) (c_0 : Onewire) (l_1 : List Item) : b_law25_OnewireExpects m (fun x0 => some (w_law25_OnewireExpects x0)) c_0 l_1 = (b_law25_OnewireExpects m (fun x0 => some x0) c_0 l_1).map w_law25_OnewireExpects := by
  simp only [b_law25_OnewireExpects, cond_map, bind_map, map_none, map_some]
noncomputable def law25_OnewireExpects (m : Nat) (c_0 : Onewire) (l_1 : List Item) : Option (Bool) := b_law25_OnewireExpects m (fun x0 => some x0) c_0 l_1
theorem law25_OnewireExpects_fun (m : Nat) (c_0 : Onewire) (l_1 : List Item) : funK Try.prog (Ψ_law25_OnewireExpects m) keep m 1 5 [(dS of_Onewire cells_Onewire of_Onewire_ok).e c_0, (dRow 53).e l_1] = (law25_OnewireExpects m c_0 l_1).map w_law25_OnewireExpects := by
  rw [law25_OnewireExpects_pre]
  exact b_law25_OnewireExpects_map m c_0 l_1
noncomputable def K_law25_OnewireExpects (m : Nat) : KnownF C := mkK (dCons (dS of_Onewire cells_Onewire of_Onewire_ok) (dCons (dRow 53) dNil)) (fun a => law25_OnewireExpects m a.1 a.2.1) w_law25_OnewireExpects
theorem K_law25_OnewireExpects_ok (m : Nat) : KnownAt C Try.prog 5 fun l => (K_law25_OnewireExpects m).run _ l some :=
  mkK_known good fit (Ψ_law25_OnewireExpects_ok m) (keep := keep) (m := m) (d := 1) fun a => law25_OnewireExpects_fun m a.1 a.2.1
/-! ### signalbench/signalbenchlaw25.sent -/
def w_law25_sent (b : Event × Int) : List (RV C) := [(dS of_Event cells_Event of_Event_ok).e b.1, (dInt .i64).e b.2]
noncomputable def b_law25_sent {R : Type} (m : Nat) (ret : Event → Int → Option R) (t_0 : Int) (x_1 : Item) (at_2 : Int) : Option R :=
 bif x_1.Aux == 1 then
 ret (Event.mk 4 at_2 (IntKind.i64.wrap (at_2 + IntKind.i64.wrap (32 * t_0))) 2 0 (bs []) 0) (IntKind.i64.wrap (at_2 + IntKind.i64.wrap (64 * t_0)))
 else
 bif x_1.Aux == 2 then
 ret (Event.mk 4 at_2 (IntKind.i64.wrap (at_2 + IntKind.i64.wrap (42 * t_0))) 3 0 (bs []) 0) (IntKind.i64.wrap (at_2 + IntKind.i64.wrap (64 * t_0)))
 else
 bif x_1.Fault == 6 then
 ret (Event.mk 3 at_2 (IntKind.i64.wrap (at_2 + IntKind.i64.wrap (38 * t_0))) 0 0 (bs []) 6) (IntKind.i64.wrap (at_2 + IntKind.i64.wrap (42 * t_0)))
 else
 bif decide (x_1.Value ≥ 128) then
 ret (Event.mk 3 at_2 (IntKind.i64.wrap (at_2 + IntKind.i64.wrap (43 * t_0))) x_1.Value 0 (bs []) 0) (IntKind.i64.wrap (at_2 + IntKind.i64.wrap (48 * t_0)))
 else
 ret (Event.mk 3 at_2 (IntKind.i64.wrap (at_2 + IntKind.i64.wrap (46 * t_0))) x_1.Value 0 (bs []) 0) (IntKind.i64.wrap (at_2 + IntKind.i64.wrap (48 * t_0)))
theorem law25_sent_pre (m : Nat) (t_0 : Int) (x_1 : Item) (at_2 : Int) : funK Try.prog Ψ0 keep m 1 28 [(dInt .i64).e t_0, (dS of_Item cells_Item of_Item_ok).e x_1, (dInt .i64).e at_2] = b_law25_sent m (fun x0 x1 => some (w_law25_sent (x0, x1))) t_0 x_1 at_2 := by kernel_rfl
theorem b_law25_sent_map (m : Nat) (t_0 : Int) (x_1 : Item) (at_2 : Int) : b_law25_sent m (fun x0 x1 => some (w_law25_sent (x0, x1))) t_0 x_1 at_2 = (b_law25_sent m (fun x0 x1 => some (x0, x1)) t_0 x_1 at_2).map w_law25_sent := by
  simp only [b_law25_sent, cond_map, bind_map, map_none, map_some]
noncomputable def law25_sent (m : Nat) (t_0 : Int) (x_1 : Item) (at_2 : Int) : Option (Event × Int) := b_law25_sent m (fun x0 x1 => some (x0, x1)) t_0 x_1 at_2
theorem law25_sent_fun (m : Nat) (t_0 : Int) (x_1 : Item) (at_2 : Int) : funK Try.prog Ψ0 keep m 1 28 [(dInt .i64).e t_0, (dS of_Item cells_Item of_Item_ok).e x_1, (dInt .i64).e at_2] = (law25_sent m t_0 x_1 at_2).map w_law25_sent := by
  rw [law25_sent_pre]
  exact b_law25_sent_map m t_0 x_1 at_2
noncomputable def K_law25_sent (m : Nat) : KnownF C := mkK (dCons (dInt .i64) (dCons (dS of_Item cells_Item of_Item_ok) (dCons (dInt .i64) dNil))) (fun a => law25_sent m a.1 a.2.1 a.2.2.1) w_law25_sent
theorem K_law25_sent_ok (m : Nat) : KnownAt C Try.prog 28 fun l => (K_law25_sent m).run _ l some :=
  mkK_known good fit Ψ0_ok (keep := keep) (m := m) (d := 1) fun a => law25_sent_fun m a.1 a.2.1 a.2.2.1
/-! ### signalbench/signalbenchlaw25.OnewireRoundTrips -/
noncomputable def Ψ_law25_OnewireRoundTrips (m : Nat) : Known C := fun f => match f with
  | 22 => some (K_law25_tiny m)
  | 10 => some (K_law25_awake m)
  | 23 => some (K_onewire_Encode m)
  | 28 => some (K_law25_sent m)
  | 27 => some (K_law25_events m)
  | 20 => some (K_onewire_Decode m)
  | 15 => some (K_ref07_Same m)
  | _ => none
theorem Ψ_law25_OnewireRoundTrips_ok (m : Nat) : KnownOk C Try.prog (Ψ_law25_OnewireRoundTrips m) := by
  intro f φ h
  unfold Ψ_law25_OnewireRoundTrips at h
  split at h
  · injection h with h; subst h; exact K_law25_tiny_ok m
  · injection h with h; subst h; exact K_law25_awake_ok m
  · injection h with h; subst h; exact K_onewire_Encode_ok m
  · injection h with h; subst h; exact K_law25_sent_ok m
  · injection h with h; subst h; exact K_law25_events_ok m
  · injection h with h; subst h; exact K_onewire_Decode_ok m
  · injection h with h; subst h; exact K_ref07_Same_ok m
  · cases h
def w_law25_OnewireRoundTrips (b : Bool) : List (RV C) := [dBool.e b]
noncomputable def Q_law25_OnewireRoundTrips_8 (m : Nat) : St C → (Exit → St C → Option (List (RV C))) → Option (List (RV C)) := fun σ k => codeK Try.prog (Ψ_law25_OnewireRoundTrips m) (callK Try.prog (Ψ_law25_OnewireRoundTrips m) keep m 0) (keep 6) m (subC body6 [.r, .r, .r, .r, .r, .l, .r, .b, .o]) σ k
noncomputable def KL_law25_OnewireRoundTrips_8 (m : Nat) : Exit → St C → Option (List (RV C)) := contK Try.prog (Ψ_law25_OnewireRoundTrips m) (callK Try.prog (Ψ_law25_OnewireRoundTrips m) keep m 0) (keep 6) m body6 [.r, .r, .r, .r, .r, .l, .r, .b, .o] (leaveK Try.prog Try.f6.results.toList (finK Try.prog Try.f6.resultTypes.toList))
noncomputable def L_law25_OnewireRoundTrips_l8 (m n : Nat) (at_8 : Int) (i_9 : Int) (l_1 : List Item) (c1 : Onewire) (runs_5 : List Run) (want_7 : List Event) : Option (List (RV C)) := iterK (Q_law25_OnewireRoundTrips_8 m) (St.norm (keep 6 8)) n ({ T := [.dead, .fl (.one (.sl 0)), .fl (.one (.ptr 1 0)), .dead, .dead, .fl (.one (.sl 2)), .dead, .fl (.one (.sl 3)), .fl (.one (.int .i64 at_8)), .fl (.one (.int .i64 i_9))] ++ List.replicate 61 .dead, F := [[]], H := [.row 53 false l_1, .box 23 (cells_Onewire c1), .row 58 true runs_5, .row 33 true want_7] } : St C) (KL_law25_OnewireRoundTrips_8 m)
noncomputable def b_law25_OnewireRoundTrips_l8 {R : Type} (m : Nat) (ret : Bool → Option R) (k_l8 : Int → Int → List Item → Onewire → List Run → List Event → Option R) (at_8 : Int) (i_9 : Int) (l_1 : List Item) (c1 : Onewire) (runs_5 : List Run) (want_7 : List Event) : Option R :=
 bif decide (i_9 < (l_1.length : Int)) then
 (bif decide (0 ≤ i_9) then
 (bif decide (i_9 < (l_1.length : Int)) then
 (bif decide (0 ≤ i_9) then
 (bif decide (i_9 < (l_1.length : Int)) then
 ((law25_sent m c1.T (l_1.getD i_9.toNat dflt_Item) (IntKind.i64.wrap (at_8 + (l_1.getD i_9.toNat dflt_Item).Gap))).bind fun r0 =>
 bif decide ((want_7.length + 1) * 64 ≤ 140737488355328) then
 k_l8 r0.snd (IntKind.i64.wrap (i_9 + 1)) l_1 c1 runs_5 (want_7 ++ [r0.fst])
 else
 none)
 else
 none)
 else
 none)
 else
 none)
 else
 none)
 else
 (law25_events m runs_5).bind fun r1 =>
 (onewire_Decode m c1 r1).bind fun r2 =>
 (ref07_Same m r2 want_7).bind fun r3 =>
 bif r3 then
 ((law25_awake m).bind fun r4 =>
 ret r4)
 else
 ret false
theorem L_law25_OnewireRoundTrips_l8_step (m n : Nat) (at_8 : Int) (i_9 : Int) (l_1 : List Item) (c1 : Onewire) (runs_5 : List Run) (want_7 : List Event) : L_law25_OnewireRoundTrips_l8 m (n + 1) at_8 i_9 l_1 c1 runs_5 want_7 = b_law25_OnewireRoundTrips_l8 m (fun x0 => some (w_law25_OnewireRoundTrips x0)) (fun at_8 i_9 l_1 c1 runs_5 want_7 => L_law25_OnewireRoundTrips_l8 m n at_8 i_9 l_1 c1 runs_5 want_7) at_8 i_9 l_1 c1 runs_5 want_7 := by kernel_rfl
theorem b_law25_OnewireRoundTrips_l8_map (m : Nat) {k_l8 : Int → Int → List Item → Onewire → List Run → List Event → Option (List (RV C))} {q_l8 : Int → Int → List Item → Onewire → List Run → List Event → Option (Bool)} (h_l8 : ∀ at_8 i_9 l_1 c1 runs_5 want_7, k_l8 at_8 i_9 l_1 c1 runs_5 want_7 = (q_l8 at_8 i_9 l_1 c1 runs_5 want_7).map w_law25_OnewireRoundTrips) (at_8 : Int) (i_9 : Int) (l_1 : List Item) (c1 : Onewire) (runs_5 : List Run) (want_7 : List Event) : b_law25_OnewireRoundTrips_l8 m (fun x0 => some (w_law25_OnewireRoundTrips x0)) k_l8 at_8 i_9 l_1 c1 runs_5 want_7 = (b_law25_OnewireRoundTrips_l8 m (fun x0 => some x0) q_l8 at_8 i_9 l_1 c1 runs_5 want_7).map w_law25_OnewireRoundTrips := by
  simp only [b_law25_OnewireRoundTrips_l8, cond_map, bind_map, map_none, map_some, h_l8]
noncomputable def law25_OnewireRoundTrips_l8 (m : Nat) : Nat → Int → Int → List Item → Onewire → List Run → List Event → Option (Bool)
  | 0, _, _, _, _, _, _ => none
  | n + 1, at_8, i_9, l_1, c1, runs_5, want_7 => b_law25_OnewireRoundTrips_l8 m (fun x0 => some x0) (fun at_8 i_9 l_1 c1 runs_5 want_7 => law25_OnewireRoundTrips_l8 m n at_8 i_9 l_1 c1 runs_5 want_7) at_8 i_9 l_1 c1 runs_5 want_7
theorem L_law25_OnewireRoundTrips_l8_eq (m : Nat) : ∀ (n : Nat) (at_8 : Int) (i_9 : Int) (l_1 : List Item) (c1 : Onewire) (runs_5 : List Run) (want_7 : List Event), L_law25_OnewireRoundTrips_l8 m n at_8 i_9 l_1 c1 runs_5 want_7 = (law25_OnewireRoundTrips_l8 m n at_8 i_9 l_1 c1 runs_5 want_7).map w_law25_OnewireRoundTrips
  | 0, at_8, i_9, l_1, c1, runs_5, want_7 => by kernel_rfl
  | n + 1, at_8, i_9, l_1, c1, runs_5, want_7 => by
    rw [L_law25_OnewireRoundTrips_l8_step]
    exact b_law25_OnewireRoundTrips_l8_map m (fun at_8 i_9 l_1 c1 runs_5 want_7 => L_law25_OnewireRoundTrips_l8_eq m n at_8 i_9 l_1 c1 runs_5 want_7) at_8 i_9 l_1 c1 runs_5 want_7
noncomputable def b_law25_OnewireRoundTrips {R : Type} (m : Nat) (ret : Bool → Option R) (k_l8 : Int → Int → List Item → Onewire → List Run → List Event → Option R) (c_0 : Onewire) (l_1 : List Item) : Option R :=
 (law25_tiny m l_1).bind fun r0 =>
 bif !r0 then
 ((law25_awake m).bind fun r1 =>
 ret r1)
 else
 (onewire_Encode m c_0 l_1).bind fun r2 =>
 bif r2.snd != 0 then
 (bif (r2.fst.length : Int) == 0 then
 ((law25_awake m).bind fun r3 =>
 ret r3)
 else
 ret false)
 else
 k_l8 (IntKind.i64.wrap (8 * c_0.T)) 0 l_1 c_0 r2.fst []
theorem law25_OnewireRoundTrips_pre (m : Nat) (c_0 : Onewire) (l_1 : List Item) : funK Try.prog (Ψ_law25_OnewireRoundTrips m) keep m 1 6 [(dS of_Onewire cells_Onewire of_Onewire_ok).e c_0, (dRow 53).e l_1] = b_law25_OnewireRoundTrips m (fun x0 => some (w_law25_OnewireRoundTrips x0)) (fun at_8 i_9 l_1 c1 runs_5 want_7 => L_law25_OnewireRoundTrips_l8 m m at_8 i_9 l_1 c1 runs_5 want_7) c_0 l_1 := by kernel_rfl
theorem b_law25_OnewireRoundTrips_map (m : Nat) {k_l8 : Int → Int → List Item → Onewire → List Run → List Event → Option (List (RV C))} {q_l8 : Int → Int → List Item → Onewire → List Run → List Event → Option (Bool)} (h_l8 : ∀ at_8 i_9 l_1 c1 runs_5 want_7, k_l8 at_8 i_9 l_1 c1 runs_5 want_7 = (q_l8 at_8 i_9 l_1 c1 runs_5 want_7).map w_law25_OnewireRoundTrips) (c_0 : Onewire) (l_1 : List Item) : b_law25_OnewireRoundTrips m (fun x0 => some (w_law25_OnewireRoundTrips x0)) k_l8 c_0 l_1 = (b_law25_OnewireRoundTrips m (fun x0 => some x0) q_l8 c_0 l_1).map w_law25_OnewireRoundTrips := by
  simp only [b_law25_OnewireRoundTrips, cond_map, bind_map, map_none, map_some, h_l8]
noncomputable def law25_OnewireRoundTrips (m : Nat) (c_0 : Onewire) (l_1 : List Item) : Option (Bool) := b_law25_OnewireRoundTrips m (fun x0 => some x0) (fun at_8 i_9 l_1 c1 runs_5 want_7 => law25_OnewireRoundTrips_l8 m m at_8 i_9 l_1 c1 runs_5 want_7) c_0 l_1
theorem law25_OnewireRoundTrips_fun (m : Nat) (c_0 : Onewire) (l_1 : List Item) : funK Try.prog (Ψ_law25_OnewireRoundTrips m) keep m 1 6 [(dS of_Onewire cells_Onewire of_Onewire_ok).e c_0, (dRow 53).e l_1] = (law25_OnewireRoundTrips m c_0 l_1).map w_law25_OnewireRoundTrips := by
  rw [law25_OnewireRoundTrips_pre]
  exact b_law25_OnewireRoundTrips_map m (fun at_8 i_9 l_1 c1 runs_5 want_7 => L_law25_OnewireRoundTrips_l8_eq m m at_8 i_9 l_1 c1 runs_5 want_7) c_0 l_1
noncomputable def K_law25_OnewireRoundTrips (m : Nat) : KnownF C := mkK (dCons (dS of_Onewire cells_Onewire of_Onewire_ok) (dCons (dRow 53) dNil)) (fun a => law25_OnewireRoundTrips m a.1 a.2.1) w_law25_OnewireRoundTrips
theorem K_law25_OnewireRoundTrips_ok (m : Nat) : KnownAt C Try.prog 6 fun l => (K_law25_OnewireRoundTrips m).run _ l some :=
  mkK_known good fit (Ψ_law25_OnewireRoundTrips_ok m) (keep := keep) (m := m) (d := 1) fun a => law25_OnewireRoundTrips_fun m a.1 a.2.1
end Go.Abs.K
