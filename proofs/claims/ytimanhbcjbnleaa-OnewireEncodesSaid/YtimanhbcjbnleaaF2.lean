/- Plain functions for the functions of the seat, printed by a program of this claim's own, with their proofs. -/
import Derived.Test.YtimanhbcjbnleaaF1
set_option linter.unusedVariables false
set_option linter.unusedSimpArgs false
set_option maxRecDepth 100000
namespace Go.Abs.K
open Go Go.Abs Go.Proofs
/-! ### signalbench/signalbenchlaw25.chained -/
noncomputable def Ψ_law25_chained (m : Nat) : Known C := fun f => match f with
  | 46 => some (K_ref07_Valid m)
  | _ => none
theorem Ψ_law25_chained_ok (m : Nat) : KnownOk C Try.prog (Ψ_law25_chained m) := by
  intro f φ h
  unfold Ψ_law25_chained at h
  split at h
  · injection h with h; subst h; exact K_ref07_Valid_ok m
  · cases h
def w_law25_chained (b : Bool) : List (RV C) := [dBool.e b]
noncomputable def Q_law25_chained_2 (m : Nat) : St C → (Exit → St C → Option (List (RV C))) → Option (List (RV C)) := fun σ k => codeK Try.prog (Ψ_law25_chained m) (callK Try.prog (Ψ_law25_chained m) keep m 0) (keep 29) m (subC body29 [.r, .l, .r, .b, .o]) σ k
noncomputable def KL_law25_chained_2 (m : Nat) : Exit → St C → Option (List (RV C)) := contK Try.prog (Ψ_law25_chained m) (callK Try.prog (Ψ_law25_chained m) keep m 0) (keep 29) m body29 [.r, .l, .r, .b, .o] (leaveK Try.prog Try.f29.results.toList (finK Try.prog Try.f29.resultTypes.toList))
noncomputable def L_law25_chained_l2 (m n : Nat) (i_3 : Int) (l_0 : List Event) : Option (List (RV C)) := iterK (Q_law25_chained_2 m) (St.norm (keep 29 2)) n ({ T := [.fl (.one (.sl 0)), .dead, .dead, .fl (.one (.int .i64 i_3))] ++ List.replicate 56 .dead, F := [[]], H := [.row 33 false l_0] } : St C) (KL_law25_chained_2 m)
noncomputable def b_law25_chained_l2 {R : Type} (m : Nat) (ret : Bool → Option R) (k_l2 : Int → List Event → Option R) (i_3 : Int) (l_0 : List Event) : Option R :=
 bif decide (i_3 < (l_0.length : Int)) then
 (bif decide (0 ≤ i_3) then
 (bif decide (i_3 < (l_0.length : Int)) then
 ((ref07_Valid m (l_0.getD i_3.toNat dflt_Event)).bind fun r0 =>
 bif !r0 then
 ret false
 else
 bif (l_0.getD i_3.toNat dflt_Event).Kind != 1 then
 ret false
 else
 bif (l_0.getD i_3.toNat dflt_Event).Fault != 0 then
 ret false
 else
 bif decide ((l_0.getD i_3.toNat dflt_Event).From ≥ (l_0.getD i_3.toNat dflt_Event).To) then
 ret false
 else
 bif decide ((l_0.getD i_3.toNat dflt_Event).Value < 0) then
 ret false
 else
 bif decide ((l_0.getD i_3.toNat dflt_Event).Value > 1) then
 ret false
 else
 bif decide (i_3 > 0) then
 bif decide (0 ≤ IntKind.i64.wrap (i_3 - 1)) then
 bif decide (IntKind.i64.wrap (i_3 - 1) < (l_0.length : Int)) then
 bif (l_0.getD i_3.toNat dflt_Event).From != (l_0.getD (IntKind.i64.wrap (i_3 - 1)).toNat dflt_Event).To then
 ret false
 else
 k_l2 (IntKind.i64.wrap (i_3 + 1)) l_0
 else
 none
 else
 none
 else
 k_l2 (IntKind.i64.wrap (i_3 + 1)) l_0)
 else
 none)
 else
 none)
 else
 ret true
theorem L_law25_chained_l2_step (m n : Nat) (i_3 : Int) (l_0 : List Event) : L_law25_chained_l2 m (n + 1) i_3 l_0 = b_law25_chained_l2 m (fun x0 => some (w_law25_chained x0)) (fun i_3 l_0 => L_law25_chained_l2 m n i_3 l_0) i_3 l_0 := by kernel_rfl
theorem b_law25_chained_l2_map (m : Nat) {k_l2 : Int → List Event → Option (List (RV C))} {q_l2 : Int → List Event → Option (Bool)} (h_l2 : ∀ i_3 l_0, k_l2 i_3 l_0 = (q_l2 i_3 l_0).map w_law25_chained) (i_3 : Int) (l_0 : List Event) : b_law25_chained_l2 m (fun x0 => some (w_law25_chained x0)) k_l2 i_3 l_0 = (b_law25_chained_l2 m (fun x0 => some x0) q_l2 i_3 l_0).map w_law25_chained := by
  simp only [b_law25_chained_l2, cond_map, bind_map, map_none, map_some, h_l2]
noncomputable def law25_chained_l2 (m : Nat) : Nat → Int → List Event → Option (Bool)
  | 0, _, _ => none
  | n + 1, i_3, l_0 => b_law25_chained_l2 m (fun x0 => some x0) (fun i_3 l_0 => law25_chained_l2 m n i_3 l_0) i_3 l_0
theorem L_law25_chained_l2_eq (m : Nat) : ∀ (n : Nat) (i_3 : Int) (l_0 : List Event), L_law25_chained_l2 m n i_3 l_0 = (law25_chained_l2 m n i_3 l_0).map w_law25_chained
  | 0, i_3, l_0 => by kernel_rfl
  | n + 1, i_3, l_0 => by
    rw [L_law25_chained_l2_step]
    exact b_law25_chained_l2_map m (fun i_3 l_0 => L_law25_chained_l2_eq m n i_3 l_0) i_3 l_0
noncomputable def b_law25_chained {R : Type} (m : Nat) (ret : Bool → Option R) (k_l2 : Int → List Event → Option R) (l_0 : List Event) : Option R :=
 k_l2 0 l_0
theorem law25_chained_pre (m : Nat) (l_0 : List Event) : funK Try.prog (Ψ_law25_chained m) keep m 1 29 [(dRow 33).e l_0] = b_law25_chained m (fun x0 => some (w_law25_chained x0)) (fun i_3 l_0 => L_law25_chained_l2 m m i_3 l_0) l_0 := by kernel_rfl
theorem b_law25_chained_map (m : Nat) {k_l2 : Int → List Event → Option (List (RV C))} {q_l2 : Int → List Event → Option (Bool)} (h_l2 : ∀ i_3 l_0, k_l2 i_3 l_0 = (q_l2 i_3 l_0).map w_law25_chained) (l_0 : List Event) : b_law25_chained m (fun x0 => some (w_law25_chained x0)) k_l2 l_0 = (b_law25_chained m (fun x0 => some x0) q_l2 l_0).map w_law25_chained := by
  simp only [b_law25_chained, cond_map, bind_map, map_none, map_some, h_l2]
noncomputable def law25_chained (m : Nat) (l_0 : List Event) : Option (Bool) := b_law25_chained m (fun x0 => some x0) (fun i_3 l_0 => law25_chained_l2 m m i_3 l_0) l_0
theorem law25_chained_fun (m : Nat) (l_0 : List Event) : funK Try.prog (Ψ_law25_chained m) keep m 1 29 [(dRow 33).e l_0] = (law25_chained m l_0).map w_law25_chained := by
  rw [law25_chained_pre]
  exact b_law25_chained_map m (fun i_3 l_0 => L_law25_chained_l2_eq m m i_3 l_0) l_0
noncomputable def K_law25_chained (m : Nat) : KnownF C := mkK (dCons (dRow 33) dNil) (fun a => law25_chained m a.1) w_law25_chained
theorem K_law25_chained_ok (m : Nat) : KnownAt C Try.prog 29 fun l => (K_law25_chained m).run _ l some :=
  mkK_known good fit (Ψ_law25_chained_ok m) (keep := keep) (m := m) (d := 1) fun a => law25_chained_fun m a.1
/-! ### signalbench/signalbenchlaw25.cut -/
def w_law25_cut (b : List Event) : List (RV C) := [(dRow 33).e b]
noncomputable def Q_law25_cut_3 (m : Nat) : St C → (Exit → St C → Option (List (RV C))) → Option (List (RV C)) := fun σ k => codeK Try.prog Ψ0 (callK Try.prog Ψ0 keep m 0) (keep 30) m (subC body30 [.r, .r, .l, .r, .b, .o]) σ k
noncomputable def KL_law25_cut_3 (m : Nat) : Exit → St C → Option (List (RV C)) := contK Try.prog Ψ0 (callK Try.prog Ψ0 keep m 0) (keep 30) m body30 [.r, .r, .l, .r, .b, .o] (leaveK Try.prog Try.f30.results.toList (finK Try.prog Try.f30.resultTypes.toList))
noncomputable def L_law25_cut_l3 (m n : Nat) (ticks_1 : Int) (i_6 : Int) (l_0 : List Event) (out_5 : List Event) : Option (List (RV C)) := iterK (Q_law25_cut_3 m) (St.norm (keep 30 3)) n ({ T := [.fl (.one (.sl 0)), .fl (.one (.int .i64 ticks_1)), .dead, .dead, .dead, .fl (.one (.sl 1)), .fl (.one (.int .i64 i_6))] ++ List.replicate 59 .dead, F := [[]], H := [.row 33 false l_0, .row 33 true out_5] } : St C) (KL_law25_cut_3 m)
noncomputable def b_law25_cut_l3 {R : Type} (m : Nat) (ret : List Event → Option R) (k_l3 : Int → Int → List Event → List Event → Option R) (ticks_1 : Int) (i_6 : Int) (l_0 : List Event) (out_5 : List Event) : Option R :=
 bif decide (i_6 < (l_0.length : Int)) then
 bif decide (0 ≤ i_6) then
 bif decide (i_6 < (l_0.length : Int)) then
 bif decide (ticks_1 > 0) then
 bif (l_0.getD i_6.toNat dflt_Event).Kind == 1 then
 bif decide ((l_0.getD i_6.toNat dflt_Event).From ≥ 0) then
 bif decide ((l_0.getD i_6.toNat dflt_Event).To > (l_0.getD i_6.toNat dflt_Event).From) then
 bif decide (IntKind.i64.wrap ((l_0.getD i_6.toNat dflt_Event).To - (l_0.getD i_6.toNat dflt_Event).From) > ticks_1) then
 bif decide ((out_5.length + 1) * 64 ≤ 140737488355328) then
 bif decide (((out_5 ++ [Event.mk (l_0.getD i_6.toNat dflt_Event).Kind (l_0.getD i_6.toNat dflt_Event).From (IntKind.i64.wrap ((l_0.getD i_6.toNat dflt_Event).From + ticks_1)) (l_0.getD i_6.toNat dflt_Event).Value (l_0.getD i_6.toNat dflt_Event).Aux (l_0.getD i_6.toNat dflt_Event).Data (l_0.getD i_6.toNat dflt_Event).Fault]).length + 1) * 64 ≤ 140737488355328) then
 k_l3 ticks_1 (IntKind.i64.wrap (i_6 + 1)) l_0 (out_5 ++ [Event.mk (l_0.getD i_6.toNat dflt_Event).Kind (l_0.getD i_6.toNat dflt_Event).From (IntKind.i64.wrap ((l_0.getD i_6.toNat dflt_Event).From + ticks_1)) (l_0.getD i_6.toNat dflt_Event).Value (l_0.getD i_6.toNat dflt_Event).Aux (l_0.getD i_6.toNat dflt_Event).Data (l_0.getD i_6.toNat dflt_Event).Fault] ++ [Event.mk (l_0.getD i_6.toNat dflt_Event).Kind (IntKind.i64.wrap ((l_0.getD i_6.toNat dflt_Event).From + ticks_1)) (l_0.getD i_6.toNat dflt_Event).To (l_0.getD i_6.toNat dflt_Event).Value (l_0.getD i_6.toNat dflt_Event).Aux (l_0.getD i_6.toNat dflt_Event).Data (l_0.getD i_6.toNat dflt_Event).Fault])
 else
 none
 else
 none
 else
 bif decide ((out_5.length + 1) * 64 ≤ 140737488355328) then
 k_l3 ticks_1 (IntKind.i64.wrap (i_6 + 1)) l_0 (out_5 ++ [l_0.getD i_6.toNat dflt_Event])
 else
 none
 else
 bif decide ((out_5.length + 1) * 64 ≤ 140737488355328) then
 k_l3 ticks_1 (IntKind.i64.wrap (i_6 + 1)) l_0 (out_5 ++ [l_0.getD i_6.toNat dflt_Event])
 else
 none
 else
 bif decide ((out_5.length + 1) * 64 ≤ 140737488355328) then
 k_l3 ticks_1 (IntKind.i64.wrap (i_6 + 1)) l_0 (out_5 ++ [l_0.getD i_6.toNat dflt_Event])
 else
 none
 else
 bif decide ((out_5.length + 1) * 64 ≤ 140737488355328) then
 k_l3 ticks_1 (IntKind.i64.wrap (i_6 + 1)) l_0 (out_5 ++ [l_0.getD i_6.toNat dflt_Event])
 else
 none
 else
 bif decide ((out_5.length + 1) * 64 ≤ 140737488355328) then
 k_l3 ticks_1 (IntKind.i64.wrap (i_6 + 1)) l_0 (out_5 ++ [l_0.getD i_6.toNat dflt_Event])
 else
 none
 else
 none
 else
 none
 else
 ret out_5
theorem L_law25_cut_l3_step (m n : Nat) (ticks_1 : Int) (i_6 : Int) (l_0 : List Event) (out_5 : List Event) : L_law25_cut_l3 m (n + 1) ticks_1 i_6 l_0 out_5 = b_law25_cut_l3 m (fun x0 => some (w_law25_cut x0)) (fun ticks_1 i_6 l_0 out_5 => L_law25_cut_l3 m n ticks_1 i_6 l_0 out_5) ticks_1 i_6 l_0 out_5 := by kernel_rfl
theorem b_law25_cut_l3_map (m : Nat) {k_l3 : Int → Int → List Event → List Event → Option (List (RV C))} {q_l3 : Int → Int → List Event → List Event → Option (List Event)} (h_l3 : ∀ ticks_1 i_6 l_0 out_5, k_l3 ticks_1 i_6 l_0 out_5 = (q_l3 ticks_1 i_6 l_0 out_5).map w_law25_cut) (ticks_1 : Int) (i_6 : Int) (l_0 : List Event) (out_5 : List Event) : b_law25_cut_l3 m (fun x0 => some (w_law25_cut x0)) k_l3 ticks_1 i_6 l_0 out_5 = (b_law25_cut_l3 m (fun x0 => some x0) q_l3 ticks_1 i_6 l_0 out_5).map w_law25_cut := by
  simp only [b_law25_cut_l3, cond_map, bind_map, map_none, map_some, h_l3]
noncomputable def law25_cut_l3 (m : Nat) : Nat → Int → Int → List Event → List Event → Option (List Event)
  | 0, _, _, _, _ => none
  | n + 1, ticks_1, i_6, l_0, out_5 => b_law25_cut_l3 m (fun x0 => some x0) (fun ticks_1 i_6 l_0 out_5 => law25_cut_l3 m n ticks_1 i_6 l_0 out_5) ticks_1 i_6 l_0 out_5
theorem L_law25_cut_l3_eq (m : Nat) : ∀ (n : Nat) (ticks_1 : Int) (i_6 : Int) (l_0 : List Event) (out_5 : List Event), L_law25_cut_l3 m n ticks_1 i_6 l_0 out_5 = (law25_cut_l3 m n ticks_1 i_6 l_0 out_5).map w_law25_cut
  | 0, ticks_1, i_6, l_0, out_5 => by kernel_rfl
  | n + 1, ticks_1, i_6, l_0, out_5 => by
    rw [L_law25_cut_l3_step]
    exact b_law25_cut_l3_map m (fun ticks_1 i_6 l_0 out_5 => L_law25_cut_l3_eq m n ticks_1 i_6 l_0 out_5) ticks_1 i_6 l_0 out_5
noncomputable def b_law25_cut {R : Type} (m : Nat) (ret : List Event → Option R) (k_l3 : Int → Int → List Event → List Event → Option R) (l_0 : List Event) (ticks_1 : Int) : Option R :=
 k_l3 ticks_1 0 l_0 []
theorem law25_cut_pre (m : Nat) (l_0 : List Event) (ticks_1 : Int) : funK Try.prog Ψ0 keep m 1 30 [(dRow 33).e l_0, (dInt .i64).e ticks_1] = b_law25_cut m (fun x0 => some (w_law25_cut x0)) (fun ticks_1 i_6 l_0 out_5 => L_law25_cut_l3 m m ticks_1 i_6 l_0 out_5) l_0 ticks_1 := by kernel_rfl
theorem b_law25_cut_map (m : Nat) {k_l3 : Int → Int → List Event → List Event → Option (List (RV C))} {q_l3 : Int → Int → List Event → List Event → Option (List Event)} (h_l3 : ∀ ticks_1 i_6 l_0 out_5, k_l3 ticks_1 i_6 l_0 out_5 = (q_l3 ticks_1 i_6 l_0 out_5).map w_law25_cut) (l_0 : List Event) (ticks_1 : Int) : b_law25_cut m (fun x0 => some (w_law25_cut x0)) k_l3 l_0 ticks_1 = (b_law25_cut m (fun x0 => some x0) q_l3 l_0 ticks_1).map w_law25_cut := by
  simp only [b_law25_cut, cond_map, bind_map, map_none, map_some, h_l3]
noncomputable def law25_cut (m : Nat) (l_0 : List Event) (ticks_1 : Int) : Option (List Event) := b_law25_cut m (fun x0 => some x0) (fun ticks_1 i_6 l_0 out_5 => law25_cut_l3 m m ticks_1 i_6 l_0 out_5) l_0 ticks_1
theorem law25_cut_fun (m : Nat) (l_0 : List Event) (ticks_1 : Int) : funK Try.prog Ψ0 keep m 1 30 [(dRow 33).e l_0, (dInt .i64).e ticks_1] = (law25_cut m l_0 ticks_1).map w_law25_cut := by
  rw [law25_cut_pre]
  exact b_law25_cut_map m (fun ticks_1 i_6 l_0 out_5 => L_law25_cut_l3_eq m m ticks_1 i_6 l_0 out_5) l_0 ticks_1
noncomputable def K_law25_cut (m : Nat) : KnownF C := mkK (dCons (dRow 33) (dCons (dInt .i64) dNil)) (fun a => law25_cut m a.1 a.2.1) w_law25_cut
theorem K_law25_cut_ok (m : Nat) : KnownAt C Try.prog 30 fun l => (K_law25_cut m).run _ l some :=
  mkK_known good fit Ψ0_ok (keep := keep) (m := m) (d := 1) fun a => law25_cut_fun m a.1 a.2.1
/-! ### signalbench/signalbenchlaw25.OnewirePieces -/
noncomputable def Ψ_law25_OnewirePieces (m : Nat) : Known C := fun f => match f with
  | 9 => some (K_law25_small m)
  | 29 => some (K_law25_chained m)
  | 10 => some (K_law25_awake m)
  | 30 => some (K_law25_cut m)
  | 20 => some (K_onewire_Decode m)
  | 15 => some (K_ref07_Same m)
  | _ => none
theorem Ψ_law25_OnewirePieces_ok (m : Nat) : KnownOk C Try.prog (Ψ_law25_OnewirePieces m) := by
  intro f φ h
  unfold Ψ_law25_OnewirePieces at h
  split at h
  · injection h with h; subst h; exact K_law25_small_ok m
  · injection h with h; subst h; exact K_law25_chained_ok m
  · injection h with h; subst h; exact K_law25_awake_ok m
  · injection h with h; subst h; exact K_law25_cut_ok m
  · injection h with h; subst h; exact K_onewire_Decode_ok m
  · injection h with h; subst h; exact K_ref07_Same_ok m
  · cases h
def w_law25_OnewirePieces (b : Bool) : List (RV C) := [dBool.e b]
noncomputable def b_law25_OnewirePieces {R : Type} (m : Nat) (ret : Bool → Option R) (c_0 : Onewire) (l_1 : List Event) (ticks_2 : Int) : Option R :=
 (law25_small m l_1).bind fun r0 =>
 bif !r0 then
 ((law25_awake m).bind fun r1 =>
 ret r1)
 else
 (law25_chained m l_1).bind fun r2 =>
 bif !r2 then
 ((law25_awake m).bind fun r3 =>
 ret r3)
 else
 (law25_cut m l_1 ticks_2).bind fun r4 =>
 (onewire_Decode m c_0 r4).bind fun r5 =>
 (onewire_Decode m c_0 l_1).bind fun r6 =>
 (ref07_Same m r5 r6).bind fun r7 =>
 bif r7 then
 ((law25_awake m).bind fun r8 =>
 ret r8)
 else
 ret false
theorem law25_OnewirePieces_pre (m : Nat) (c_0 : Onewire) (l_1 : List Event) (ticks_2 : Int) : funK Try.prog (Ψ_law25_OnewirePieces m) keep m 1 7 [(dS of_Onewire cells_Onewire of_Onewire_ok).e c_0, (dRow 33).e l_1, (dInt .i64).e ticks_2] = b_law25_OnewirePieces m (fun x0 => some (w_law25_OnewirePieces x0)) c_0 l_1 ticks_2 := by kernel_rfl
theorem b_law25_OnewirePieces_map (m : Nat) (c_0 : Onewire) (l_1 : List Event) (ticks_2 : Int) : b_law25_OnewirePieces m (fun x0 => some (w_law25_OnewirePieces x0)) c_0 l_1 ticks_2 = (b_law25_OnewirePieces m (fun x0 => some x0) c_0 l_1 ticks_2).map w_law25_OnewirePieces := by
  simp only [b_law25_OnewirePieces, cond_map, bind_map, map_none, map_some]
noncomputable def law25_OnewirePieces (m : Nat) (c_0 : Onewire) (l_1 : List Event) (ticks_2 : Int) : Option (Bool) := b_law25_OnewirePieces m (fun x0 => some x0) c_0 l_1 ticks_2
theorem law25_OnewirePieces_fun (m : Nat) (c_0 : Onewire) (l_1 : List Event) (ticks_2 : Int) : funK Try.prog (Ψ_law25_OnewirePieces m) keep m 1 7 [(dS of_Onewire cells_Onewire of_Onewire_ok).e c_0, (dRow 33).e l_1, (dInt .i64).e ticks_2] = (law25_OnewirePieces m c_0 l_1 ticks_2).map w_law25_OnewirePieces := by
  rw [law25_OnewirePieces_pre]
  exact b_law25_OnewirePieces_map m c_0 l_1 ticks_2
noncomputable def K_law25_OnewirePieces (m : Nat) : KnownF C := mkK (dCons (dS of_Onewire cells_Onewire of_Onewire_ok) (dCons (dRow 33) (dCons (dInt .i64) dNil))) (fun a => law25_OnewirePieces m a.1 a.2.1 a.2.2.1) w_law25_OnewirePieces
theorem K_law25_OnewirePieces_ok (m : Nat) : KnownAt C Try.prog 7 fun l => (K_law25_OnewirePieces m).run _ l some :=
  mkK_known good fit (Ψ_law25_OnewirePieces_ok m) (keep := keep) (m := m) (d := 1) fun a => law25_OnewirePieces_fun m a.1 a.2.1 a.2.2.1
/-! ### signalbench/signalbenchlaw25.OnewireIgnores -/
noncomputable def Ψ_law25_OnewireIgnores (m : Nat) : Known C := fun f => match f with
  | 9 => some (K_law25_small m)
  | 10 => some (K_law25_awake m)
  | 20 => some (K_onewire_Decode m)
  | 15 => some (K_ref07_Same m)
  | _ => none
theorem Ψ_law25_OnewireIgnores_ok (m : Nat) : KnownOk C Try.prog (Ψ_law25_OnewireIgnores m) := by
  intro f φ h
  unfold Ψ_law25_OnewireIgnores at h
  split at h
  · injection h with h; subst h; exact K_law25_small_ok m
  · injection h with h; subst h; exact K_law25_awake_ok m
  · injection h with h; subst h; exact K_onewire_Decode_ok m
  · injection h with h; subst h; exact K_ref07_Same_ok m
  · cases h
def w_law25_OnewireIgnores (b : Bool) : List (RV C) := [dBool.e b]
noncomputable def Q_law25_OnewireIgnores_5 (m : Nat) : St C → (Exit → St C → Option (List (RV C))) → Option (List (RV C)) := fun σ k => codeK Try.prog (Ψ_law25_OnewireIgnores m) (callK Try.prog (Ψ_law25_OnewireIgnores m) keep m 0) (keep 8) m (subC body8 [.r, .r, .r, .l, .r, .b, .o]) σ k
noncomputable def KL_law25_OnewireIgnores_5 (m : Nat) : Exit → St C → Option (List (RV C)) := contK Try.prog (Ψ_law25_OnewireIgnores m) (callK Try.prog (Ψ_law25_OnewireIgnores m) keep m 0) (keep 8) m body8 [.r, .r, .r, .l, .r, .b, .o] (leaveK Try.prog Try.f8.results.toList (finK Try.prog Try.f8.resultTypes.toList))
noncomputable def L_law25_OnewireIgnores_l5 (m n : Nat) (i_8 : Int) (l_1 : List Event) (c1 : Onewire) (c2 : Event) (m_7 : List Event) : Option (List (RV C)) := iterK (Q_law25_OnewireIgnores_5 m) (St.norm (keep 8 5)) n ({ T := [.dead, .fl (.one (.sl 0)), .dead, .fl (.one (.ptr 1 0)), .dead, .fl (.one (.ptr 2 0)), .dead, .fl (.one (.sl 3)), .fl (.one (.int .i64 i_8))] ++ List.replicate 65 .dead, F := [[]], H := [.row 33 false l_1, .box 23 (cells_Onewire c1), .box 33 (cells_Event c2), .row 33 true m_7] } : St C) (KL_law25_OnewireIgnores_5 m)
noncomputable def b_law25_OnewireIgnores_l5 {R : Type} (m : Nat) (ret : Bool → Option R) (k_l5 : Int → List Event → Onewire → Event → List Event → Option R) (i_8 : Int) (l_1 : List Event) (c1 : Onewire) (c2 : Event) (m_7 : List Event) : Option R :=
 bif decide (i_8 < (l_1.length : Int)) then
 bif decide (0 ≤ i_8) then
 bif decide (i_8 < (l_1.length : Int)) then
 bif decide ((m_7.length + 2) * 64 ≤ 140737488355328) then
 k_l5 (IntKind.i64.wrap (i_8 + 1)) l_1 c1 c2 (m_7 ++ [c2, l_1.getD i_8.toNat dflt_Event])
 else
 none
 else
 none
 else
 none
 else
 bif decide ((m_7.length + 1) * 64 ≤ 140737488355328) then
 ((onewire_Decode m c1 (m_7 ++ [c2])).bind fun r0 =>
 (onewire_Decode m c1 l_1).bind fun r1 =>
 (ref07_Same m r0 r1).bind fun r2 =>
 bif r2 then
 ((law25_awake m).bind fun r3 =>
 ret r3)
 else
 ret false)
 else
 none
theorem L_law25_OnewireIgnores_l5_step (m n : Nat) (i_8 : Int) (l_1 : List Event) (c1 : Onewire) (c2 : Event) (m_7 : List Event) : L_law25_OnewireIgnores_l5 m (n + 1) i_8 l_1 c1 c2 m_7 = b_law25_OnewireIgnores_l5 m (fun x0 => some (w_law25_OnewireIgnores x0)) (fun i_8 l_1 c1 c2 m_7 => L_law25_OnewireIgnores_l5 m n i_8 l_1 c1 c2 m_7) i_8 l_1 c1 c2 m_7 := by kernel_rfl
theorem b_law25_OnewireIgnores_l5_map (m : Nat) {k_l5 : Int → List Event → Onewire → Event → List Event → Option (List (RV C))} {q_l5 : Int → List Event → Onewire → Event → List Event → Option (Bool)} (h_l5 : ∀ i_8 l_1 c1 c2 m_7, k_l5 i_8 l_1 c1 c2 m_7 = (q_l5 i_8 l_1 c1 c2 m_7).map w_law25_OnewireIgnores) (i_8 : Int) (l_1 : List Event) (c1 : Onewire) (c2 : Event) (m_7 : List Event) : b_law25_OnewireIgnores_l5 m (fun x0 => some (w_law25_OnewireIgnores x0)) k_l5 i_8 l_1 c1 c2 m_7 = (b_law25_OnewireIgnores_l5 m (fun x0 => some x0) q_l5 i_8 l_1 c1 c2 m_7).map w_law25_OnewireIgnores := by
  simp only [b_law25_OnewireIgnores_l5, cond_map, bind_map, map_none, map_some, h_l5]
noncomputable def law25_OnewireIgnores_l5 (m : Nat) : Nat → Int → List Event → Onewire → Event → List Event → Option (Bool)
  | 0, _, _, _, _, _ => none
  | n + 1, i_8, l_1, c1, c2, m_7 => b_law25_OnewireIgnores_l5 m (fun x0 => some x0) (fun i_8 l_1 c1 c2 m_7 => law25_OnewireIgnores_l5 m n i_8 l_1 c1 c2 m_7) i_8 l_1 c1 c2 m_7
theorem L_law25_OnewireIgnores_l5_eq (m : Nat) : ∀ (n : Nat) (i_8 : Int) (l_1 : List Event) (c1 : Onewire) (c2 : Event) (m_7 : List Event), L_law25_OnewireIgnores_l5 m n i_8 l_1 c1 c2 m_7 = (law25_OnewireIgnores_l5 m n i_8 l_1 c1 c2 m_7).map w_law25_OnewireIgnores
  | 0, i_8, l_1, c1, c2, m_7 => by kernel_rfl
  | n + 1, i_8, l_1, c1, c2, m_7 => by
    rw [L_law25_OnewireIgnores_l5_step]
    exact b_law25_OnewireIgnores_l5_map m (fun i_8 l_1 c1 c2 m_7 => L_law25_OnewireIgnores_l5_eq m n i_8 l_1 c1 c2 m_7) i_8 l_1 c1 c2 m_7
noncomputable def b_law25_OnewireIgnores {R : Type} (m : Nat) (ret : Bool → Option R) (k_l5 : Int → List Event → Onewire → Event → List Event → Option R) (c_0 : Onewire) (l_1 : List Event) (x_2 : Event) : Option R :=
 (law25_small m l_1).bind fun r0 =>
 bif !r0 then
 ((law25_awake m).bind fun r1 =>
 ret r1)
 else
 bif decide ((x_2.Data.size : Int) > 20) then
 ((law25_awake m).bind fun r2 =>
 ret r2)
 else
 bif x_2.Kind == 1 then
 (bif x_2.Fault == 0 then
 (bif decide (x_2.From < x_2.To) then
 (bif decide (x_2.Value ≥ 0) then
 (bif decide (x_2.Value ≤ 1) then
 ((law25_awake m).bind fun r3 =>
 ret r3)
 else
 k_l5 0 l_1 c_0 x_2 [])
 else
 k_l5 0 l_1 c_0 x_2 [])
 else
 k_l5 0 l_1 c_0 x_2 [])
 else
 k_l5 0 l_1 c_0 x_2 [])
 else
 k_l5 0 l_1 c_0 x_2 []
theorem law25_OnewireIgnores_pre (m : Nat) (c_0 : Onewire) (l_1 : List Event) (x_2 : Event) : funK Try.prog (Ψ_law25_OnewireIgnores m) keep m 1 8 [(dS of_Onewire cells_Onewire of_Onewire_ok).e c_0, (dRow 33).e l_1, (dS of_Event cells_Event of_Event_ok).e x_2] = b_law25_OnewireIgnores m (fun x0 => some (w_law25_OnewireIgnores x0)) (fun i_8 l_1 c1 c2 m_7 => L_law25_OnewireIgnores_l5 m m i_8 l_1 c1 c2 m_7) c_0 l_1 x_2 := by kernel_rfl
theorem b_law25_OnewireIgnores_map (m : Nat) {k_l5 : Int → List Event → Onewire → Event → List Event → Option (List (RV C))} {q_l5 : Int → List Event → Onewire → Event → List Event → Option (Bool)} (h_l5 : ∀ i_8 l_1 c1 c2 m_7, k_l5 i_8 l_1 c1 c2 m_7 = (q_l5 i_8 l_1 c1 c2 m_7).map w_law25_OnewireIgnores) (c_0 : Onewire) (l_1 : List Event) (x_2 : Event) : b_law25_OnewireIgnores m (fun x0 => some (w_law25_OnewireIgnores x0)) k_l5 c_0 l_1 x_2 = (b_law25_OnewireIgnores m (fun x0 => some x0) q_l5 c_0 l_1 x_2).map w_law25_OnewireIgnores := by
  simp only [b_law25_OnewireIgnores, cond_map, bind_map, map_none, map_some, h_l5]
noncomputable def law25_OnewireIgnores (m : Nat) (c_0 : Onewire) (l_1 : List Event) (x_2 : Event) : Option (Bool) := b_law25_OnewireIgnores m (fun x0 => some x0) (fun i_8 l_1 c1 c2 m_7 => law25_OnewireIgnores_l5 m m i_8 l_1 c1 c2 m_7) c_0 l_1 x_2
theorem law25_OnewireIgnores_fun (m : Nat) (c_0 : Onewire) (l_1 : List Event) (x_2 : Event) : funK Try.prog (Ψ_law25_OnewireIgnores m) keep m 1 8 [(dS of_Onewire cells_Onewire of_Onewire_ok).e c_0, (dRow 33).e l_1, (dS of_Event cells_Event of_Event_ok).e x_2] = (law25_OnewireIgnores m c_0 l_1 x_2).map w_law25_OnewireIgnores := by
  rw [law25_OnewireIgnores_pre]
  exact b_law25_OnewireIgnores_map m (fun i_8 l_1 c1 c2 m_7 => L_law25_OnewireIgnores_l5_eq m m i_8 l_1 c1 c2 m_7) c_0 l_1 x_2
noncomputable def K_law25_OnewireIgnores (m : Nat) : KnownF C := mkK (dCons (dS of_Onewire cells_Onewire of_Onewire_ok) (dCons (dRow 33) (dCons (dS of_Event cells_Event of_Event_ok) dNil))) (fun a => law25_OnewireIgnores m a.1 a.2.1 a.2.2.1) w_law25_OnewireIgnores
theorem K_law25_OnewireIgnores_ok (m : Nat) : KnownAt C Try.prog 8 fun l => (K_law25_OnewireIgnores m).run _ l some :=
  mkK_known good fit (Ψ_law25_OnewireIgnores_ok m) (keep := keep) (m := m) (d := 1) fun a => law25_OnewireIgnores_fun m a.1 a.2.1 a.2.2.1
end Go.Abs.K
