/- Plain functions for the functions of the seat, printed by a program of this claim's own, with their proofs. -/
import Derived.Test.YteennedaijeiaaaB
set_option linter.unusedVariables false
set_option linter.unusedSimpArgs false
set_option maxRecDepth 100000
namespace Go.Abs.K
open Go Go.Abs Go.Proofs
/-! ### signalbench/signalbenchlaw31.small -/
def w_law31_small (b : Bool) : List (RV C) := [dBool.e b]
noncomputable def Q_law31_small_4 (m : Nat) : St C → (Exit → St C → Option (List (RV C))) → Option (List (RV C)) := fun σ k => codeK Try.prog Ψ0 (callK Try.prog Ψ0 keep m 0) (keep 8) m (subC body8 [.r, .r, .l, .r, .b, .o]) σ k
noncomputable def KL_law31_small_4 (m : Nat) : Exit → St C → Option (List (RV C)) := contK Try.prog Ψ0 (callK Try.prog Ψ0 keep m 0) (keep 8) m body8 [.r, .r, .l, .r, .b, .o] (leaveK Try.prog Try.f8.results.toList (finK Try.prog Try.f8.resultTypes.toList))
noncomputable def L_law31_small_l4 (m n : Nat) (i_3 : Int) (l_0 : List Event) : Option (List (RV C)) := iterK (Q_law31_small_4 m) (St.norm (keep 8 4)) n ({ T := [.fl (.one (.sl 0)), .dead, .dead, .fl (.one (.int .i64 i_3))] ++ List.replicate 16 .dead, F := [[]], H := [.row 33 false l_0] } : St C) (KL_law31_small_4 m)
noncomputable def b_law31_small_l4 {R : Type} (m : Nat) (ret : Bool → Option R) (k_l4 : Int → List Event → Option R) (i_3 : Int) (l_0 : List Event) : Option R :=
 bif decide (i_3 < (l_0.length : Int)) then
 bif decide (0 ≤ i_3) then
 bif decide (i_3 < (l_0.length : Int)) then
 bif decide (((l_0.getD i_3.toNat dflt_Event).Data.size : Int) > 40) then
 ret false
 else
 k_l4 (IntKind.i64.wrap (i_3 + 1)) l_0
 else
 none
 else
 none
 else
 ret true
theorem L_law31_small_l4_step (m n : Nat) (i_3 : Int) (l_0 : List Event) : L_law31_small_l4 m (n + 1) i_3 l_0 = b_law31_small_l4 m (fun x0 => some (w_law31_small x0)) (fun i_3 l_0 => L_law31_small_l4 m n i_3 l_0) i_3 l_0 := by kernel_rfl
theorem b_law31_small_l4_map (m : Nat) {k_l4 : Int → List Event → Option (List (RV C))} {q_l4 : Int → List Event → Option (Bool)} (h_l4 : ∀ i_3 l_0, k_l4 i_3 l_0 = (q_l4 i_3 l_0).map w_law31_small) (i_3 : Int) (l_0 : List Event) : b_law31_small_l4 m (fun x0 => some (w_law31_small x0)) k_l4 i_3 l_0 = (b_law31_small_l4 m (fun x0 => some x0) q_l4 i_3 l_0).map w_law31_small := by
  simp only [b_law31_small_l4, cond_map, bind_map, map_none, map_some, h_l4]
noncomputable def law31_small_l4 (m : Nat) : Nat → Int → List Event → Option (Bool)
  | 0, _, _ => none
  | n + 1, i_3, l_0 => b_law31_small_l4 m (fun x0 => some x0) (fun i_3 l_0 => law31_small_l4 m n i_3 l_0) i_3 l_0
theorem L_law31_small_l4_eq (m : Nat) : ∀ (n : Nat) (i_3 : Int) (l_0 : List Event), L_law31_small_l4 m n i_3 l_0 = (law31_small_l4 m n i_3 l_0).map w_law31_small
  | 0, i_3, l_0 => by kernel_rfl
  | n + 1, i_3, l_0 => by
    rw [L_law31_small_l4_step]
    exact b_law31_small_l4_map m (fun i_3 l_0 => L_law31_small_l4_eq m n i_3 l_0) i_3 l_0
noncomputable def b_law31_small {R : Type} (m : Nat) (ret : Bool → Option R) (k_l4 : Int → List Event → Option R) (l_0 : List Event) : Option R :=
 bif decide ((l_0.length : Int) > 40) then
 ret false
 else
 k_l4 0 l_0
theorem law31_small_pre (m : Nat) (l_0 : List Event) : funK Try.prog Ψ0 keep m 1 8 [(dRow 33).e l_0] = b_law31_small m (fun x0 => some (w_law31_small x0)) (fun i_3 l_0 => L_law31_small_l4 m m i_3 l_0) l_0 := by kernel_rfl
theorem b_law31_small_map (m : Nat) {k_l4 : Int → List Event → Option (List (RV C))} {q_l4 : Int → List Event → Option (Bool)} (h_l4 : ∀ i_3 l_0, k_l4 i_3 l_0 = (q_l4 i_3 l_0).map w_law31_small) (l_0 : List Event) : b_law31_small m (fun x0 => some (w_law31_small x0)) k_l4 l_0 = (b_law31_small m (fun x0 => some x0) q_l4 l_0).map w_law31_small := by
  simp only [b_law31_small, cond_map, bind_map, map_none, map_some, h_l4]
noncomputable def law31_small (m : Nat) (l_0 : List Event) : Option (Bool) := b_law31_small m (fun x0 => some x0) (fun i_3 l_0 => law31_small_l4 m m i_3 l_0) l_0
theorem law31_small_fun (m : Nat) (l_0 : List Event) : funK Try.prog Ψ0 keep m 1 8 [(dRow 33).e l_0] = (law31_small m l_0).map w_law31_small := by
  rw [law31_small_pre]
  exact b_law31_small_map m (fun i_3 l_0 => L_law31_small_l4_eq m m i_3 l_0) l_0
noncomputable def K_law31_small (m : Nat) : KnownF C := mkK (dCons (dRow 33) dNil) (fun a => law31_small m a.1) w_law31_small
theorem K_law31_small_ok (m : Nat) : KnownAt C Try.prog 8 fun l => (K_law31_small m).run _ l some :=
  mkK_known good fit Ψ0_ok (keep := keep) (m := m) (d := 1) fun a => law31_small_fun m a.1
/-! ### signalbench/eeprom.Start -/
def w_eeprom_Start (b : State) : List (RV C) := [(dS of_State cells_State of_State_ok).e b]
noncomputable def b_eeprom_Start {R : Type} (m : Nat) (ret : State → Option R) (c_0 : Eeprom) : Option R :=
 ret (State.mk 0 0 0 0 0 0 0 (bs []))
theorem eeprom_Start_pre (m : Nat) (c_0 : Eeprom) : funK Try.prog Ψ0 keep m 1 10 [(dS of_Eeprom cells_Eeprom of_Eeprom_ok).e c_0] = b_eeprom_Start m (fun x0 => some (w_eeprom_Start x0)) c_0 := by kernel_rfl
theorem b_eeprom_Start_map (m : Nat) (c_0 : Eeprom) : b_eeprom_Start m (fun x0 => some (w_eeprom_Start x0)) c_0 = (b_eeprom_Start m (fun x0 => some x0) c_0).map w_eeprom_Start := by
  simp only [b_eeprom_Start, cond_map, bind_map, map_none, map_some]
noncomputable def eeprom_Start (m : Nat) (c_0 : Eeprom) : Option (State) := b_eeprom_Start m (fun x0 => some x0) c_0
theorem eeprom_Start_fun (m : Nat) (c_0 : Eeprom) : funK Try.prog Ψ0 keep m 1 10 [(dS of_Eeprom cells_Eeprom of_Eeprom_ok).e c_0] = (eeprom_Start m c_0).map w_eeprom_Start := by
  rw [eeprom_Start_pre]
  exact b_eeprom_Start_map m c_0
noncomputable def K_eeprom_Start (m : Nat) : KnownF C := mkK (dCons (dS of_Eeprom cells_Eeprom of_Eeprom_ok) dNil) (fun a => eeprom_Start m a.1) w_eeprom_Start
theorem K_eeprom_Start_ok (m : Nat) : KnownAt C Try.prog 10 fun l => (K_eeprom_Start m).run _ l some :=
  mkK_known good fit Ψ0_ok (keep := keep) (m := m) (d := 1) fun a => eeprom_Start_fun m a.1
/-! ### signalbench/eeprom.Check -/
def w_eeprom_Check (b : Int) : List (RV C) := [(dInt .i64).e b]
noncomputable def b_eeprom_Check {R : Type} (m : Nat) (ret : Int → Option R) (c_0 : Eeprom) : Option R :=
 bif decide (c_0.Address < 0) then
 ret 2
 else
 bif decide (c_0.Address > 127) then
 ret 2
 else
 bif decide (c_0.Pointer < 1) then
 ret 2
 else
 bif decide (c_0.Pointer > 2) then
 ret 2
 else
 ret 0
theorem eeprom_Check_pre (m : Nat) (c_0 : Eeprom) : funK Try.prog Ψ0 keep m 1 15 [(dS of_Eeprom cells_Eeprom of_Eeprom_ok).e c_0] = b_eeprom_Check m (fun x0 => some (w_eeprom_Check x0)) c_0 := by kernel_rfl
theorem b_eeprom_Check_map (m : Nat) (c_0 : Eeprom) : b_eeprom_Check m (fun x0 => some (w_eeprom_Check x0)) c_0 = (b_eeprom_Check m (fun x0 => some x0) c_0).map w_eeprom_Check := by
  simp only [b_eeprom_Check, cond_map, bind_map, map_none, map_some]
noncomputable def eeprom_Check (m : Nat) (c_0 : Eeprom) : Option (Int) := b_eeprom_Check m (fun x0 => some x0) c_0
theorem eeprom_Check_fun (m : Nat) (c_0 : Eeprom) : funK Try.prog Ψ0 keep m 1 15 [(dS of_Eeprom cells_Eeprom of_Eeprom_ok).e c_0] = (eeprom_Check m c_0).map w_eeprom_Check := by
  rw [eeprom_Check_pre]
  exact b_eeprom_Check_map m c_0
noncomputable def K_eeprom_Check (m : Nat) : KnownF C := mkK (dCons (dS of_Eeprom cells_Eeprom of_Eeprom_ok) dNil) (fun a => eeprom_Check m a.1) w_eeprom_Check
theorem K_eeprom_Check_ok (m : Nat) : KnownAt C Try.prog 15 fun l => (K_eeprom_Check m).run _ l some :=
  mkK_known good fit Ψ0_ok (keep := keep) (m := m) (d := 1) fun a => eeprom_Check_fun m a.1
/-! ### signalbench/event.Valid -/
def w_event_Valid (b : Bool) : List (RV C) := [dBool.e b]
noncomputable def b_event_Valid {R : Type} (m : Nat) (ret : Bool → Option R) (e_0 : Event) : Option R :=
 bif decide (e_0.Kind < 1) then
 ret false
 else
 bif decide (e_0.Kind > 8) then
 ret false
 else
 bif decide (e_0.From < 0) then
 ret false
 else
 bif decide (e_0.From > e_0.To) then
 ret false
 else
 bif decide (e_0.To > 1099511627776) then
 ret false
 else
 bif decide (e_0.Value < -9007199254740992) then
 ret false
 else
 bif decide (e_0.Value > 9007199254740992) then
 ret false
 else
 bif decide (e_0.Aux < -9007199254740992) then
 ret false
 else
 bif decide (e_0.Aux > 9007199254740992) then
 ret false
 else
 bif decide ((e_0.Data.size : Int) ≤ 4096) then
 bif decide (e_0.Fault ≥ 0) then
 ret (decide (e_0.Fault ≤ 12))
 else
 ret false
 else
 ret false
theorem event_Valid_pre (m : Nat) (e_0 : Event) : funK Try.prog Ψ0 keep m 1 36 [(dS of_Event cells_Event of_Event_ok).e e_0] = b_event_Valid m (fun x0 => some (w_event_Valid x0)) e_0 := by kernel_rfl
theorem b_event_Valid_map (m : Nat) (e_0 : Event) : b_event_Valid m (fun x0 => some (w_event_Valid x0)) e_0 = (b_event_Valid m (fun x0 => some x0) e_0).map w_event_Valid := by
  simp only [b_event_Valid, cond_map, bind_map, map_none, map_some]
noncomputable def event_Valid (m : Nat) (e_0 : Event) : Option (Bool) := b_event_Valid m (fun x0 => some x0) e_0
theorem event_Valid_fun (m : Nat) (e_0 : Event) : funK Try.prog Ψ0 keep m 1 36 [(dS of_Event cells_Event of_Event_ok).e e_0] = (event_Valid m e_0).map w_event_Valid := by
  rw [event_Valid_pre]
  exact b_event_Valid_map m e_0
noncomputable def K_event_Valid (m : Nat) : KnownF C := mkK (dCons (dS of_Event cells_Event of_Event_ok) dNil) (fun a => event_Valid m a.1) w_event_Valid
theorem K_event_Valid_ok (m : Nat) : KnownAt C Try.prog 36 fun l => (K_event_Valid m).run _ l some :=
  mkK_known good fit Ψ0_ok (keep := keep) (m := m) (d := 1) fun a => event_Valid_fun m a.1
/-! ### signalbench/eeprom.accepts -/
noncomputable def Ψ_eeprom_accepts (m : Nat) : Known C := fun f => match f with
  | 36 => some (K_event_Valid m)
  | _ => none
theorem Ψ_eeprom_accepts_ok (m : Nat) : KnownOk C Try.prog (Ψ_eeprom_accepts m) := by
  intro f φ h
  unfold Ψ_eeprom_accepts at h
  split at h
  · injection h with h; subst h; exact K_event_Valid_ok m
  · cases h
def w_eeprom_accepts (b : Bool) : List (RV C) := [dBool.e b]
noncomputable def b_eeprom_accepts {R : Type} (m : Nat) (ret : Bool → Option R) (s_0 : State) (e_1 : Event) : Option R :=
 bif e_1.Kind == 5 then
 ((event_Valid m e_1).bind fun r0 =>
 bif r0 then
 ret (decide (e_1.From ≥ s_0.At))
 else
 ret false)
 else
 ret false
theorem eeprom_accepts_pre (m : Nat) (s_0 : State) (e_1 : Event) : funK Try.prog (Ψ_eeprom_accepts m) keep m 1 25 [(dS of_State cells_State of_State_ok).e s_0, (dS of_Event cells_Event of_Event_ok).e e_1] = b_eeprom_accepts m (fun x0 => some (w_eeprom_accepts x0)) s_0 e_1 := by kernel_rfl
theorem b_eeprom_accepts_map (m : Nat) (s_0 : State) (e_1 : Event) : b_eeprom_accepts m (fun x0 => some (w_eeprom_accepts x0)) s_0 e_1 = (b_eeprom_accepts m (fun x0 => some x0) s_0 e_1).map w_eeprom_accepts := by
  simp only [b_eeprom_accepts, cond_map, bind_map, map_none, map_some]
noncomputable def eeprom_accepts (m : Nat) (s_0 : State) (e_1 : Event) : Option (Bool) := b_eeprom_accepts m (fun x0 => some x0) s_0 e_1
theorem eeprom_accepts_fun (m : Nat) (s_0 : State) (e_1 : Event) : funK Try.prog (Ψ_eeprom_accepts m) keep m 1 25 [(dS of_State cells_State of_State_ok).e s_0, (dS of_Event cells_Event of_Event_ok).e e_1] = (eeprom_accepts m s_0 e_1).map w_eeprom_accepts := by
  rw [eeprom_accepts_pre]
  exact b_eeprom_accepts_map m s_0 e_1
noncomputable def K_eeprom_accepts (m : Nat) : KnownF C := mkK (dCons (dS of_State cells_State of_State_ok) (dCons (dS of_Event cells_Event of_Event_ok) dNil)) (fun a => eeprom_accepts m a.1 a.2.1) w_eeprom_accepts
theorem K_eeprom_accepts_ok (m : Nat) : KnownAt C Try.prog 25 fun l => (K_eeprom_accepts m).run _ l some :=
  mkK_known good fit (Ψ_eeprom_accepts_ok m) (keep := keep) (m := m) (d := 1) fun a => eeprom_accepts_fun m a.1 a.2.1
/-! ### (signalbench/eeprom.command).event -/
def w_eeprom_command_event (b : Event) : List (RV C) := [(dS of_Event cells_Event of_Event_ok).e b]
noncomputable def b_eeprom_command_event {R : Type} (m : Nat) (ret : Event → Option R) (c_0 : Eeprom_command) : Option R :=
 ret (Event.mk 7 c_0.Span_From c_0.Span_To c_0.value_ c_0.aux_ c_0.data_ c_0.fault_)
theorem eeprom_command_event_pre (m : Nat) (c_0 : Eeprom_command) : funK Try.prog Ψ0 keep m 1 26 [(dS of_Eeprom_command cells_Eeprom_command of_Eeprom_command_ok).e c_0] = b_eeprom_command_event m (fun x0 => some (w_eeprom_command_event x0)) c_0 := by kernel_rfl
theorem b_eeprom_command_event_map (m : Nat) (c_0 : Eeprom_command) : b_eeprom_command_event m (fun x0 => some (w_eeprom_command_event x0)) c_0 = (b_eeprom_command_event m (fun x0 => some x0) c_0).map w_eeprom_command_event := by
  simp only [b_eeprom_command_event, cond_map, bind_map, map_none, map_some]
noncomputable def eeprom_command_event (m : Nat) (c_0 : Eeprom_command) : Option (Event) := b_eeprom_command_event m (fun x0 => some x0) c_0
theorem eeprom_command_event_fun (m : Nat) (c_0 : Eeprom_command) : funK Try.prog Ψ0 keep m 1 26 [(dS of_Eeprom_command cells_Eeprom_command of_Eeprom_command_ok).e c_0] = (eeprom_command_event m c_0).map w_eeprom_command_event := by
  rw [eeprom_command_event_pre]
  exact b_eeprom_command_event_map m c_0
noncomputable def K_eeprom_command_event (m : Nat) : KnownF C := mkK (dCons (dS of_Eeprom_command cells_Eeprom_command of_Eeprom_command_ok) dNil) (fun a => eeprom_command_event m a.1) w_eeprom_command_event
theorem K_eeprom_command_event_ok (m : Nat) : KnownAt C Try.prog 26 fun l => (K_eeprom_command_event m).run _ l some :=
  mkK_known good fit Ψ0_ok (keep := keep) (m := m) (d := 1) fun a => eeprom_command_event_fun m a.1
/-! ### signalbench/eeprom.size -/
def w_eeprom_size (b : Int) : List (RV C) := [(dInt .i64).e b]
noncomputable def b_eeprom_size {R : Type} (m : Nat) (ret : Int → Option R) (c_0 : Eeprom) : Option R :=
 bif decide (IntKind.i64.wrap (8 * c_0.Pointer) < 0) then
 none
 else
 ret (IntKind.i64.wrap (1 * 2 ^ min (IntKind.i64.wrap (8 * c_0.Pointer)).toNat 64))
theorem eeprom_size_pre (m : Nat) (c_0 : Eeprom) : funK Try.prog Ψ0 keep m 1 27 [(dS of_Eeprom cells_Eeprom of_Eeprom_ok).e c_0] = b_eeprom_size m (fun x0 => some (w_eeprom_size x0)) c_0 := by kernel_rfl
theorem b_eeprom_size_map (m : Nat) (c_0 : Eeprom) : b_eeprom_size m (fun x0 => some (w_eeprom_size x0)) c_0 = (b_eeprom_size m (fun x0 => some x0) c_0).map w_eeprom_size := by
  simp only [b_eeprom_size, cond_map, bind_map, map_none, map_some]
noncomputable def eeprom_size (m : Nat) (c_0 : Eeprom) : Option (Int) := b_eeprom_size m (fun x0 => some x0) c_0
theorem eeprom_size_fun (m : Nat) (c_0 : Eeprom) : funK Try.prog Ψ0 keep m 1 27 [(dS of_Eeprom cells_Eeprom of_Eeprom_ok).e c_0] = (eeprom_size m c_0).map w_eeprom_size := by
  rw [eeprom_size_pre]
  exact b_eeprom_size_map m c_0
noncomputable def K_eeprom_size (m : Nat) : KnownF C := mkK (dCons (dS of_Eeprom cells_Eeprom of_Eeprom_ok) dNil) (fun a => eeprom_size m a.1) w_eeprom_size
theorem K_eeprom_size_ok (m : Nat) : KnownAt C Try.prog 27 fun l => (K_eeprom_size m).run _ l some :=
  mkK_known good fit Ψ0_ok (keep := keep) (m := m) (d := 1) fun a => eeprom_size_fun m a.1
/-! ### signalbench/eeprom.Step -/
noncomputable def Ψ_eeprom_Step (m : Nat) : Known C := fun f => match f with
  | 15 => some (K_eeprom_Check m)
  | 25 => some (K_eeprom_accepts m)
  | 26 => some (K_eeprom_command_event m)
  | 27 => some (K_eeprom_size m)
  | _ => none
theorem Ψ_eeprom_Step_ok (m : Nat) : KnownOk C Try.prog (Ψ_eeprom_Step m) := by
  intro f φ h
  unfold Ψ_eeprom_Step at h
  split at h
  · injection h with h; subst h; exact K_eeprom_Check_ok m
  · injection h with h; subst h; exact K_eeprom_accepts_ok m
  · injection h with h; subst h; exact K_eeprom_command_event_ok m
  · injection h with h; subst h; exact K_eeprom_size_ok m
  · cases h
def w_eeprom_Step (b : State × List Event) : List (RV C) := [(dS of_State cells_State of_State_ok).e b.1, (dRow 33).e b.2]
noncomputable def Q_eeprom_Step_15 (m : Nat) : St C → (Exit → St C → Option (List (RV C))) → Option (List (RV C)) := fun σ k => codeK Try.prog (Ψ_eeprom_Step m) (callK Try.prog (Ψ_eeprom_Step m) keep m 0) (keep 12) m (subC body12 [.r, .r, .r, .r, .l, .b, .r, .r, .r, .r, .r, .l, .r, .l, .r, .b, .o]) σ k
noncomputable def KL_eeprom_Step_15 (m : Nat) : Exit → St C → Option (List (RV C)) := contK Try.prog (Ψ_eeprom_Step m) (callK Try.prog (Ψ_eeprom_Step m) keep m 0) (keep 12) m body12 [.r, .r, .r, .r, .l, .b, .r, .r, .r, .r, .r, .l, .r, .l, .r, .b, .o] (leaveK Try.prog Try.f12.results.toList (finK Try.prog Try.f12.resultTypes.toList))
noncomputable def L_eeprom_Step_l15 (m n : Nat) (t67 : Int) (t68 : Int) (c0 : Eeprom) (c1 : State) (c2 : Event) (c3 : State) (c4 : Eeprom_command) : Option (List (RV C)) := iterK (Q_eeprom_Step_15 m) (St.norm (keep 12 15)) n ({ T := [.dead, .dead, .dead, .fl (.one (.ptr 0 0)), .fl (.one (.ptr 1 0)), .fl (.one (.ptr 2 0)), .fl (.one (.ptr 3 0)), .dead, .fl (.one (.ptr 4 0)), .dead, .dead, .dead, .dead, .dead, .dead, .dead, .dead, .dead, .dead, .dead, .dead, .dead, .dead, .dead, .dead, .dead, .dead, .dead, .dead, .dead, .dead, .dead, .dead, .dead, .dead, .dead, .dead, .dead, .dead, .dead, .dead, .dead, .dead, .dead, .dead, .dead, .dead, .dead, .dead, .dead, .dead, .dead, .dead, .dead, .dead, .dead, .dead, .dead, .dead, .dead, .dead, .dead, .dead, .dead, .dead, .dead, .dead, .fl (.one (.int .i64 t67)), .fl (.one (.int .i64 t68))] ++ List.replicate 49 .dead, F := [[]], H := [.box 23 (cells_Eeprom c0), .box 28 (cells_State c1), .box 33 (cells_Event c2), .box 28 (cells_State c3), .box 56 (cells_Eeprom_command c4)] } : St C) (KL_eeprom_Step_15 m)
noncomputable def b_eeprom_Step_l15 {R : Type} (m : Nat) (ret : State → List Event → Option R) (k_l15 : Int → Int → Eeprom → State → Event → State → Eeprom_command → Option R) (t67 : Int) (t68 : Int) (c0 : Eeprom) (c1 : State) (c2 : Event) (c3 : State) (c4 : Eeprom_command) : Option R :=
 bif decide (t68 < t67) then
 bif decide (0 ≤ t68) then
 bif decide (t68 < (c2.Data.size : Int)) then
 k_l15 t67 (IntKind.i64.wrap (t68 + 1)) c0 { c1 with Acc := IntKind.i64.wrap (IntKind.i64.wrap (256 * c1.Acc) + IntKind.i64.wrap (byteAt c2.Data t68)) } c2 c3 c4
 else
 none
 else
 none
 else
 bif decide ((c2.Data.size : Int) ≤ (c2.Data.size : Int)) then
 (bif decide (0 ≤ c0.Pointer) then
 (bif decide (c0.Pointer ≤ (c2.Data.size : Int)) then
 (bif (c2.Data.extract c0.Pointer.toNat ((c2.Data.size : Int)).toNat).toList == (bs []).toList then
 ret c1 []
 else
 (eeprom_size m c0).bind fun r0 =>
 bif decide (r0 = 0) then
 none
 else
 ret { c1 with Acc := (IntKind.i64.wrap (c1.Acc + ((c2.Data.extract c0.Pointer.toNat ((c2.Data.size : Int)).toNat).size : Int))).tmod r0 } ([Event.mk 7 c4.Span_From c4.Span_To c1.Acc c4.aux_ (c2.Data.extract c0.Pointer.toNat ((c2.Data.size : Int)).toNat) c4.fault_]))
 else
 none)
 else
 none)
 else
 none
theorem L_eeprom_Step_l15_step (m n : Nat) (t67 : Int) (t68 : Int) (c0 : Eeprom) (c1 : State) (c2 : Event) (c3 : State) (c4 : Eeprom_command) : L_eeprom_Step_l15 m (n + 1) t67 t68 c0 c1 c2 c3 c4 = b_eeprom_Step_l15 m (fun x0 x1 => some (w_eeprom_Step (x0, x1))) (fun t67 t68 c0 c1 c2 c3 c4 => L_eeprom_Step_l15 m n t67 t68 c0 c1 c2 c3 c4) t67 t68 c0 c1 c2 c3 c4 := by kernel_rfl
theorem b_eeprom_Step_l15_map (m : Nat) {k_l15 : Int → Int → Eeprom → State → Event → State → Eeprom_command → Option (List (RV C))} {q_l15 : Int → Int → Eeprom → State → Event → State → Eeprom_command → Option (State × List Event)} (h_l15 : ∀ t67 t68 c0 c1 c2 c3 c4, k_l15 t67 t68 c0 c1 c2 c3 c4 = (q_l15 t67 t68 c0 c1 c2 c3 c4).map w_eeprom_Step) (t67 : Int) (t68 : Int) (c0 : Eeprom) (c1 : State) (c2 : Event) (c3 : State) (c4 : Eeprom_command) : b_eeprom_Step_l15 m (fun x0 x1 => some (w_eeprom_Step (x0, x1))) k_l15 t67 t68 c0 c1 c2 c3 c4 = (b_eeprom_Step_l15 m (fun x0 x1 => some (x0, x1)) q_l15 t67 t68 c0 c1 c2 c3 c4).map w_eeprom_Step := by
  simp only [b_eeprom_Step_l15, cond_map, bind_map, map_none, map_some, h_l15]
noncomputable def eeprom_Step_l15 (m : Nat) : Nat → Int → Int → Eeprom → State → Event → State → Eeprom_command → Option (State × List Event)
  | 0, _, _, _, _, _, _, _ => none
  | n + 1, t67, t68, c0, c1, c2, c3, c4 => b_eeprom_Step_l15 m (fun x0 x1 => some (x0, x1)) (fun t67 t68 c0 c1 c2 c3 c4 => eeprom_Step_l15 m n t67 t68 c0 c1 c2 c3 c4) t67 t68 c0 c1 c2 c3 c4
theorem L_eeprom_Step_l15_eq (m : Nat) : ∀ (n : Nat) (t67 : Int) (t68 : Int) (c0 : Eeprom) (c1 : State) (c2 : Event) (c3 : State) (c4 : Eeprom_command), L_eeprom_Step_l15 m n t67 t68 c0 c1 c2 c3 c4 = (eeprom_Step_l15 m n t67 t68 c0 c1 c2 c3 c4).map w_eeprom_Step
  | 0, t67, t68, c0, c1, c2, c3, c4 => by kernel_rfl
  | n + 1, t67, t68, c0, c1, c2, c3, c4 => by
    rw [L_eeprom_Step_l15_step]
    exact b_eeprom_Step_l15_map m (fun t67 t68 c0 c1 c2 c3 c4 => L_eeprom_Step_l15_eq m n t67 t68 c0 c1 c2 c3 c4) t67 t68 c0 c1 c2 c3 c4
noncomputable def b_eeprom_Step {R : Type} (m : Nat) (ret : State → List Event → Option R) (k_l15 : Int → Int → Eeprom → State → Event → State → Eeprom_command → Option R) (c_0 : Eeprom) (s_1 : State) (e_2 : Event) : Option R :=
 (eeprom_Check m c_0).bind fun r0 =>
 bif r0 != 0 then
 ret s_1 []
 else
 (eeprom_accepts m s_1 e_2).bind fun r1 =>
 bif !r1 then
 ret s_1 []
 else
 bif e_2.Fault != 0 then
 ret { s_1 with At := e_2.From, Acc := 0 } []
 else
 bif e_2.Value == IntKind.i64.wrap (2 * c_0.Address) then
 (bif decide ((e_2.Data.size : Int) < c_0.Pointer) then
 ret { s_1 with At := e_2.From } ([Event.mk 7 e_2.From e_2.To 0 0 e_2.Data 8])
 else
 bif e_2.Value == IntKind.i64.wrap (2 * c_0.Address) then
 k_l15 c_0.Pointer 0 c_0 { s_1 with At := e_2.From, Acc := 0 } e_2 (State.mk 0 0 0 0 0 0 0 (bs [])) (Eeprom_command.mk e_2.From e_2.To 0 0 0 e_2.Data)
 else
 bif e_2.Value == IntKind.i64.wrap (IntKind.i64.wrap (2 * c_0.Address) + 1) then
 ((eeprom_size m c_0).bind fun r2 =>
 bif decide (r2 = 0) then
 none
 else
 ret { s_1 with At := e_2.From, Acc := (IntKind.i64.wrap (s_1.Acc + (e_2.Data.size : Int))).tmod r2 } ([Event.mk 7 e_2.From e_2.To s_1.Acc 1 e_2.Data 0]))
 else
 ret { s_1 with At := e_2.From } [])
 else
 bif e_2.Value == IntKind.i64.wrap (2 * c_0.Address) then
 k_l15 c_0.Pointer 0 c_0 { s_1 with At := e_2.From, Acc := 0 } e_2 (State.mk 0 0 0 0 0 0 0 (bs [])) (Eeprom_command.mk e_2.From e_2.To 0 0 0 e_2.Data)
 else
 bif e_2.Value == IntKind.i64.wrap (IntKind.i64.wrap (2 * c_0.Address) + 1) then
 ((eeprom_size m c_0).bind fun r3 =>
 bif decide (r3 = 0) then
 none
 else
 ret { s_1 with At := e_2.From, Acc := (IntKind.i64.wrap (s_1.Acc + (e_2.Data.size : Int))).tmod r3 } ([Event.mk 7 e_2.From e_2.To s_1.Acc 1 e_2.Data 0]))
 else
 ret { s_1 with At := e_2.From } []
theorem eeprom_Step_pre (m : Nat) (c_0 : Eeprom) (s_1 : State) (e_2 : Event) : funK Try.prog (Ψ_eeprom_Step m) keep m 1 12 [(dS of_Eeprom cells_Eeprom of_Eeprom_ok).e c_0, (dS of_State cells_State of_State_ok).e s_1, (dS of_Event cells_Event of_Event_ok).e e_2] = b_eeprom_Step m (fun x0 x1 => some (w_eeprom_Step (x0, x1))) (fun t67 t68 c0 c1 c2 c3 c4 => L_eeprom_Step_l15 m m t67 t68 c0 c1 c2 c3 c4) c_0 s_1 e_2 := by kernel_rfl
theorem b_eeprom_Step_map (m : Nat) {k_l15 : Int → Int → Eeprom → State → Event → State → Eeprom_command → Option (List (RV C))} {q_l15 : Int → Int → Eeprom → State → Event → State → Eeprom_command → Option (State × List Event)} (h_l15 : ∀ t67 t68 c0 c1 c2 c3 c4, k_l15 t67 t68 c0 c1 c2 c3 c4 = (q_l15 t67 t68 c0 c1 c2 c3 c4).map w_eeprom_Step) (c_0 : Eeprom) (s_1 : State) (e_2 : Event) : b_eeprom_Step m (fun x0 x1 => some (w_eeprom_Step (x0, x1))) k_l15 c_0 s_1 e_2 = (b_eeprom_Step m (fun x0 x1 => some (x0, x1)) q_l15 c_0 s_1 e_2).map w_eeprom_Step := by
  simp only [b_eeprom_Step, cond_map, bind_map, map_none, map_some, h_l15]
noncomputable def eeprom_Step (m : Nat) (c_0 : Eeprom) (s_1 : State) (e_2 : Event) : Option (State × List Event) := b_eeprom_Step m (fun x0 x1 => some (x0, x1)) (fun t67 t68 c0 c1 c2 c3 c4 => eeprom_Step_l15 m m t67 t68 c0 c1 c2 c3 c4) c_0 s_1 e_2
theorem eeprom_Step_fun (m : Nat) (c_0 : Eeprom) (s_1 : State) (e_2 : Event) : funK Try.prog (Ψ_eeprom_Step m) keep m 1 12 [(dS of_Eeprom cells_Eeprom of_Eeprom_ok).e c_0, (dS of_State cells_State of_State_ok).e s_1, (dS of_Event cells_Event of_Event_ok).e e_2] = (eeprom_Step m c_0 s_1 e_2).map w_eeprom_Step := by
  rw [eeprom_Step_pre]
  exact b_eeprom_Step_map m (fun t67 t68 c0 c1 c2 c3 c4 => L_eeprom_Step_l15_eq m m t67 t68 c0 c1 c2 c3 c4) c_0 s_1 e_2
noncomputable def K_eeprom_Step (m : Nat) : KnownF C := mkK (dCons (dS of_Eeprom cells_Eeprom of_Eeprom_ok) (dCons (dS of_State cells_State of_State_ok) (dCons (dS of_Event cells_Event of_Event_ok) dNil))) (fun a => eeprom_Step m a.1 a.2.1 a.2.2.1) w_eeprom_Step
theorem K_eeprom_Step_ok (m : Nat) : KnownAt C Try.prog 12 fun l => (K_eeprom_Step m).run _ l some :=
  mkK_known good fit (Ψ_eeprom_Step_ok m) (keep := keep) (m := m) (d := 1) fun a => eeprom_Step_fun m a.1 a.2.1 a.2.2.1
/-! ### signalbench/eeprom.End -/
def w_eeprom_End (b : List Event) : List (RV C) := [(dRow 33).e b]
noncomputable def b_eeprom_End {R : Type} (m : Nat) (ret : List Event → Option R) (c_0 : Eeprom) (s_1 : State) : Option R :=
 ret []
theorem eeprom_End_pre (m : Nat) (c_0 : Eeprom) (s_1 : State) : funK Try.prog Ψ0 keep m 1 17 [(dS of_Eeprom cells_Eeprom of_Eeprom_ok).e c_0, (dS of_State cells_State of_State_ok).e s_1] = b_eeprom_End m (fun x0 => some (w_eeprom_End x0)) c_0 s_1 := by kernel_rfl
theorem b_eeprom_End_map (m : Nat) (c_0 : Eeprom) (s_1 : State) : b_eeprom_End m (fun x0 => some (w_eeprom_End x0)) c_0 s_1 = (b_eeprom_End m (fun x0 => some x0) c_0 s_1).map w_eeprom_End := by
  simp only [b_eeprom_End, cond_map, bind_map, map_none, map_some]
noncomputable def eeprom_End (m : Nat) (c_0 : Eeprom) (s_1 : State) : Option (List Event) := b_eeprom_End m (fun x0 => some x0) c_0 s_1
theorem eeprom_End_fun (m : Nat) (c_0 : Eeprom) (s_1 : State) : funK Try.prog Ψ0 keep m 1 17 [(dS of_Eeprom cells_Eeprom of_Eeprom_ok).e c_0, (dS of_State cells_State of_State_ok).e s_1] = (eeprom_End m c_0 s_1).map w_eeprom_End := by
  rw [eeprom_End_pre]
  exact b_eeprom_End_map m c_0 s_1
noncomputable def K_eeprom_End (m : Nat) : KnownF C := mkK (dCons (dS of_Eeprom cells_Eeprom of_Eeprom_ok) (dCons (dS of_State cells_State of_State_ok) dNil)) (fun a => eeprom_End m a.1 a.2.1) w_eeprom_End
theorem K_eeprom_End_ok (m : Nat) : KnownAt C Try.prog 17 fun l => (K_eeprom_End m).run _ l some :=
  mkK_known good fit Ψ0_ok (keep := keep) (m := m) (d := 1) fun a => eeprom_End_fun m a.1 a.2.1
/-! ### signalbench/eeprom.Decode -/
noncomputable def Ψ_eeprom_Decode (m : Nat) : Known C := fun f => match f with
  | 10 => some (K_eeprom_Start m)
  | 12 => some (K_eeprom_Step m)
  | 17 => some (K_eeprom_End m)
  | _ => none
theorem Ψ_eeprom_Decode_ok (m : Nat) : KnownOk C Try.prog (Ψ_eeprom_Decode m) := by
  intro f φ h
  unfold Ψ_eeprom_Decode at h
  split at h
  · injection h with h; subst h; exact K_eeprom_Start_ok m
  · injection h with h; subst h; exact K_eeprom_Step_ok m
  · injection h with h; subst h; exact K_eeprom_End_ok m
  · cases h
def w_eeprom_Decode (b : List Event) : List (RV C) := [(dRow 33).e b]
noncomputable def Q_eeprom_Decode_4 (m : Nat) : St C → (Exit → St C → Option (List (RV C))) → Option (List (RV C)) := fun σ k => codeK Try.prog (Ψ_eeprom_Decode m) (callK Try.prog (Ψ_eeprom_Decode m) keep m 0) (keep 18) m (subC body18 [.r, .r, .r, .l, .r, .b, .o]) σ k
noncomputable def KL_eeprom_Decode_4 (m : Nat) : Exit → St C → Option (List (RV C)) := contK Try.prog (Ψ_eeprom_Decode m) (callK Try.prog (Ψ_eeprom_Decode m) keep m 0) (keep 18) m body18 [.r, .r, .r, .l, .r, .b, .o] (leaveK Try.prog Try.f18.results.toList (finK Try.prog Try.f18.resultTypes.toList))
noncomputable def L_eeprom_Decode_l4 (m n : Nat) (t14 : Int) (t15 : Int) (c0 : Eeprom) (c1 : State) (out_6 : List Event) (t13 : List Event) : Option (List (RV C)) := iterK (Q_eeprom_Decode_4 m) (St.norm (keep 18 4)) n ({ T := [.dead, .dead, .fl (.one (.ptr 0 0)), .dead, .dead, .fl (.one (.ptr 1 0)), .fl (.one (.sl 2)), .dead, .dead, .dead, .dead, .dead, .dead, .fl (.one (.sl 3)), .fl (.one (.int .i64 t14)), .fl (.one (.int .i64 t15))] ++ List.replicate 20 .dead, F := [[]], H := [.box 23 (cells_Eeprom c0), .box 28 (cells_State c1), .row 33 true out_6, .row 33 false t13] } : St C) (KL_eeprom_Decode_4 m)
noncomputable def b_eeprom_Decode_l4 {R : Type} (m : Nat) (ret : List Event → Option R) (k_l4 : Int → Int → Eeprom → State → List Event → List Event → Option R) (t14 : Int) (t15 : Int) (c0 : Eeprom) (c1 : State) (out_6 : List Event) (t13 : List Event) : Option R :=
 bif decide (t15 < t14) then
 (bif decide (0 ≤ t15) then
 (bif decide (t15 < (t13.length : Int)) then
 ((eeprom_Step m c0 c1 (t13.getD t15.toNat dflt_Event)).bind fun r0 =>
 bif decide ((out_6.length + r0.snd.length) * 64 ≤ 140737488355328) then
 k_l4 t14 (IntKind.i64.wrap (t15 + 1)) c0 r0.fst (out_6 ++ r0.snd) t13
 else
 none)
 else
 none)
 else
 none)
 else
 bif decide ((out_6.length + 0) * 64 ≤ 140737488355328) then
 ret (out_6 ++ [])
 else
 none
theorem L_eeprom_Decode_l4_step (m n : Nat) (t14 : Int) (t15 : Int) (c0 : Eeprom) (c1 : State) (out_6 : List Event) (t13 : List Event) : L_eeprom_Decode_l4 m (n + 1) t14 t15 c0 c1 out_6 t13 = b_eeprom_Decode_l4 m (fun x0 => some (w_eeprom_Decode x0)) (fun t14 t15 c0 c1 out_6 t13 => L_eeprom_Decode_l4 m n t14 t15 c0 c1 out_6 t13) t14 t15 c0 c1 out_6 t13 := by kernel_rfl
theorem b_eeprom_Decode_l4_map (m : Nat) {k_l4 : Int → Int → Eeprom → State → List Event → List Event → Option (List (RV C))} {q_l4 : Int → Int → Eeprom → State → List Event → List Event → Option (List Event)} (h_l4 : ∀ t14 t15 c0 c1 out_6 t13, k_l4 t14 t15 c0 c1 out_6 t13 = (q_l4 t14 t15 c0 c1 out_6 t13).map w_eeprom_Decode) (t14 : Int) (t15 : Int) (c0 : Eeprom) (c1 : State) (out_6 : List Event) (t13 : List Event) : b_eeprom_Decode_l4 m (fun x0 => some (w_eeprom_Decode x0)) k_l4 t14 t15 c0 c1 out_6 t13 = (b_eeprom_Decode_l4 m (fun x0 => some x0) q_l4 t14 t15 c0 c1 out_6 t13).map w_eeprom_Decode := by
  simp only [b_eeprom_Decode_l4, cond_map, bind_map, map_none, map_some, h_l4]
noncomputable def eeprom_Decode_l4 (m : Nat) : Nat → Int → Int → Eeprom → State → List Event → List Event → Option (List Event)
  | 0, _, _, _, _, _, _ => none
  | n + 1, t14, t15, c0, c1, out_6, t13 => b_eeprom_Decode_l4 m (fun x0 => some x0) (fun t14 t15 c0 c1 out_6 t13 => eeprom_Decode_l4 m n t14 t15 c0 c1 out_6 t13) t14 t15 c0 c1 out_6 t13
theorem L_eeprom_Decode_l4_eq (m : Nat) : ∀ (n : Nat) (t14 : Int) (t15 : Int) (c0 : Eeprom) (c1 : State) (out_6 : List Event) (t13 : List Event), L_eeprom_Decode_l4 m n t14 t15 c0 c1 out_6 t13 = (eeprom_Decode_l4 m n t14 t15 c0 c1 out_6 t13).map w_eeprom_Decode
  | 0, t14, t15, c0, c1, out_6, t13 => by kernel_rfl
  | n + 1, t14, t15, c0, c1, out_6, t13 => by
    rw [L_eeprom_Decode_l4_step]
    exact b_eeprom_Decode_l4_map m (fun t14 t15 c0 c1 out_6 t13 => L_eeprom_Decode_l4_eq m n t14 t15 c0 c1 out_6 t13) t14 t15 c0 c1 out_6 t13
noncomputable def b_eeprom_Decode {R : Type} (m : Nat) (ret : List Event → Option R) (k_l4 : Int → Int → Eeprom → State → List Event → List Event → Option R) (c_0 : Eeprom) (l_1 : List Event) : Option R :=
 k_l4 (l_1.length : Int) 0 c_0 (State.mk 0 0 0 0 0 0 0 (bs [])) [] l_1
theorem eeprom_Decode_pre (m : Nat) (c_0 : Eeprom) (l_1 : List Event) : funK Try.prog (Ψ_eeprom_Decode m) keep m 1 18 [(dS of_Eeprom cells_Eeprom of_Eeprom_ok).e c_0, (dRow 33).e l_1] = b_eeprom_Decode m (fun x0 => some (w_eeprom_Decode x0)) (fun t14 t15 c0 c1 out_6 t13 => L_eeprom_Decode_l4 m m t14 t15 c0 c1 out_6 t13) c_0 l_1 := by kernel_rfl
theorem b_eeprom_Decode_map (m : Nat) {k_l4 : Int → Int → Eeprom → State → List Event → List Event → Option (List (RV C))} {q_l4 : Int → Int → Eeprom → State → List Event → List Event → Option (List Event)} (h_l4 : ∀ t14 t15 c0 c1 out_6 t13, k_l4 t14 t15 c0 c1 out_6 t13 = (q_l4 t14 t15 c0 c1 out_6 t13).map w_eeprom_Decode) (c_0 : Eeprom) (l_1 : List Event) : b_eeprom_Decode m (fun x0 => some (w_eeprom_Decode x0)) k_l4 c_0 l_1 = (b_eeprom_Decode m (fun x0 => some x0) q_l4 c_0 l_1).map w_eeprom_Decode := by
  simp only [b_eeprom_Decode, cond_map, bind_map, map_none, map_some, h_l4]
noncomputable def eeprom_Decode (m : Nat) (c_0 : Eeprom) (l_1 : List Event) : Option (List Event) := b_eeprom_Decode m (fun x0 => some x0) (fun t14 t15 c0 c1 out_6 t13 => eeprom_Decode_l4 m m t14 t15 c0 c1 out_6 t13) c_0 l_1
theorem eeprom_Decode_fun (m : Nat) (c_0 : Eeprom) (l_1 : List Event) : funK Try.prog (Ψ_eeprom_Decode m) keep m 1 18 [(dS of_Eeprom cells_Eeprom of_Eeprom_ok).e c_0, (dRow 33).e l_1] = (eeprom_Decode m c_0 l_1).map w_eeprom_Decode := by
  rw [eeprom_Decode_pre]
  exact b_eeprom_Decode_map m (fun t14 t15 c0 c1 out_6 t13 => L_eeprom_Decode_l4_eq m m t14 t15 c0 c1 out_6 t13) c_0 l_1
noncomputable def K_eeprom_Decode (m : Nat) : KnownF C := mkK (dCons (dS of_Eeprom cells_Eeprom of_Eeprom_ok) (dCons (dRow 33) dNil)) (fun a => eeprom_Decode m a.1 a.2.1) w_eeprom_Decode
theorem K_eeprom_Decode_ok (m : Nat) : KnownAt C Try.prog 18 fun l => (K_eeprom_Decode m).run _ l some :=
  mkK_known good fit (Ψ_eeprom_Decode_ok m) (keep := keep) (m := m) (d := 1) fun a => eeprom_Decode_fun m a.1 a.2.1
/-! ### signalbench/eeprom.check -/
noncomputable def Ψ_eeprom_check (m : Nat) : Known C := fun f => match f with
  | 27 => some (K_eeprom_size m)
  | _ => none
theorem Ψ_eeprom_check_ok (m : Nat) : KnownOk C Try.prog (Ψ_eeprom_check m) := by
  intro f φ h
  unfold Ψ_eeprom_check at h
  split at h
  · injection h with h; subst h; exact K_eeprom_size_ok m
  · cases h
def w_eeprom_check (b : Int) : List (RV C) := [(dInt .i64).e b]
noncomputable def b_eeprom_check {R : Type} (m : Nat) (ret : Int → Option R) (c_0 : Eeprom) (x_1 : Item) : Option R :=
 bif decide (x_1.Gap < 0) then
 ret 1
 else
 bif decide (x_1.Gap > 1048576) then
 ret 1
 else
 bif decide ((x_1.Data.size : Int) > 4096) then
 ret 6
 else
 bif decide (x_1.Value < 0) then
 ret 2
 else
 (eeprom_size m c_0).bind fun r0 =>
 bif decide (x_1.Value ≥ r0) then
 ret 2
 else
 bif decide (x_1.Aux < 0) then
 ret 2
 else
 bif decide (x_1.Aux > 1) then
 ret 2
 else
 bif x_1.Fault != 0 then
 ret 1
 else
 bif x_1.Aux == 0 then
 bif x_1.Data.toList == (bs []).toList then
 ret 1
 else
 bif x_1.Aux == 0 then
 bif decide (IntKind.i64.wrap (c_0.Pointer + (x_1.Data.size : Int)) > 4096) then
 ret 6
 else
 ret 0
 else
 ret 0
 else
 bif x_1.Aux == 0 then
 bif decide (IntKind.i64.wrap (c_0.Pointer + (x_1.Data.size : Int)) > 4096) then
 ret 6
 else
 ret 0
 else
 ret 0
theorem eeprom_check_pre (m : Nat) (c_0 : Eeprom) (x_1 : Item) : funK Try.prog (Ψ_eeprom_check m) keep m 1 32 [(dS of_Eeprom cells_Eeprom of_Eeprom_ok).e c_0, (dS of_Item cells_Item of_Item_ok).e x_1] = b_eeprom_check m (fun x0 => some (w_eeprom_check x0)) c_0 x_1 := by kernel_rfl
theorem b_eeprom_check_map (m : Nat) (c_0 : Eeprom) (x_1 : Item) : b_eeprom_check m (fun x0 => some (w_eeprom_check x0)) c_0 x_1 = (b_eeprom_check m (fun x0 => some x0) c_0 x_1).map w_eeprom_check := by
  simp only [b_eeprom_check, cond_map, bind_map, map_none, map_some]
noncomputable def eeprom_check (m : Nat) (c_0 : Eeprom) (x_1 : Item) : Option (Int) := b_eeprom_check m (fun x0 => some x0) c_0 x_1
theorem eeprom_check_fun (m : Nat) (c_0 : Eeprom) (x_1 : Item) : funK Try.prog (Ψ_eeprom_check m) keep m 1 32 [(dS of_Eeprom cells_Eeprom of_Eeprom_ok).e c_0, (dS of_Item cells_Item of_Item_ok).e x_1] = (eeprom_check m c_0 x_1).map w_eeprom_check := by
  rw [eeprom_check_pre]
  exact b_eeprom_check_map m c_0 x_1
noncomputable def K_eeprom_check (m : Nat) : KnownF C := mkK (dCons (dS of_Eeprom cells_Eeprom of_Eeprom_ok) (dCons (dS of_Item cells_Item of_Item_ok) dNil)) (fun a => eeprom_check m a.1 a.2.1) w_eeprom_check
theorem K_eeprom_check_ok (m : Nat) : KnownAt C Try.prog 32 fun l => (K_eeprom_check m).run _ l some :=
  mkK_known good fit (Ψ_eeprom_check_ok m) (keep := keep) (m := m) (d := 1) fun a => eeprom_check_fun m a.1 a.2.1
/-! ### signalbench/eeprom.pointer -/
def w_eeprom_pointer (b : ByteArray) : List (RV C) := [dStr.e b]
noncomputable def b_eeprom_pointer {R : Type} (m : Nat) (ret : ByteArray → Option R) (c_0 : Eeprom) (n_1 : Int) : Option R :=
 bif c_0.Pointer == 1 then
 ret (toBytes [IntKind.u8.wrap n_1])
 else
 ret (toBytes [IntKind.u8.wrap (n_1.fdiv 256), IntKind.u8.wrap n_1])
theorem eeprom_pointer_pre (m : Nat) (c_0 : Eeprom) (n_1 : Int) : funK Try.prog Ψ0 keep m 1 33 [(dS of_Eeprom cells_Eeprom of_Eeprom_ok).e c_0, (dInt .i64).e n_1] = b_eeprom_pointer m (fun x0 => some (w_eeprom_pointer x0)) c_0 n_1 := by kernel_rfl
theorem b_eeprom_pointer_map (m : Nat) (c_0 : Eeprom) (n_1 : Int) : b_eeprom_pointer m (fun x0 => some (w_eeprom_pointer x0)) c_0 n_1 = (b_eeprom_pointer m (fun x0 => some x0) c_0 n_1).map w_eeprom_pointer := by
  simp only [b_eeprom_pointer, cond_map, bind_map, map_none, map_some]
noncomputable def eeprom_pointer (m : Nat) (c_0 : Eeprom) (n_1 : Int) : Option (ByteArray) := b_eeprom_pointer m (fun x0 => some x0) c_0 n_1
theorem eeprom_pointer_fun (m : Nat) (c_0 : Eeprom) (n_1 : Int) : funK Try.prog Ψ0 keep m 1 33 [(dS of_Eeprom cells_Eeprom of_Eeprom_ok).e c_0, (dInt .i64).e n_1] = (eeprom_pointer m c_0 n_1).map w_eeprom_pointer := by
  rw [eeprom_pointer_pre]
  exact b_eeprom_pointer_map m c_0 n_1
noncomputable def K_eeprom_pointer (m : Nat) : KnownF C := mkK (dCons (dS of_Eeprom cells_Eeprom of_Eeprom_ok) (dCons (dInt .i64) dNil)) (fun a => eeprom_pointer m a.1 a.2.1) w_eeprom_pointer
theorem K_eeprom_pointer_ok (m : Nat) : KnownAt C Try.prog 33 fun l => (K_eeprom_pointer m).run _ l some :=
  mkK_known good fit Ψ0_ok (keep := keep) (m := m) (d := 1) fun a => eeprom_pointer_fun m a.1 a.2.1
/-! ### signalbench/eeprom.Encode -/
noncomputable def Ψ_eeprom_Encode (m : Nat) : Known C := fun f => match f with
  | 15 => some (K_eeprom_Check m)
  | 32 => some (K_eeprom_check m)
  | 33 => some (K_eeprom_pointer m)
  | _ => none
theorem Ψ_eeprom_Encode_ok (m : Nat) : KnownOk C Try.prog (Ψ_eeprom_Encode m) := by
  intro f φ h
  unfold Ψ_eeprom_Encode at h
  split at h
  · injection h with h; subst h; exact K_eeprom_Check_ok m
  · injection h with h; subst h; exact K_eeprom_check_ok m
  · injection h with h; subst h; exact K_eeprom_pointer_ok m
  · cases h
def w_eeprom_Encode (b : List Item × Int) : List (RV C) := [(dRow 45).e b.1, (dInt .i64).e b.2]
noncomputable def Q_eeprom_Encode_8 (m : Nat) : St C → (Exit → St C → Option (List (RV C))) → Option (List (RV C)) := fun σ k => codeK Try.prog (Ψ_eeprom_Encode m) (callK Try.prog (Ψ_eeprom_Encode m) keep m 0) (keep 21) m (subC body21 [.r, .r, .r, .r, .l, .r, .b, .o]) σ k
noncomputable def KL_eeprom_Encode_8 (m : Nat) : Exit → St C → Option (List (RV C)) := contK Try.prog (Ψ_eeprom_Encode m) (callK Try.prog (Ψ_eeprom_Encode m) keep m 0) (keep 21) m body21 [.r, .r, .r, .r, .l, .r, .b, .o] (leaveK Try.prog Try.f21.results.toList (finK Try.prog Try.f21.resultTypes.toList))
noncomputable def L_eeprom_Encode_l8 (m n : Nat) (t20 : Int) (t21 : Int) (c0 : Eeprom) (out_7 : List Item) (t19 : List Item) : Option (List (RV C)) := iterK (Q_eeprom_Encode_8 m) (St.norm (keep 21 8)) n ({ T := [.dead, .dead, .fl (.one (.ptr 0 0)), .dead, .dead, .dead, .dead, .fl (.one (.sl 1)), .dead, .dead, .dead, .dead, .dead, .dead, .dead, .dead, .dead, .dead, .dead, .fl (.one (.sl 2)), .fl (.one (.int .i64 t20)), .fl (.one (.int .i64 t21))] ++ List.replicate 50 .dead, F := [[]], H := [.box 23 (cells_Eeprom c0), .row 45 true out_7, .row 45 false t19] } : St C) (KL_eeprom_Encode_8 m)
noncomputable def b_eeprom_Encode_l8 {R : Type} (m : Nat) (ret : List Item → Int → Option R) (k_l8 : Int → Int → Eeprom → List Item → List Item → Option R) (t20 : Int) (t21 : Int) (c0 : Eeprom) (out_7 : List Item) (t19 : List Item) : Option R :=
 bif decide (t21 < t20) then
 (bif decide (0 ≤ t21) then
 (bif decide (t21 < (t19.length : Int)) then
 ((eeprom_check m c0 (t19.getD t21.toNat dflt_Item)).bind fun r0 =>
 bif r0 != 0 then
 ret [] r0
 else
 bif (t19.getD t21.toNat dflt_Item).Aux == 0 then
 ((eeprom_pointer m c0 (t19.getD t21.toNat dflt_Item).Value).bind fun r1 =>
 bif decide (((r1.size + (t19.getD t21.toNat dflt_Item).Data.size) : Int) > 9223372036854775807) then
 none
 else
 bif decide ((out_7.length + 1) * 48 ≤ 140737488355328) then
 k_l8 t20 (IntKind.i64.wrap (t21 + 1)) c0 (out_7 ++ [Item.mk (t19.getD t21.toNat dflt_Item).Gap (IntKind.i64.wrap (2 * c0.Address)) 1 (r1 ++ (t19.getD t21.toNat dflt_Item).Data) 0]) t19
 else
 none)
 else
 (eeprom_pointer m c0 (t19.getD t21.toNat dflt_Item).Value).bind fun r2 =>
 bif decide ((out_7.length + 2) * 48 ≤ 140737488355328) then
 k_l8 t20 (IntKind.i64.wrap (t21 + 1)) c0 (out_7 ++ [Item.mk (t19.getD t21.toNat dflt_Item).Gap (IntKind.i64.wrap (2 * c0.Address)) 0 r2 0, Item.mk 0 (IntKind.i64.wrap (IntKind.i64.wrap (2 * c0.Address) + 1)) 1 (t19.getD t21.toNat dflt_Item).Data 0]) t19
 else
 none)
 else
 none)
 else
 none)
 else
 ret out_7 0
theorem L_eeprom_Encode_l8_step (m n : Nat) (t20 : Int) (t21 : Int) (c0 : Eeprom) (out_7 : List Item) (t19 : List Item) : L_eeprom_Encode_l8 m (n + 1) t20 t21 c0 out_7 t19 = b_eeprom_Encode_l8 m (fun x0 x1 => some (w_eeprom_Encode (x0, x1))) (fun t20 t21 c0 out_7 t19 => L_eeprom_Encode_l8 m n t20 t21 c0 out_7 t19) t20 t21 c0 out_7 t19 := by kernel_rfl
theorem b_eeprom_Encode_l8_map (m : Nat) {k_l8 : Int → Int → Eeprom → List Item → List Item → Option (List (RV C))} {q_l8 : Int → Int → Eeprom → List Item → List Item → Option (List Item × Int)} (h_l8 : ∀ t20 t21 c0 out_7 t19, k_l8 t20 t21 c0 out_7 t19 = (q_l8 t20 t21 c0 out_7 t19).map w_eeprom_Encode) (t20 : Int) (t21 : Int) (c0 : Eeprom) (out_7 : List Item) (t19 : List Item) : b_eeprom_Encode_l8 m (fun x0 x1 => some (w_eeprom_Encode (x0, x1))) k_l8 t20 t21 c0 out_7 t19 = (b_eeprom_Encode_l8 m (fun x0 x1 => some (x0, x1)) q_l8 t20 t21 c0 out_7 t19).map w_eeprom_Encode := by
  simp only [b_eeprom_Encode_l8, cond_map, bind_map, map_none, map_some, h_l8]
noncomputable def eeprom_Encode_l8 (m : Nat) : Nat → Int → Int → Eeprom → List Item → List Item → Option (List Item × Int)
  | 0, _, _, _, _, _ => none
  | n + 1, t20, t21, c0, out_7, t19 => b_eeprom_Encode_l8 m (fun x0 x1 => some (x0, x1)) (fun t20 t21 c0 out_7 t19 => eeprom_Encode_l8 m n t20 t21 c0 out_7 t19) t20 t21 c0 out_7 t19
theorem L_eeprom_Encode_l8_eq (m : Nat) : ∀ (n : Nat) (t20 : Int) (t21 : Int) (c0 : Eeprom) (out_7 : List Item) (t19 : List Item), L_eeprom_Encode_l8 m n t20 t21 c0 out_7 t19 = (eeprom_Encode_l8 m n t20 t21 c0 out_7 t19).map w_eeprom_Encode
  | 0, t20, t21, c0, out_7, t19 => by kernel_rfl
  | n + 1, t20, t21, c0, out_7, t19 => by
    rw [L_eeprom_Encode_l8_step]
    exact b_eeprom_Encode_l8_map m (fun t20 t21 c0 out_7 t19 => L_eeprom_Encode_l8_eq m n t20 t21 c0 out_7 t19) t20 t21 c0 out_7 t19
noncomputable def b_eeprom_Encode {R : Type} (m : Nat) (ret : List Item → Int → Option R) (k_l8 : Int → Int → Eeprom → List Item → List Item → Option R) (c_0 : Eeprom) (l_1 : List Item) : Option R :=
 (eeprom_Check m c_0).bind fun r0 =>
 bif r0 != 0 then
 ret [] r0
 else
 bif decide ((l_1.length : Int) > 1024) then
 ret [] 6
 else
 k_l8 (l_1.length : Int) 0 c_0 [] l_1
theorem eeprom_Encode_pre (m : Nat) (c_0 : Eeprom) (l_1 : List Item) : funK Try.prog (Ψ_eeprom_Encode m) keep m 1 21 [(dS of_Eeprom cells_Eeprom of_Eeprom_ok).e c_0, (dRow 45).e l_1] = b_eeprom_Encode m (fun x0 x1 => some (w_eeprom_Encode (x0, x1))) (fun t20 t21 c0 out_7 t19 => L_eeprom_Encode_l8 m m t20 t21 c0 out_7 t19) c_0 l_1 := by kernel_rfl
theorem b_eeprom_Encode_map (m : Nat) {k_l8 : Int → Int → Eeprom → List Item → List Item → Option (List (RV C))} {q_l8 : Int → Int → Eeprom → List Item → List Item → Option (List Item × Int)} (h_l8 : ∀ t20 t21 c0 out_7 t19, k_l8 t20 t21 c0 out_7 t19 = (q_l8 t20 t21 c0 out_7 t19).map w_eeprom_Encode) (c_0 : Eeprom) (l_1 : List Item) : b_eeprom_Encode m (fun x0 x1 => some (w_eeprom_Encode (x0, x1))) k_l8 c_0 l_1 = (b_eeprom_Encode m (fun x0 x1 => some (x0, x1)) q_l8 c_0 l_1).map w_eeprom_Encode := by
  simp only [b_eeprom_Encode, cond_map, bind_map, map_none, map_some, h_l8]
noncomputable def eeprom_Encode (m : Nat) (c_0 : Eeprom) (l_1 : List Item) : Option (List Item × Int) := b_eeprom_Encode m (fun x0 x1 => some (x0, x1)) (fun t20 t21 c0 out_7 t19 => eeprom_Encode_l8 m m t20 t21 c0 out_7 t19) c_0 l_1
theorem eeprom_Encode_fun (m : Nat) (c_0 : Eeprom) (l_1 : List Item) : funK Try.prog (Ψ_eeprom_Encode m) keep m 1 21 [(dS of_Eeprom cells_Eeprom of_Eeprom_ok).e c_0, (dRow 45).e l_1] = (eeprom_Encode m c_0 l_1).map w_eeprom_Encode := by
  rw [eeprom_Encode_pre]
  exact b_eeprom_Encode_map m (fun t20 t21 c0 out_7 t19 => L_eeprom_Encode_l8_eq m m t20 t21 c0 out_7 t19) c_0 l_1
noncomputable def K_eeprom_Encode (m : Nat) : KnownF C := mkK (dCons (dS of_Eeprom cells_Eeprom of_Eeprom_ok) (dCons (dRow 45) dNil)) (fun a => eeprom_Encode m a.1 a.2.1) w_eeprom_Encode
theorem K_eeprom_Encode_ok (m : Nat) : KnownAt C Try.prog 21 fun l => (K_eeprom_Encode m).run _ l some :=
  mkK_known good fit (Ψ_eeprom_Encode_ok m) (keep := keep) (m := m) (d := 1) fun a => eeprom_Encode_fun m a.1 a.2.1
/-! ### signalbench/signalbenchlaw31.awake -/
noncomputable def Ψ_law31_awake (m : Nat) : Known C := fun f => match f with
  | 18 => some (K_eeprom_Decode m)
  | 21 => some (K_eeprom_Encode m)
  | 15 => some (K_eeprom_Check m)
  | _ => none
theorem Ψ_law31_awake_ok (m : Nat) : KnownOk C Try.prog (Ψ_law31_awake m) := by
  intro f φ h
  unfold Ψ_law31_awake at h
  split at h
  · injection h with h; subst h; exact K_eeprom_Decode_ok m
  · injection h with h; subst h; exact K_eeprom_Encode_ok m
  · injection h with h; subst h; exact K_eeprom_Check_ok m
  · cases h
def w_law31_awake (b : Bool) : List (RV C) := [dBool.e b]
noncomputable def b_law31_awake {R : Type} (m : Nat) (ret : Bool → Option R) : Option R :=
 (eeprom_Decode m (Eeprom.mk 80 1) [Event.mk 5 0 5 160 0 (bs [16, 65]) 0, Event.mk 5 6 9 161 0 (bs [120, 121]) 0]).bind fun r0 =>
 (eeprom_Encode m (Eeprom.mk 80 1) [Item.mk 3 16 1 (bs [122]) 0]).bind fun r1 =>
 bif (r0.length : Int) != 2 then
 ret false
 else
 bif (r1.fst.length : Int) != 2 then
 ret false
 else
 bif r1.snd != 0 then
 ret false
 else
 bif decide (0 < (r0.length : Int)) then
 bif (r0.getD 0 dflt_Event).Kind == 7 && ((r0.getD 0 dflt_Event).From == 0 && ((r0.getD 0 dflt_Event).To == 5 && ((r0.getD 0 dflt_Event).Value == 16 && ((r0.getD 0 dflt_Event).Aux == 0 && ((r0.getD 0 dflt_Event).Data == bs [65] && ((r0.getD 0 dflt_Event).Fault == 0 && true)))))) then
 bif decide (1 < (r0.length : Int)) then
 bif (r0.getD 1 dflt_Event).Kind == 7 && ((r0.getD 1 dflt_Event).From == 6 && ((r0.getD 1 dflt_Event).To == 9 && ((r0.getD 1 dflt_Event).Value == 17 && ((r0.getD 1 dflt_Event).Aux == 1 && ((r0.getD 1 dflt_Event).Data == bs [120, 121] && ((r0.getD 1 dflt_Event).Fault == 0 && true)))))) then
 bif decide (0 < (r1.fst.length : Int)) then
 bif (r1.fst.getD 0 dflt_Item).Gap == 3 && ((r1.fst.getD 0 dflt_Item).Value == 160 && ((r1.fst.getD 0 dflt_Item).Aux == 0 && ((r1.fst.getD 0 dflt_Item).Data == bs [16] && ((r1.fst.getD 0 dflt_Item).Fault == 0 && true)))) then
 bif decide (1 < (r1.fst.length : Int)) then
 ret ((r1.fst.getD 1 dflt_Item).Gap == 0 && ((r1.fst.getD 1 dflt_Item).Value == 161 && ((r1.fst.getD 1 dflt_Item).Aux == 1 && ((r1.fst.getD 1 dflt_Item).Data == bs [122] && ((r1.fst.getD 1 dflt_Item).Fault == 0 && true)))))
 else
 none
 else
 ret false
 else
 none
 else
 ret false
 else
 none
 else
 ret false
 else
 none
theorem law31_awake_pre (m : Nat) : funK Try.prog (Ψ_law31_awake m) keep m 1 9 [] = b_law31_awake m (fun x0 => some (w_law31_awake x0)) := by kernel_rfl
theorem b_law31_awake_map (m : Nat) : b_law31_awake m (fun x0 => some (w_law31_awake x0)) = (b_law31_awake m (fun x0 => some x0)).map w_law31_awake := by
  simp only [b_law31_awake, cond_map, bind_map, map_none, map_some]
noncomputable def law31_awake (m : Nat) : Option (Bool) := b_law31_awake m (fun x0 => some x0)
theorem law31_awake_fun (m : Nat) : funK Try.prog (Ψ_law31_awake m) keep m 1 9 [] = (law31_awake m).map w_law31_awake := by
  rw [law31_awake_pre]
  exact b_law31_awake_map m
noncomputable def K_law31_awake (m : Nat) : KnownF C := mkK dNil (fun a => law31_awake m) w_law31_awake
theorem K_law31_awake_ok (m : Nat) : KnownAt C Try.prog 9 fun l => (K_law31_awake m).run _ l some :=
  mkK_known good fit (Ψ_law31_awake_ok m) (keep := keep) (m := m) (d := 1) fun a => law31_awake_fun m
/-! ### signalbench/signalbenchref31.Start -/
def w_ref31_Start (b : State) : List (RV C) := [(dS of_State cells_State of_State_ok).e b]
noncomputable def b_ref31_Start {R : Type} (m : Nat) (ret : State → Option R) (c_0 : Eeprom) : Option R :=
 ret (State.mk 0 0 0 0 0 0 0 (bs []))
theorem ref31_Start_pre (m : Nat) (c_0 : Eeprom) : funK Try.prog Ψ0 keep m 1 11 [(dS of_Eeprom cells_Eeprom of_Eeprom_ok).e c_0] = b_ref31_Start m (fun x0 => some (w_ref31_Start x0)) c_0 := by kernel_rfl
theorem b_ref31_Start_map (m : Nat) (c_0 : Eeprom) : b_ref31_Start m (fun x0 => some (w_ref31_Start x0)) c_0 = (b_ref31_Start m (fun x0 => some x0) c_0).map w_ref31_Start := by
  simp only [b_ref31_Start, cond_map, bind_map, map_none, map_some]
noncomputable def ref31_Start (m : Nat) (c_0 : Eeprom) : Option (State) := b_ref31_Start m (fun x0 => some x0) c_0
theorem ref31_Start_fun (m : Nat) (c_0 : Eeprom) : funK Try.prog Ψ0 keep m 1 11 [(dS of_Eeprom cells_Eeprom of_Eeprom_ok).e c_0] = (ref31_Start m c_0).map w_ref31_Start := by
  rw [ref31_Start_pre]
  exact b_ref31_Start_map m c_0
noncomputable def K_ref31_Start (m : Nat) : KnownF C := mkK (dCons (dS of_Eeprom cells_Eeprom of_Eeprom_ok) dNil) (fun a => ref31_Start m a.1) w_ref31_Start
theorem K_ref31_Start_ok (m : Nat) : KnownAt C Try.prog 11 fun l => (K_ref31_Start m).run _ l some :=
  mkK_known good fit Ψ0_ok (keep := keep) (m := m) (d := 1) fun a => ref31_Start_fun m a.1
/-! ### signalbench/signalbenchref31.Check -/
def w_ref31_Check (b : Int) : List (RV C) := [(dInt .i64).e b]
noncomputable def b_ref31_Check {R : Type} (m : Nat) (ret : Int → Option R) (c_0 : Eeprom) : Option R :=
 bif decide (c_0.Address < 0) then
 ret 2
 else
 bif decide (c_0.Address > 127) then
 ret 2
 else
 bif decide (c_0.Pointer < 1) then
 ret 2
 else
 bif decide (c_0.Pointer > 2) then
 ret 2
 else
 ret 0
theorem ref31_Check_pre (m : Nat) (c_0 : Eeprom) : funK Try.prog Ψ0 keep m 1 16 [(dS of_Eeprom cells_Eeprom of_Eeprom_ok).e c_0] = b_ref31_Check m (fun x0 => some (w_ref31_Check x0)) c_0 := by kernel_rfl
theorem b_ref31_Check_map (m : Nat) (c_0 : Eeprom) : b_ref31_Check m (fun x0 => some (w_ref31_Check x0)) c_0 = (b_ref31_Check m (fun x0 => some x0) c_0).map w_ref31_Check := by
  simp only [b_ref31_Check, cond_map, bind_map, map_none, map_some]
noncomputable def ref31_Check (m : Nat) (c_0 : Eeprom) : Option (Int) := b_ref31_Check m (fun x0 => some x0) c_0
theorem ref31_Check_fun (m : Nat) (c_0 : Eeprom) : funK Try.prog Ψ0 keep m 1 16 [(dS of_Eeprom cells_Eeprom of_Eeprom_ok).e c_0] = (ref31_Check m c_0).map w_ref31_Check := by
  rw [ref31_Check_pre]
  exact b_ref31_Check_map m c_0
noncomputable def K_ref31_Check (m : Nat) : KnownF C := mkK (dCons (dS of_Eeprom cells_Eeprom of_Eeprom_ok) dNil) (fun a => ref31_Check m a.1) w_ref31_Check
theorem K_ref31_Check_ok (m : Nat) : KnownAt C Try.prog 16 fun l => (K_ref31_Check m).run _ l some :=
  mkK_known good fit Ψ0_ok (keep := keep) (m := m) (d := 1) fun a => ref31_Check_fun m a.1
/-! ### signalbench/signalbenchref07.Valid -/
def w_ref07_Valid (b : Bool) : List (RV C) := [dBool.e b]
noncomputable def b_ref07_Valid {R : Type} (m : Nat) (ret : Bool → Option R) (e_0 : Event) : Option R :=
 bif decide (e_0.Kind < 1) then
 ret false
 else
 bif decide (e_0.Kind > 8) then
 ret false
 else
 bif decide (e_0.From < 0) then
 ret false
 else
 bif decide (e_0.From > e_0.To) then
 ret false
 else
 bif decide (e_0.To > 1099511627776) then
 ret false
 else
 bif decide ((e_0.Data.size : Int) > 4096) then
 ret false
 else
 bif decide (e_0.Fault < 0) then
 ret false
 else
 bif decide (e_0.Fault > 12) then
 ret false
 else
 bif decide (e_0.Value ≥ -9007199254740992) then
 bif decide (e_0.Value ≤ 9007199254740992) then
 bif decide (e_0.Aux ≥ -9007199254740992) then
 ret (decide (e_0.Aux ≤ 9007199254740992))
 else
 ret false
 else
 ret false
 else
 ret false
theorem ref07_Valid_pre (m : Nat) (e_0 : Event) : funK Try.prog Ψ0 keep m 1 37 [(dS of_Event cells_Event of_Event_ok).e e_0] = b_ref07_Valid m (fun x0 => some (w_ref07_Valid x0)) e_0 := by kernel_rfl
theorem b_ref07_Valid_map (m : Nat) (e_0 : Event) : b_ref07_Valid m (fun x0 => some (w_ref07_Valid x0)) e_0 = (b_ref07_Valid m (fun x0 => some x0) e_0).map w_ref07_Valid := by
  simp only [b_ref07_Valid, cond_map, bind_map, map_none, map_some]
noncomputable def ref07_Valid (m : Nat) (e_0 : Event) : Option (Bool) := b_ref07_Valid m (fun x0 => some x0) e_0
theorem ref07_Valid_fun (m : Nat) (e_0 : Event) : funK Try.prog Ψ0 keep m 1 37 [(dS of_Event cells_Event of_Event_ok).e e_0] = (ref07_Valid m e_0).map w_ref07_Valid := by
  rw [ref07_Valid_pre]
  exact b_ref07_Valid_map m e_0
noncomputable def K_ref07_Valid (m : Nat) : KnownF C := mkK (dCons (dS of_Event cells_Event of_Event_ok) dNil) (fun a => ref07_Valid m a.1) w_ref07_Valid
theorem K_ref07_Valid_ok (m : Nat) : KnownAt C Try.prog 37 fun l => (K_ref07_Valid m).run _ l some :=
  mkK_known good fit Ψ0_ok (keep := keep) (m := m) (d := 1) fun a => ref07_Valid_fun m a.1
/-! ### signalbench/signalbenchref31.accepts -/
noncomputable def Ψ_ref31_accepts (m : Nat) : Known C := fun f => match f with
  | 37 => some (K_ref07_Valid m)
  | _ => none
theorem Ψ_ref31_accepts_ok (m : Nat) : KnownOk C Try.prog (Ψ_ref31_accepts m) := by
  intro f φ h
  unfold Ψ_ref31_accepts at h
  split at h
  · injection h with h; subst h; exact K_ref07_Valid_ok m
  · cases h
def w_ref31_accepts (b : Bool) : List (RV C) := [dBool.e b]
noncomputable def b_ref31_accepts {R : Type} (m : Nat) (ret : Bool → Option R) (s_0 : State) (e_1 : Event) : Option R :=
 (ref07_Valid m e_1).bind fun r0 =>
 bif r0 then
 bif e_1.Kind == 5 then
 ret (decide (e_1.From ≥ s_0.At))
 else
 ret false
 else
 ret false
theorem ref31_accepts_pre (m : Nat) (s_0 : State) (e_1 : Event) : funK Try.prog (Ψ_ref31_accepts m) keep m 1 28 [(dS of_State cells_State of_State_ok).e s_0, (dS of_Event cells_Event of_Event_ok).e e_1] = b_ref31_accepts m (fun x0 => some (w_ref31_accepts x0)) s_0 e_1 := by kernel_rfl
theorem b_ref31_accepts_map (m : Nat) (s_0 : State) (e_1 : Event) : b_ref31_accepts m (fun x0 => some (w_ref31_accepts x0)) s_0 e_1 = (b_ref31_accepts m (fun x0 => some x0) s_0 e_1).map w_ref31_accepts := by
  simp only [b_ref31_accepts, cond_map, bind_map, map_none, map_some]
noncomputable def ref31_accepts (m : Nat) (s_0 : State) (e_1 : Event) : Option (Bool) := b_ref31_accepts m (fun x0 => some x0) s_0 e_1
theorem ref31_accepts_fun (m : Nat) (s_0 : State) (e_1 : Event) : funK Try.prog (Ψ_ref31_accepts m) keep m 1 28 [(dS of_State cells_State of_State_ok).e s_0, (dS of_Event cells_Event of_Event_ok).e e_1] = (ref31_accepts m s_0 e_1).map w_ref31_accepts := by
  rw [ref31_accepts_pre]
  exact b_ref31_accepts_map m s_0 e_1
noncomputable def K_ref31_accepts (m : Nat) : KnownF C := mkK (dCons (dS of_State cells_State of_State_ok) (dCons (dS of_Event cells_Event of_Event_ok) dNil)) (fun a => ref31_accepts m a.1 a.2.1) w_ref31_accepts
theorem K_ref31_accepts_ok (m : Nat) : KnownAt C Try.prog 28 fun l => (K_ref31_accepts m).run _ l some :=
  mkK_known good fit (Ψ_ref31_accepts_ok m) (keep := keep) (m := m) (d := 1) fun a => ref31_accepts_fun m a.1 a.2.1
/-! ### signalbench/signalbenchref31.modulus -/
def w_ref31_modulus (b : Int) : List (RV C) := [(dInt .i64).e b]
noncomputable def b_ref31_modulus {R : Type} (m : Nat) (ret : Int → Option R) (c_0 : Eeprom) : Option R :=
 bif c_0.Pointer == 1 then
 ret 256
 else
 ret 65536
theorem ref31_modulus_pre (m : Nat) (c_0 : Eeprom) : funK Try.prog Ψ0 keep m 1 29 [(dS of_Eeprom cells_Eeprom of_Eeprom_ok).e c_0] = b_ref31_modulus m (fun x0 => some (w_ref31_modulus x0)) c_0 := by kernel_rfl
theorem b_ref31_modulus_map (m : Nat) (c_0 : Eeprom) : b_ref31_modulus m (fun x0 => some (w_ref31_modulus x0)) c_0 = (b_ref31_modulus m (fun x0 => some x0) c_0).map w_ref31_modulus := by
  simp only [b_ref31_modulus, cond_map, bind_map, map_none, map_some]
noncomputable def ref31_modulus (m : Nat) (c_0 : Eeprom) : Option (Int) := b_ref31_modulus m (fun x0 => some x0) c_0
theorem ref31_modulus_fun (m : Nat) (c_0 : Eeprom) : funK Try.prog Ψ0 keep m 1 29 [(dS of_Eeprom cells_Eeprom of_Eeprom_ok).e c_0] = (ref31_modulus m c_0).map w_ref31_modulus := by
  rw [ref31_modulus_pre]
  exact b_ref31_modulus_map m c_0
noncomputable def K_ref31_modulus (m : Nat) : KnownF C := mkK (dCons (dS of_Eeprom cells_Eeprom of_Eeprom_ok) dNil) (fun a => ref31_modulus m a.1) w_ref31_modulus
theorem K_ref31_modulus_ok (m : Nat) : KnownAt C Try.prog 29 fun l => (K_ref31_modulus m).run _ l some :=
  mkK_known good fit Ψ0_ok (keep := keep) (m := m) (d := 1) fun a => ref31_modulus_fun m a.1
/-! ### signalbench/signalbenchref31.number -/
def w_ref31_number (b : Int) : List (RV C) := [(dInt .i64).e b]
noncomputable def Q_ref31_number_3 (m : Nat) : St C → (Exit → St C → Option (List (RV C))) → Option (List (RV C)) := fun σ k => codeK Try.prog Ψ0 (callK Try.prog Ψ0 keep m 0) (keep 30) m (subC body30 [.r, .r, .l, .r, .b, .o]) σ k
noncomputable def KL_ref31_number_3 (m : Nat) : Exit → St C → Option (List (RV C)) := contK Try.prog Ψ0 (callK Try.prog Ψ0 keep m 0) (keep 30) m body30 [.r, .r, .l, .r, .b, .o] (leaveK Try.prog Try.f30.results.toList (finK Try.prog Try.f30.resultTypes.toList))
noncomputable def L_ref31_number_l3 (m n : Nat) (s_0 : ByteArray) (n_3 : Int) (i_4 : Int) : Option (List (RV C)) := iterK (Q_ref31_number_3 m) (St.norm (keep 30 3)) n ({ T := [.fl (.one (.str s_0)), .dead, .dead, .fl (.one (.int .i64 n_3)), .fl (.one (.int .i64 i_4))] ++ List.replicate 14 .dead, F := [[]], H := [] } : St C) (KL_ref31_number_3 m)
noncomputable def b_ref31_number_l3 {R : Type} (m : Nat) (ret : Int → Option R) (k_l3 : ByteArray → Int → Int → Option R) (s_0 : ByteArray) (n_3 : Int) (i_4 : Int) : Option R :=
 bif decide (i_4 < (s_0.size : Int)) then
 bif decide (0 ≤ i_4) then
 bif decide (i_4 < (s_0.size : Int)) then
 k_l3 s_0 (IntKind.i64.wrap (IntKind.i64.wrap (256 * n_3) + IntKind.i64.wrap (byteAt s_0 i_4))) (IntKind.i64.wrap (i_4 + 1))
 else
 none
 else
 none
 else
 ret n_3
theorem L_ref31_number_l3_step (m n : Nat) (s_0 : ByteArray) (n_3 : Int) (i_4 : Int) : L_ref31_number_l3 m (n + 1) s_0 n_3 i_4 = b_ref31_number_l3 m (fun x0 => some (w_ref31_number x0)) (fun s_0 n_3 i_4 => L_ref31_number_l3 m n s_0 n_3 i_4) s_0 n_3 i_4 := by kernel_rfl
theorem b_ref31_number_l3_map (m : Nat) {k_l3 : ByteArray → Int → Int → Option (List (RV C))} {q_l3 : ByteArray → Int → Int → Option (Int)} (h_l3 : ∀ s_0 n_3 i_4, k_l3 s_0 n_3 i_4 = (q_l3 s_0 n_3 i_4).map w_ref31_number) (s_0 : ByteArray) (n_3 : Int) (i_4 : Int) : b_ref31_number_l3 m (fun x0 => some (w_ref31_number x0)) k_l3 s_0 n_3 i_4 = (b_ref31_number_l3 m (fun x0 => some x0) q_l3 s_0 n_3 i_4).map w_ref31_number := by
  simp only [b_ref31_number_l3, cond_map, bind_map, map_none, map_some, h_l3]
noncomputable def ref31_number_l3 (m : Nat) : Nat → ByteArray → Int → Int → Option (Int)
  | 0, _, _, _ => none
  | n + 1, s_0, n_3, i_4 => b_ref31_number_l3 m (fun x0 => some x0) (fun s_0 n_3 i_4 => ref31_number_l3 m n s_0 n_3 i_4) s_0 n_3 i_4
theorem L_ref31_number_l3_eq (m : Nat) : ∀ (n : Nat) (s_0 : ByteArray) (n_3 : Int) (i_4 : Int), L_ref31_number_l3 m n s_0 n_3 i_4 = (ref31_number_l3 m n s_0 n_3 i_4).map w_ref31_number
  | 0, s_0, n_3, i_4 => by kernel_rfl
  | n + 1, s_0, n_3, i_4 => by
    rw [L_ref31_number_l3_step]
    exact b_ref31_number_l3_map m (fun s_0 n_3 i_4 => L_ref31_number_l3_eq m n s_0 n_3 i_4) s_0 n_3 i_4
noncomputable def b_ref31_number {R : Type} (m : Nat) (ret : Int → Option R) (k_l3 : ByteArray → Int → Int → Option R) (s_0 : ByteArray) : Option R :=
 k_l3 s_0 0 0
theorem ref31_number_pre (m : Nat) (s_0 : ByteArray) : funK Try.prog Ψ0 keep m 1 30 [dStr.e s_0] = b_ref31_number m (fun x0 => some (w_ref31_number x0)) (fun s_0 n_3 i_4 => L_ref31_number_l3 m m s_0 n_3 i_4) s_0 := by kernel_rfl
theorem b_ref31_number_map (m : Nat) {k_l3 : ByteArray → Int → Int → Option (List (RV C))} {q_l3 : ByteArray → Int → Int → Option (Int)} (h_l3 : ∀ s_0 n_3 i_4, k_l3 s_0 n_3 i_4 = (q_l3 s_0 n_3 i_4).map w_ref31_number) (s_0 : ByteArray) : b_ref31_number m (fun x0 => some (w_ref31_number x0)) k_l3 s_0 = (b_ref31_number m (fun x0 => some x0) q_l3 s_0).map w_ref31_number := by
  simp only [b_ref31_number, cond_map, bind_map, map_none, map_some, h_l3]
noncomputable def ref31_number (m : Nat) (s_0 : ByteArray) : Option (Int) := b_ref31_number m (fun x0 => some x0) (fun s_0 n_3 i_4 => ref31_number_l3 m m s_0 n_3 i_4) s_0
theorem ref31_number_fun (m : Nat) (s_0 : ByteArray) : funK Try.prog Ψ0 keep m 1 30 [dStr.e s_0] = (ref31_number m s_0).map w_ref31_number := by
  rw [ref31_number_pre]
  exact b_ref31_number_map m (fun s_0 n_3 i_4 => L_ref31_number_l3_eq m m s_0 n_3 i_4) s_0
noncomputable def K_ref31_number (m : Nat) : KnownF C := mkK (dCons dStr dNil) (fun a => ref31_number m a.1) w_ref31_number
theorem K_ref31_number_ok (m : Nat) : KnownAt C Try.prog 30 fun l => (K_ref31_number m).run _ l some :=
  mkK_known good fit Ψ0_ok (keep := keep) (m := m) (d := 1) fun a => ref31_number_fun m a.1
/-! ### signalbench/signalbenchref31.Step -/
noncomputable def Ψ_ref31_Step (m : Nat) : Known C := fun f => match f with
  | 16 => some (K_ref31_Check m)
  | 28 => some (K_ref31_accepts m)
  | 29 => some (K_ref31_modulus m)
  | 30 => some (K_ref31_number m)
  | _ => none
theorem Ψ_ref31_Step_ok (m : Nat) : KnownOk C Try.prog (Ψ_ref31_Step m) := by
  intro f φ h
  unfold Ψ_ref31_Step at h
  split at h
  · injection h with h; subst h; exact K_ref31_Check_ok m
  · injection h with h; subst h; exact K_ref31_accepts_ok m
  · injection h with h; subst h; exact K_ref31_modulus_ok m
  · injection h with h; subst h; exact K_ref31_number_ok m
  · cases h
def w_ref31_Step (b : State × List Event) : List (RV C) := [(dS of_State cells_State of_State_ok).e b.1, (dRow 33).e b.2]
noncomputable def b_ref31_Step {R : Type} (m : Nat) (ret : State → List Event → Option R) (c_0 : Eeprom) (s_1 : State) (e_2 : Event) : Option R :=
 (ref31_Check m c_0).bind fun r0 =>
 bif r0 != 0 then
 ret s_1 []
 else
 (ref31_accepts m s_1 e_2).bind fun r1 =>
 bif !r1 then
 ret s_1 []
 else
 bif e_2.Fault != 0 then
 ret { s_1 with At := e_2.From, Acc := 0 } []
 else
 bif e_2.Value == IntKind.i64.wrap (IntKind.i64.wrap (2 * c_0.Address) + 1) then
 ((ref31_modulus m c_0).bind fun r2 =>
 bif decide (r2 = 0) then
 none
 else
 ret { s_1 with At := e_2.From, Acc := (IntKind.i64.wrap (s_1.Acc + (e_2.Data.size : Int))).tmod r2 } ([Event.mk 7 e_2.From e_2.To s_1.Acc 1 e_2.Data 0]))
 else
 bif e_2.Value != IntKind.i64.wrap (2 * c_0.Address) then
 ret { s_1 with At := e_2.From } []
 else
 bif decide ((e_2.Data.size : Int) < c_0.Pointer) then
 ret { s_1 with At := e_2.From } ([Event.mk 7 e_2.From e_2.To 0 0 e_2.Data 8])
 else
 bif decide (0 ≤ c_0.Pointer) then
 (bif decide (c_0.Pointer ≤ (e_2.Data.size : Int)) then
 (bif decide (0 ≤ c_0.Pointer) then
 ((ref31_number m (e_2.Data.extract 0 c_0.Pointer.toNat)).bind fun r3 =>
 bif (e_2.Data.size : Int) == c_0.Pointer then
 ret { s_1 with At := e_2.From, Acc := r3 } []
 else
 bif decide ((e_2.Data.size : Int) ≤ (e_2.Data.size : Int)) then
 (bif decide (0 ≤ c_0.Pointer) then
 (bif decide (c_0.Pointer ≤ (e_2.Data.size : Int)) then
 ((ref31_modulus m c_0).bind fun r4 =>
 bif decide (r4 = 0) then
 none
 else
 ret { s_1 with At := e_2.From, Acc := (IntKind.i64.wrap (r3 + ((e_2.Data.extract c_0.Pointer.toNat ((e_2.Data.size : Int)).toNat).size : Int))).tmod r4 } ([Event.mk 7 e_2.From e_2.To r3 0 (e_2.Data.extract c_0.Pointer.toNat ((e_2.Data.size : Int)).toNat) 0]))
 else
 none)
 else
 none)
 else
 none)
 else
 none)
 else
 none)
 else
 none
theorem ref31_Step_pre (m : Nat) (c_0 : Eeprom) (s_1 : State) (e_2 : Event) : funK Try.prog (Ψ_ref31_Step m) keep m 1 13 [(dS of_Eeprom cells_Eeprom of_Eeprom_ok).e c_0, (dS of_State cells_State of_State_ok).e s_1, (dS of_Event cells_Event of_Event_ok).e e_2] = b_ref31_Step m (fun x0 x1 => some (w_ref31_Step (x0, x1))) c_0 s_1 e_2 := by kernel_rfl
theorem b_ref31_Step_map (m : Nat) (c_0 : Eeprom) (s_1 : State) (e_2 : Event) : b_ref31_Step m (fun x0 x1 => some (w_ref31_Step (x0, x1))) c_0 s_1 e_2 = (b_ref31_Step m (fun x0 x1 => some (x0, x1)) c_0 s_1 e_2).map w_ref31_Step := by
  simp only [b_ref31_Step, cond_map, bind_map, map_none, map_some]
noncomputable def ref31_Step (m : Nat) (c_0 : Eeprom) (s_1 : State) (e_2 : Event) : Option (State × List Event) := b_ref31_Step m (fun x0 x1 => some (x0, x1)) c_0 s_1 e_2
theorem ref31_Step_fun (m : Nat) (c_0 : Eeprom) (s_1 : State) (e_2 : Event) : funK Try.prog (Ψ_ref31_Step m) keep m 1 13 [(dS of_Eeprom cells_Eeprom of_Eeprom_ok).e c_0, (dS of_State cells_State of_State_ok).e s_1, (dS of_Event cells_Event of_Event_ok).e e_2] = (ref31_Step m c_0 s_1 e_2).map w_ref31_Step := by
  rw [ref31_Step_pre]
  exact b_ref31_Step_map m c_0 s_1 e_2
noncomputable def K_ref31_Step (m : Nat) : KnownF C := mkK (dCons (dS of_Eeprom cells_Eeprom of_Eeprom_ok) (dCons (dS of_State cells_State of_State_ok) (dCons (dS of_Event cells_Event of_Event_ok) dNil))) (fun a => ref31_Step m a.1 a.2.1 a.2.2.1) w_ref31_Step
theorem K_ref31_Step_ok (m : Nat) : KnownAt C Try.prog 13 fun l => (K_ref31_Step m).run _ l some :=
  mkK_known good fit (Ψ_ref31_Step_ok m) (keep := keep) (m := m) (d := 1) fun a => ref31_Step_fun m a.1 a.2.1 a.2.2.1
/-! ### signalbench/signalbenchref07.Same -/
def w_ref07_Same (b : Bool) : List (RV C) := [dBool.e b]
noncomputable def Q_ref07_Same_4 (m : Nat) : St C → (Exit → St C → Option (List (RV C))) → Option (List (RV C)) := fun σ k => codeK Try.prog Ψ0 (callK Try.prog Ψ0 keep m 0) (keep 14) m (subC body14 [.r, .r, .l, .r, .b, .o]) σ k
noncomputable def KL_ref07_Same_4 (m : Nat) : Exit → St C → Option (List (RV C)) := contK Try.prog Ψ0 (callK Try.prog Ψ0 keep m 0) (keep 14) m body14 [.r, .r, .l, .r, .b, .o] (leaveK Try.prog Try.f14.results.toList (finK Try.prog Try.f14.resultTypes.toList))
noncomputable def L_ref07_Same_l4 (m n : Nat) (i_5 : Int) (a_0 : List Event) (b_1 : List Event) : Option (List (RV C)) := iterK (Q_ref07_Same_4 m) (St.norm (keep 14 4)) n ({ T := [.fl (.one (.sl 0)), .fl (.one (.sl 1)), .dead, .dead, .dead, .fl (.one (.int .i64 i_5))] ++ List.replicate 20 .dead, F := [[]], H := [.row 33 false a_0, .row 33 false b_1] } : St C) (KL_ref07_Same_4 m)
noncomputable def b_ref07_Same_l4 {R : Type} (m : Nat) (ret : Bool → Option R) (k_l4 : Int → List Event → List Event → Option R) (i_5 : Int) (a_0 : List Event) (b_1 : List Event) : Option R :=
 bif decide (i_5 < (a_0.length : Int)) then
 bif decide (0 ≤ i_5) then
 bif decide (i_5 < (a_0.length : Int)) then
 bif decide (0 ≤ i_5) then
 bif decide (i_5 < (b_1.length : Int)) then
 bif !((a_0.getD i_5.toNat dflt_Event).Kind == (b_1.getD i_5.toNat dflt_Event).Kind && ((a_0.getD i_5.toNat dflt_Event).From == (b_1.getD i_5.toNat dflt_Event).From && ((a_0.getD i_5.toNat dflt_Event).To == (b_1.getD i_5.toNat dflt_Event).To && ((a_0.getD i_5.toNat dflt_Event).Value == (b_1.getD i_5.toNat dflt_Event).Value && ((a_0.getD i_5.toNat dflt_Event).Aux == (b_1.getD i_5.toNat dflt_Event).Aux && ((a_0.getD i_5.toNat dflt_Event).Data == (b_1.getD i_5.toNat dflt_Event).Data && ((a_0.getD i_5.toNat dflt_Event).Fault == (b_1.getD i_5.toNat dflt_Event).Fault && true))))))) then
 ret false
 else
 k_l4 (IntKind.i64.wrap (i_5 + 1)) a_0 b_1
 else
 none
 else
 none
 else
 none
 else
 none
 else
 ret true
theorem L_ref07_Same_l4_step (m n : Nat) (i_5 : Int) (a_0 : List Event) (b_1 : List Event) : L_ref07_Same_l4 m (n + 1) i_5 a_0 b_1 = b_ref07_Same_l4 m (fun x0 => some (w_ref07_Same x0)) (fun i_5 a_0 b_1 => L_ref07_Same_l4 m n i_5 a_0 b_1) i_5 a_0 b_1 := by kernel_rfl
theorem b_ref07_Same_l4_map (m : Nat) {k_l4 : Int → List Event → List Event → Option (List (RV C))} {q_l4 : Int → List Event → List Event → Option (Bool)} (h_l4 : ∀ i_5 a_0 b_1, k_l4 i_5 a_0 b_1 = (q_l4 i_5 a_0 b_1).map w_ref07_Same) (i_5 : Int) (a_0 : List Event) (b_1 : List Event) : b_ref07_Same_l4 m (fun x0 => some (w_ref07_Same x0)) k_l4 i_5 a_0 b_1 = (b_ref07_Same_l4 m (fun x0 => some x0) q_l4 i_5 a_0 b_1).map w_ref07_Same := by
  simp only [b_ref07_Same_l4, cond_map, bind_map, map_none, map_some, h_l4]
noncomputable def ref07_Same_l4 (m : Nat) : Nat → Int → List Event → List Event → Option (Bool)
  | 0, _, _, _ => none
  | n + 1, i_5, a_0, b_1 => b_ref07_Same_l4 m (fun x0 => some x0) (fun i_5 a_0 b_1 => ref07_Same_l4 m n i_5 a_0 b_1) i_5 a_0 b_1
theorem L_ref07_Same_l4_eq (m : Nat) : ∀ (n : Nat) (i_5 : Int) (a_0 : List Event) (b_1 : List Event), L_ref07_Same_l4 m n i_5 a_0 b_1 = (ref07_Same_l4 m n i_5 a_0 b_1).map w_ref07_Same
  | 0, i_5, a_0, b_1 => by kernel_rfl
  | n + 1, i_5, a_0, b_1 => by
    rw [L_ref07_Same_l4_step]
    exact b_ref07_Same_l4_map m (fun i_5 a_0 b_1 => L_ref07_Same_l4_eq m n i_5 a_0 b_1) i_5 a_0 b_1
noncomputable def b_ref07_Same {R : Type} (m : Nat) (ret : Bool → Option R) (k_l4 : Int → List Event → List Event → Option R) (a_0 : List Event) (b_1 : List Event) : Option R :=
 bif (a_0.length : Int) != (b_1.length : Int) then
 ret false
 else
 k_l4 0 a_0 b_1
theorem ref07_Same_pre (m : Nat) (a_0 : List Event) (b_1 : List Event) : funK Try.prog Ψ0 keep m 1 14 [(dRow 33).e a_0, (dRow 33).e b_1] = b_ref07_Same m (fun x0 => some (w_ref07_Same x0)) (fun i_5 a_0 b_1 => L_ref07_Same_l4 m m i_5 a_0 b_1) a_0 b_1 := by kernel_rfl
theorem b_ref07_Same_map (m : Nat) {k_l4 : Int → List Event → List Event → Option (List (RV C))} {q_l4 : Int → List Event → List Event → Option (Bool)} (h_l4 : ∀ i_5 a_0 b_1, k_l4 i_5 a_0 b_1 = (q_l4 i_5 a_0 b_1).map w_ref07_Same) (a_0 : List Event) (b_1 : List Event) : b_ref07_Same m (fun x0 => some (w_ref07_Same x0)) k_l4 a_0 b_1 = (b_ref07_Same m (fun x0 => some x0) q_l4 a_0 b_1).map w_ref07_Same := by
  simp only [b_ref07_Same, cond_map, bind_map, map_none, map_some, h_l4]
noncomputable def ref07_Same (m : Nat) (a_0 : List Event) (b_1 : List Event) : Option (Bool) := b_ref07_Same m (fun x0 => some x0) (fun i_5 a_0 b_1 => ref07_Same_l4 m m i_5 a_0 b_1) a_0 b_1
theorem ref07_Same_fun (m : Nat) (a_0 : List Event) (b_1 : List Event) : funK Try.prog Ψ0 keep m 1 14 [(dRow 33).e a_0, (dRow 33).e b_1] = (ref07_Same m a_0 b_1).map w_ref07_Same := by
  rw [ref07_Same_pre]
  exact b_ref07_Same_map m (fun i_5 a_0 b_1 => L_ref07_Same_l4_eq m m i_5 a_0 b_1) a_0 b_1
noncomputable def K_ref07_Same (m : Nat) : KnownF C := mkK (dCons (dRow 33) (dCons (dRow 33) dNil)) (fun a => ref07_Same m a.1 a.2.1) w_ref07_Same
theorem K_ref07_Same_ok (m : Nat) : KnownAt C Try.prog 14 fun l => (K_ref07_Same m).run _ l some :=
  mkK_known good fit Ψ0_ok (keep := keep) (m := m) (d := 1) fun a => ref07_Same_fun m a.1 a.2.1
/-! ### signalbench/signalbenchref31.End -/
def w_ref31_End (b : List Event) : List (RV C) := [(dRow 33).e b]
noncomputable def b_ref31_End {R : Type} (m : Nat) (ret : List Event → Option R) (c_0 : Eeprom) (s_1 : State) : Option R :=
 ret []
theorem ref31_End_pre (m : Nat) (c_0 : Eeprom) (s_1 : State) : funK Try.prog Ψ0 keep m 1 31 [(dS of_Eeprom cells_Eeprom of_Eeprom_ok).e c_0, (dS of_State cells_State of_State_ok).e s_1] = b_ref31_End m (fun x0 => some (w_ref31_End x0)) c_0 s_1 := by kernel_rfl
theorem b_ref31_End_map (m : Nat) (c_0 : Eeprom) (s_1 : State) : b_ref31_End m (fun x0 => some (w_ref31_End x0)) c_0 s_1 = (b_ref31_End m (fun x0 => some x0) c_0 s_1).map w_ref31_End := by
  simp only [b_ref31_End, cond_map, bind_map, map_none, map_some]
noncomputable def ref31_End (m : Nat) (c_0 : Eeprom) (s_1 : State) : Option (List Event) := b_ref31_End m (fun x0 => some x0) c_0 s_1
theorem ref31_End_fun (m : Nat) (c_0 : Eeprom) (s_1 : State) : funK Try.prog Ψ0 keep m 1 31 [(dS of_Eeprom cells_Eeprom of_Eeprom_ok).e c_0, (dS of_State cells_State of_State_ok).e s_1] = (ref31_End m c_0 s_1).map w_ref31_End := by
  rw [ref31_End_pre]
  exact b_ref31_End_map m c_0 s_1
noncomputable def K_ref31_End (m : Nat) : KnownF C := mkK (dCons (dS of_Eeprom cells_Eeprom of_Eeprom_ok) (dCons (dS of_State cells_State of_State_ok) dNil)) (fun a => ref31_End m a.1 a.2.1) w_ref31_End
theorem K_ref31_End_ok (m : Nat) : KnownAt C Try.prog 31 fun l => (K_ref31_End m).run _ l some :=
  mkK_known good fit Ψ0_ok (keep := keep) (m := m) (d := 1) fun a => ref31_End_fun m a.1 a.2.1
/-! ### signalbench/signalbenchref31.Decode -/
noncomputable def Ψ_ref31_Decode (m : Nat) : Known C := fun f => match f with
  | 11 => some (K_ref31_Start m)
  | 13 => some (K_ref31_Step m)
  | 31 => some (K_ref31_End m)
  | _ => none
theorem Ψ_ref31_Decode_ok (m : Nat) : KnownOk C Try.prog (Ψ_ref31_Decode m) := by
  intro f φ h
  unfold Ψ_ref31_Decode at h
  split at h
  · injection h with h; subst h; exact K_ref31_Start_ok m
  · injection h with h; subst h; exact K_ref31_Step_ok m
  · injection h with h; subst h; exact K_ref31_End_ok m
  · cases h
def w_ref31_Decode (b : List Event) : List (RV C) := [(dRow 33).e b]
noncomputable def Q_ref31_Decode_3 (m : Nat) : St C → (Exit → St C → Option (List (RV C))) → Option (List (RV C)) := fun σ k => codeK Try.prog (Ψ_ref31_Decode m) (callK Try.prog (Ψ_ref31_Decode m) keep m 0) (keep 19) m (subC body19 [.r, .r, .l, .r, .b, .o]) σ k
noncomputable def KL_ref31_Decode_3 (m : Nat) : Exit → St C → Option (List (RV C)) := contK Try.prog (Ψ_ref31_Decode m) (callK Try.prog (Ψ_ref31_Decode m) keep m 0) (keep 19) m body19 [.r, .r, .l, .r, .b, .o] (leaveK Try.prog Try.f19.results.toList (finK Try.prog Try.f19.resultTypes.toList))
noncomputable def L_ref31_Decode_l3 (m n : Nat) (i_7 : Int) (l_1 : List Event) (c1 : Eeprom) (c2 : State) (out_6 : List Event) : Option (List (RV C)) := iterK (Q_ref31_Decode_3 m) (St.norm (keep 19 3)) n ({ T := [.dead, .fl (.one (.sl 0)), .fl (.one (.ptr 1 0)), .dead, .dead, .fl (.one (.ptr 2 0)), .fl (.one (.sl 3)), .fl (.one (.int .i64 i_7))] ++ List.replicate 30 .dead, F := [[]], H := [.row 33 false l_1, .box 23 (cells_Eeprom c1), .box 28 (cells_State c2), .row 33 true out_6] } : St C) (KL_ref31_Decode_3 m)
noncomputable def b_ref31_Decode_l3 {R : Type} (m : Nat) (ret : List Event → Option R) (k_l3 : Int → List Event → Eeprom → State → List Event → Option R) (i_7 : Int) (l_1 : List Event) (c1 : Eeprom) (c2 : State) (out_6 : List Event) : Option R :=
 bif decide (i_7 < (l_1.length : Int)) then
 (bif decide (0 ≤ i_7) then
 (bif decide (i_7 < (l_1.length : Int)) then
 ((ref31_Step m c1 c2 (l_1.getD i_7.toNat dflt_Event)).bind fun r0 =>
 bif decide ((out_6.length + r0.snd.length) * 64 ≤ 140737488355328) then
 k_l3 (IntKind.i64.wrap (i_7 + 1)) l_1 c1 r0.fst (out_6 ++ r0.snd)
 else
 none)
 else
 none)
 else
 none)
 else
 bif decide ((out_6.length + 0) * 64 ≤ 140737488355328) then
 ret (out_6 ++ [])
 else
 none
theorem L_ref31_Decode_l3_step (m n : Nat) (i_7 : Int) (l_1 : List Event) (c1 : Eeprom) (c2 : State) (out_6 : List Event) : L_ref31_Decode_l3 m (n + 1) i_7 l_1 c1 c2 out_6 = b_ref31_Decode_l3 m (fun x0 => some (w_ref31_Decode x0)) (fun i_7 l_1 c1 c2 out_6 => L_ref31_Decode_l3 m n i_7 l_1 c1 c2 out_6) i_7 l_1 c1 c2 out_6 := by kernel_rfl
theorem b_ref31_Decode_l3_map (m : Nat) {k_l3 : Int → List Event → Eeprom → State → List Event → Option (List (RV C))} {q_l3 : Int → List Event → Eeprom → State → List Event → Option (List Event)} (h_l3 : ∀ i_7 l_1 c1 c2 out_6, k_l3 i_7 l_1 c1 c2 out_6 = (q_l3 i_7 l_1 c1 c2 out_6).map w_ref31_Decode) (i_7 : Int) (l_1 : List Event) (c1 : Eeprom) (c2 : State) (out_6 : List Event) : b_ref31_Decode_l3 m (fun x0 => some (w_ref31_Decode x0)) k_l3 i_7 l_1 c1 c2 out_6 = (b_ref31_Decode_l3 m (fun x0 => some x0) q_l3 i_7 l_1 c1 c2 out_6).map w_ref31_Decode := by
  simp only [b_ref31_Decode_l3, cond_map, bind_map, map_none, map_some, h_l3]
noncomputable def ref31_Decode_l3 (m : Nat) : Nat → Int → List Event → Eeprom → State → List Event → Option (List Event)
  | 0, _, _, _, _, _ => none
  | n + 1, i_7, l_1, c1, c2, out_6 => b_ref31_Decode_l3 m (fun x0 => some x0) (fun i_7 l_1 c1 c2 out_6 => ref31_Decode_l3 m n i_7 l_1 c1 c2 out_6) i_7 l_1 c1 c2 out_6
theorem L_ref31_Decode_l3_eq (m : Nat) : ∀ (n : Nat) (i_7 : Int) (l_1 : List Event) (c1 : Eeprom) (c2 : State) (out_6 : List Event), L_ref31_Decode_l3 m n i_7 l_1 c1 c2 out_6 = (ref31_Decode_l3 m n i_7 l_1 c1 c2 out_6).map w_ref31_Decode
  | 0, i_7, l_1, c1, c2, out_6 => by kernel_rfl
  | n + 1, i_7, l_1, c1, c2, out_6 => by
    rw [L_ref31_Decode_l3_step]
    exact b_ref31_Decode_l3_map m (fun i_7 l_1 c1 c2 out_6 => L_ref31_Decode_l3_eq m n i_7 l_1 c1 c2 out_6) i_7 l_1 c1 c2 out_6
noncomputable def b_ref31_Decode {R : Type} (m : Nat) (ret : List Event → Option R) (k_l3 : Int → List Event → Eeprom → State → List Event → Option R) (c_0 : Eeprom) (l_1 : List Event) : Option R :=
 k_l3 0 l_1 c_0 (State.mk 0 0 0 0 0 0 0 (bs [])) []
theorem ref31_Decode_pre (m : Nat) (c_0 : Eeprom) (l_1 : List Event) : funK Try.prog (Ψ_ref31_Decode m) keep m 1 19 [(dS of_Eeprom cells_Eeprom of_Eeprom_ok).e c_0, (dRow 33).e l_1] = b_ref31_Decode m (fun x0 => some (w_ref31_Decode x0)) (fun i_7 l_1 c1 c2 out_6 => L_ref31_Decode_l3 m m i_7 l_1 c1 c2 out_6) c_0 l_1 := by kernel_rfl
theorem b_ref31_Decode_map (m : Nat) {k_l3 : Int → List Event → Eeprom → State → List Event → Option (List (RV C))} {q_l3 : Int → List Event → Eeprom → State → List Event → Option (List Event)} (h_l3 : ∀ i_7 l_1 c1 c2 out_6, k_l3 i_7 l_1 c1 c2 out_6 = (q_l3 i_7 l_1 c1 c2 out_6).map w_ref31_Decode) (c_0 : Eeprom) (l_1 : List Event) : b_ref31_Decode m (fun x0 => some (w_ref31_Decode x0)) k_l3 c_0 l_1 = (b_ref31_Decode m (fun x0 => some x0) q_l3 c_0 l_1).map w_ref31_Decode := by
  simp only [b_ref31_Decode, cond_map, bind_map, map_none, map_some, h_l3]
noncomputable def ref31_Decode (m : Nat) (c_0 : Eeprom) (l_1 : List Event) : Option (List Event) := b_ref31_Decode m (fun x0 => some x0) (fun i_7 l_1 c1 c2 out_6 => ref31_Decode_l3 m m i_7 l_1 c1 c2 out_6) c_0 l_1
theorem ref31_Decode_fun (m : Nat) (c_0 : Eeprom) (l_1 : List Event) : funK Try.prog (Ψ_ref31_Decode m) keep m 1 19 [(dS of_Eeprom cells_Eeprom of_Eeprom_ok).e c_0, (dRow 33).e l_1] = (ref31_Decode m c_0 l_1).map w_ref31_Decode := by
  rw [ref31_Decode_pre]
  exact b_ref31_Decode_map m (fun i_7 l_1 c1 c2 out_6 => L_ref31_Decode_l3_eq m m i_7 l_1 c1 c2 out_6) c_0 l_1
noncomputable def K_ref31_Decode (m : Nat) : KnownF C := mkK (dCons (dS of_Eeprom cells_Eeprom of_Eeprom_ok) (dCons (dRow 33) dNil)) (fun a => ref31_Decode m a.1 a.2.1) w_ref31_Decode
theorem K_ref31_Decode_ok (m : Nat) : KnownAt C Try.prog 19 fun l => (K_ref31_Decode m).run _ l some :=
  mkK_known good fit (Ψ_ref31_Decode_ok m) (keep := keep) (m := m) (d := 1) fun a => ref31_Decode_fun m a.1 a.2.1
/-! ### signalbench/signalbenchlaw31.EepromDecodes -/
noncomputable def Ψ_law31_EepromDecodes (m : Nat) : Known C := fun f => match f with
  | 8 => some (K_law31_small m)
  | 9 => some (K_law31_awake m)
  | 10 => some (K_eeprom_Start m)
  | 11 => some (K_ref31_Start m)
  | 12 => some (K_eeprom_Step m)
  | 13 => some (K_ref31_Step m)
  | 14 => some (K_ref07_Same m)
  | 15 => some (K_eeprom_Check m)
  | 16 => some (K_ref31_Check m)
  | 17 => some (K_eeprom_End m)
  | 18 => some (K_eeprom_Decode m)
  | 19 => some (K_ref31_Decode m)
  | _ => none
theorem Ψ_law31_EepromDecodes_ok (m : Nat) : KnownOk C Try.prog (Ψ_law31_EepromDecodes m) := by
  intro f φ h
  unfold Ψ_law31_EepromDecodes at h
  split at h
  · injection h with h; subst h; exact K_law31_small_ok m
  · injection h with h; subst h; exact K_law31_awake_ok m
  · injection h with h; subst h; exact K_eeprom_Start_ok m
  · injection h with h; subst h; exact K_ref31_Start_ok m
  · injection h with h; subst h; exact K_eeprom_Step_ok m
  · injection h with h; subst h; exact K_ref31_Step_ok m
  · injection h with h; subst h; exact K_ref07_Same_ok m
  · injection h with h; subst h; exact K_eeprom_Check_ok m
  · injection h with h; subst h; exact K_ref31_Check_ok m
  · injection h with h; subst h; exact K_eeprom_End_ok m
  · injection h with h; subst h; exact K_eeprom_Decode_ok m
  · injection h with h; subst h; exact K_ref31_Decode_ok m
  · cases h
def w_law31_EepromDecodes (b : Bool) : List (RV C) := [dBool.e b]
noncomputable def Q_law31_EepromDecodes_5 (m : Nat) : St C → (Exit → St C → Option (List (RV C))) → Option (List (RV C)) := fun σ k => codeK Try.prog (Ψ_law31_EepromDecodes m) (callK Try.prog (Ψ_law31_EepromDecodes m) keep m 0) (keep 3) m (subC body3 [.r, .r, .r, .l, .r, .b, .o]) σ k
noncomputable def KL_law31_EepromDecodes_5 (m : Nat) : Exit → St C → Option (List (RV C)) := contK Try.prog (Ψ_law31_EepromDecodes m) (callK Try.prog (Ψ_law31_EepromDecodes m) keep m 0) (keep 3) m body3 [.r, .r, .r, .l, .r, .b, .o] (leaveK Try.prog Try.f3.results.toList (finK Try.prog Try.f3.resultTypes.toList))
noncomputable def L_law31_EepromDecodes_l5 (m n : Nat) (i_7 : Int) (l_1 : List Event) (c1 : Eeprom) (c2 : State) (c3 : State) : Option (List (RV C)) := iterK (Q_law31_EepromDecodes_5 m) (St.norm (keep 3 5)) n ({ T := [.dead, .fl (.one (.sl 0)), .fl (.one (.ptr 1 0)), .dead, .dead, .fl (.one (.ptr 2 0)), .fl (.one (.ptr 3 0)), .fl (.one (.int .i64 i_7))] ++ List.replicate 68 .dead, F := [[]], H := [.row 33 false l_1, .box 23 (cells_Eeprom c1), .box 28 (cells_State c2), .box 28 (cells_State c3)] } : St C) (KL_law31_EepromDecodes_5 m)
noncomputable def b_law31_EepromDecodes_l5 {R : Type} (m : Nat) (ret : Bool → Option R) (k_l5 : Int → List Event → Eeprom → State → State → Option R) (i_7 : Int) (l_1 : List Event) (c1 : Eeprom) (c2 : State) (c3 : State) : Option R :=
 bif decide (i_7 < (l_1.length : Int)) then
 (bif decide (0 ≤ i_7) then
 (bif decide (i_7 < (l_1.length : Int)) then
 ((eeprom_Step m c1 c2 (l_1.getD i_7.toNat dflt_Event)).bind fun r0 =>
 bif decide (0 ≤ i_7) then
 (bif decide (i_7 < (l_1.length : Int)) then
 ((ref31_Step m c1 c3 (l_1.getD i_7.toNat dflt_Event)).bind fun r1 =>
 (ref07_Same m r0.snd r1.snd).bind fun r2 =>
 bif !r2 then
 ret false
 else
 k_l5 (IntKind.i64.wrap (i_7 + 1)) l_1 c1 r0.fst r1.fst)
 else
 none)
 else
 none)
 else
 none)
 else
 none)
 else
 (eeprom_Check m c1).bind fun r3 =>
 (ref31_Check m c1).bind fun r4 =>
 bif r3 == r4 then
 ((eeprom_Decode m c1 l_1).bind fun r5 =>
 (ref31_Decode m c1 l_1).bind fun r6 =>
 (ref07_Same m r5 r6).bind fun r7 =>
 bif r7 then
 ((law31_awake m).bind fun r8 =>
 ret r8)
 else
 ret false)
 else
 ret false
theorem L_law31_EepromDecodes_l5_step (m n : Nat) (i_7 : Int) (l_1 : List Event) (c1 : Eeprom) (c2 : State) (c3 : State) : L_law31_EepromDecodes_l5 m (n + 1) i_7 l_1 c1 c2 c3 = b_law31_EepromDecodes_l5 m (fun x0 => some (w_law31_EepromDecodes x0)) (fun i_7 l_1 c1 c2 c3 => L_law31_EepromDecodes_l5 m n i_7 l_1 c1 c2 c3) i_7 l_1 c1 c2 c3 := by kernel_rfl
theorem b_law31_EepromDecodes_l5_map (m : Nat) {k_l5 : Int → List Event → Eeprom → State → State → Option (List (RV C))} {q_l5 : Int → List Event → Eeprom → State → State → Option (Bool)} (h_l5 : ∀ i_7 l_1 c1 c2 c3, k_l5 i_7 l_1 c1 c2 c3 = (q_l5 i_7 l_1 c1 c2 c3).map w_law31_EepromDecodes) (i_7 : Int) (l_1 : List Event) (c1 : Eeprom) (c2 : State) (c3 : State) : b_law31_EepromDecodes_l5 m (fun x0 => some (w_law31_EepromDecodes x0)) k_l5 i_7 l_1 c1 c2 c3 = (b_law31_EepromDecodes_l5 m (fun x0 => some x0) q_l5 i_7 l_1 c1 c2 c3).map w_law31_EepromDecodes := by
  simp only [b_law31_EepromDecodes_l5, cond_map, bind_map, map_none, map_some, h_l5]
noncomputable def law31_EepromDecodes_l5 (m : Nat) : Nat → Int → List Event → Eeprom → State → State → Option (Bool)
  | 0, _, _, _, _, _ => none
  | n + 1, i_7, l_1, c1, c2, c3 => b_law31_EepromDecodes_l5 m (fun x0 => some x0) (fun i_7 l_1 c1 c2 c3 => law31_EepromDecodes_l5 m n i_7 l_1 c1 c2 c3) i_7 l_1 c1 c2 c3
theorem L_law31_EepromDecodes_l5_eq (m : Nat) : ∀ (n : Nat) (i_7 : Int) (l_1 : List Event) (c1 : Eeprom) (c2 : State) (c3 : State), L_law31_EepromDecodes_l5 m n i_7 l_1 c1 c2 c3 = (law31_EepromDecodes_l5 m n i_7 l_1 c1 c2 c3).map w_law31_EepromDecodes
  | 0, i_7, l_1, c1, c2, c3 => by kernel_rfl
  | n + 1, i_7, l_1, c1, c2, c3 => by
    rw [L_law31_EepromDecodes_l5_step]
    exact b_law31_EepromDecodes_l5_map m (fun i_7 l_1 c1 c2 c3 => L_law31_EepromDecodes_l5_eq m n i_7 l_1 c1 c2 c3) i_7 l_1 c1 c2 c3
noncomputable def b_law31_EepromDecodes {R : Type} (m : Nat) (ret : Bool → Option R) (k_l5 : Int → List Event → Eeprom → State → State → Option R) (c_0 : Eeprom) (l_1 : List Event) : Option R :=
 (law31_small m l_1).bind fun r0 =>
 bif !r0 then
 ((law31_awake m).bind fun r1 =>
 ret r1)
 else
 k_l5 0 l_1 c_0 (State.mk 0 0 0 0 0 0 0 (bs [])) (State.mk 0 0 0 0 0 0 0 (bs []))
theorem law31_EepromDecodes_pre (m : Nat) (c_0 : Eeprom) (l_1 : List Event) : funK Try.prog (Ψ_law31_EepromDecodes m) keep m 1 3 [(dS of_Eeprom cells_Eeprom of_Eeprom_ok).e c_0, (dRow 33).e l_1] = b_law31_EepromDecodes m (fun x0 => some (w_law31_EepromDecodes x0)) (fun i_7 l_1 c1 c2 c3 => L_law31_EepromDecodes_l5 m m i_7 l_1 c1 c2 c3) c_0 l_1 := by kernel_rfl
theorem b_law31_EepromDecodes_map (m : Nat) {k_l5 : Int → List Event → Eeprom → State → State → Option (List (RV C))} {q_l5 : Int → List Event → Eeprom → State → State → Option (Bool)} (h_l5 : ∀ i_7 l_1 c1 c2 c3, k_l5 i_7 l_1 c1 c2 c3 = (q_l5 i_7 l_1 c1 c2 c3).map w_law31_EepromDecodes) (c_0 : Eeprom) (l_1 : List Event) : b_law31_EepromDecodes m (fun x0 => some (w_law31_EepromDecodes x0)) k_l5 c_0 l_1 = (b_law31_EepromDecodes m (fun x0 => some x0) q_l5 c_0 l_1).map w_law31_EepromDecodes := by
  simp only [b_law31_EepromDecodes, cond_map, bind_map, map_none, map_some, h_l5]
noncomputable def law31_EepromDecodes (m : Nat) (c_0 : Eeprom) (l_1 : List Event) : Option (Bool) := b_law31_EepromDecodes m (fun x0 => some x0) (fun i_7 l_1 c1 c2 c3 => law31_EepromDecodes_l5 m m i_7 l_1 c1 c2 c3) c_0 l_1
theorem law31_EepromDecodes_fun (m : Nat) (c_0 : Eeprom) (l_1 : List Event) : funK Try.prog (Ψ_law31_EepromDecodes m) keep m 1 3 [(dS of_Eeprom cells_Eeprom of_Eeprom_ok).e c_0, (dRow 33).e l_1] = (law31_EepromDecodes m c_0 l_1).map w_law31_EepromDecodes := by
  rw [law31_EepromDecodes_pre]
  exact b_law31_EepromDecodes_map m (fun i_7 l_1 c1 c2 c3 => L_law31_EepromDecodes_l5_eq m m i_7 l_1 c1 c2 c3) c_0 l_1
noncomputable def K_law31_EepromDecodes (m : Nat) : KnownF C := mkK (dCons (dS of_Eeprom cells_Eeprom of_Eeprom_ok) (dCons (dRow 33) dNil)) (fun a => law31_EepromDecodes m a.1 a.2.1) w_law31_EepromDecodes
theorem K_law31_EepromDecodes_ok (m : Nat) : KnownAt C Try.prog 3 fun l => (K_law31_EepromDecodes m).run _ l some :=
  mkK_known good fit (Ψ_law31_EepromDecodes_ok m) (keep := keep) (m := m) (d := 1) fun a => law31_EepromDecodes_fun m a.1 a.2.1
/-! ### signalbench/signalbenchlaw31.tiny -/
def w_law31_tiny (b : Bool) : List (RV C) := [dBool.e b]
noncomputable def Q_law31_tiny_4 (m : Nat) : St C → (Exit → St C → Option (List (RV C))) → Option (List (RV C)) := fun σ k => codeK Try.prog Ψ0 (callK Try.prog Ψ0 keep m 0) (keep 20) m (subC body20 [.r, .r, .l, .r, .b, .o]) σ k
noncomputable def KL_law31_tiny_4 (m : Nat) : Exit → St C → Option (List (RV C)) := contK Try.prog Ψ0 (callK Try.prog Ψ0 keep m 0) (keep 20) m body20 [.r, .r, .l, .r, .b, .o] (leaveK Try.prog Try.f20.results.toList (finK Try.prog Try.f20.resultTypes.toList))
noncomputable def L_law31_tiny_l4 (m n : Nat) (i_3 : Int) (l_0 : List Item) : Option (List (RV C)) := iterK (Q_law31_tiny_4 m) (St.norm (keep 20 4)) n ({ T := [.fl (.one (.sl 0)), .dead, .dead, .fl (.one (.int .i64 i_3))] ++ List.replicate 16 .dead, F := [[]], H := [.row 45 false l_0] } : St C) (KL_law31_tiny_4 m)
noncomputable def b_law31_tiny_l4 {R : Type} (m : Nat) (ret : Bool → Option R) (k_l4 : Int → List Item → Option R) (i_3 : Int) (l_0 : List Item) : Option R :=
 bif decide (i_3 < (l_0.length : Int)) then
 bif decide (0 ≤ i_3) then
 bif decide (i_3 < (l_0.length : Int)) then
 bif decide (((l_0.getD i_3.toNat dflt_Item).Data.size : Int) > 5000) then
 ret false
 else
 k_l4 (IntKind.i64.wrap (i_3 + 1)) l_0
 else
 none
 else
 none
 else
 ret true
theorem L_law31_tiny_l4_step (m n : Nat) (i_3 : Int) (l_0 : List Item) : L_law31_tiny_l4 m (n + 1) i_3 l_0 = b_law31_tiny_l4 m (fun x0 => some (w_law31_tiny x0)) (fun i_3 l_0 => L_law31_tiny_l4 m n i_3 l_0) i_3 l_0 := by kernel_rfl
theorem b_law31_tiny_l4_map (m : Nat) {k_l4 : Int → List Item → Option (List (RV C))} {q_l4 : Int → List Item → Option (Bool)} (h_l4 : ∀ i_3 l_0, k_l4 i_3 l_0 = (q_l4 i_3 l_0).map w_law31_tiny) (i_3 : Int) (l_0 : List Item) : b_law31_tiny_l4 m (fun x0 => some (w_law31_tiny x0)) k_l4 i_3 l_0 = (b_law31_tiny_l4 m (fun x0 => some x0) q_l4 i_3 l_0).map w_law31_tiny := by
  simp only [b_law31_tiny_l4, cond_map, bind_map, map_none, map_some, h_l4]
noncomputable def law31_tiny_l4 (m : Nat) : Nat → Int → List Item → Option (Bool)
  | 0, _, _ => none
  | n + 1, i_3, l_0 => b_law31_tiny_l4 m (fun x0 => some x0) (fun i_3 l_0 => law31_tiny_l4 m n i_3 l_0) i_3 l_0
theorem L_law31_tiny_l4_eq (m : Nat) : ∀ (n : Nat) (i_3 : Int) (l_0 : List Item), L_law31_tiny_l4 m n i_3 l_0 = (law31_tiny_l4 m n i_3 l_0).map w_law31_tiny
  | 0, i_3, l_0 => by kernel_rfl
  | n + 1, i_3, l_0 => by
    rw [L_law31_tiny_l4_step]
    exact b_law31_tiny_l4_map m (fun i_3 l_0 => L_law31_tiny_l4_eq m n i_3 l_0) i_3 l_0
noncomputable def b_law31_tiny {R : Type} (m : Nat) (ret : Bool → Option R) (k_l4 : Int → List Item → Option R) (l_0 : List Item) : Option R :=
 bif decide ((l_0.length : Int) > 20) then
 ret false
 else
 k_l4 0 l_0
theorem law31_tiny_pre (m : Nat) (l_0 : List Item) : funK Try.prog Ψ0 keep m 1 20 [(dRow 45).e l_0] = b_law31_tiny m (fun x0 => some (w_law31_tiny x0)) (fun i_3 l_0 => L_law31_tiny_l4 m m i_3 l_0) l_0 := by kernel_rfl
theorem b_law31_tiny_map (m : Nat) {k_l4 : Int → List Item → Option (List (RV C))} {q_l4 : Int → List Item → Option (Bool)} (h_l4 : ∀ i_3 l_0, k_l4 i_3 l_0 = (q_l4 i_3 l_0).map w_law31_tiny) (l_0 : List Item) : b_law31_tiny m (fun x0 => some (w_law31_tiny x0)) k_l4 l_0 = (b_law31_tiny m (fun x0 => some x0) q_l4 l_0).map w_law31_tiny := by
  simp only [b_law31_tiny, cond_map, bind_map, map_none, map_some, h_l4]
noncomputable def law31_tiny (m : Nat) (l_0 : List Item) : Option (Bool) := b_law31_tiny m (fun x0 => some x0) (fun i_3 l_0 => law31_tiny_l4 m m i_3 l_0) l_0
theorem law31_tiny_fun (m : Nat) (l_0 : List Item) : funK Try.prog Ψ0 keep m 1 20 [(dRow 45).e l_0] = (law31_tiny m l_0).map w_law31_tiny := by
  rw [law31_tiny_pre]
  exact b_law31_tiny_map m (fun i_3 l_0 => L_law31_tiny_l4_eq m m i_3 l_0) l_0
noncomputable def K_law31_tiny (m : Nat) : KnownF C := mkK (dCons (dRow 45) dNil) (fun a => law31_tiny m a.1) w_law31_tiny
theorem K_law31_tiny_ok (m : Nat) : KnownAt C Try.prog 20 fun l => (K_law31_tiny m).run _ l some :=
  mkK_known good fit Ψ0_ok (keep := keep) (m := m) (d := 1) fun a => law31_tiny_fun m a.1
/-! ### signalbench/signalbenchref31.wrong -/
noncomputable def Ψ_ref31_wrong (m : Nat) : Known C := fun f => match f with
  | 29 => some (K_ref31_modulus m)
  | _ => none
theorem Ψ_ref31_wrong_ok (m : Nat) : KnownOk C Try.prog (Ψ_ref31_wrong m) := by
  intro f φ h
  unfold Ψ_ref31_wrong at h
  split at h
  · injection h with h; subst h; exact K_ref31_modulus_ok m
  · cases h
def w_ref31_wrong (b : Int) : List (RV C) := [(dInt .i64).e b]
noncomputable def b_ref31_wrong {R : Type} (m : Nat) (ret : Int → Option R) (c_0 : Eeprom) (x_1 : Item) : Option R :=
 bif decide (x_1.Gap < 0) then
 ret 1
 else
 bif decide (x_1.Gap > 1048576) then
 ret 1
 else
 bif decide ((x_1.Data.size : Int) > 4096) then
 ret 6
 else
 bif decide (x_1.Value < 0) then
 ret 2
 else
 (ref31_modulus m c_0).bind fun r0 =>
 bif decide (x_1.Value ≥ r0) then
 ret 2
 else
 bif decide (x_1.Aux < 0) then
 ret 2
 else
 bif decide (x_1.Aux > 1) then
 ret 2
 else
 bif x_1.Fault != 0 then
 ret 1
 else
 bif x_1.Aux == 0 then
 bif x_1.Data.toList == (bs []).toList then
 ret 1
 else
 bif x_1.Aux == 0 then
 bif decide (IntKind.i64.wrap ((x_1.Data.size : Int) + c_0.Pointer) > 4096) then
 ret 6
 else
 ret 0
 else
 ret 0
 else
 bif x_1.Aux == 0 then
 bif decide (IntKind.i64.wrap ((x_1.Data.size : Int) + c_0.Pointer) > 4096) then
 ret 6
 else
 ret 0
 else
 ret 0
theorem ref31_wrong_pre (m : Nat) (c_0 : Eeprom) (x_1 : Item) : funK Try.prog (Ψ_ref31_wrong m) keep m 1 34 [(dS of_Eeprom cells_Eeprom of_Eeprom_ok).e c_0, (dS of_Item cells_Item of_Item_ok).e x_1] = b_ref31_wrong m (fun x0 => some (w_ref31_wrong x0)) c_0 x_1 := by kernel_rfl
theorem b_ref31_wrong_map (m : Nat) (c_0 : Eeprom) (x_1 : Item) : b_ref31_wrong m (fun x0 => some (w_ref31_wrong x0)) c_0 x_1 = (b_ref31_wrong m (fun x0 => some x0) c_0 x_1).map w_ref31_wrong := by
  simp only [b_ref31_wrong, cond_map, bind_map, map_none, map_some]
noncomputable def ref31_wrong (m : Nat) (c_0 : Eeprom) (x_1 : Item) : Option (Int) := b_ref31_wrong m (fun x0 => some x0) c_0 x_1
theorem ref31_wrong_fun (m : Nat) (c_0 : Eeprom) (x_1 : Item) : funK Try.prog (Ψ_ref31_wrong m) keep m 1 34 [(dS of_Eeprom cells_Eeprom of_Eeprom_ok).e c_0, (dS of_Item cells_Item of_Item_ok).e x_1] = (ref31_wrong m c_0 x_1).map w_ref31_wrong := by
  rw [ref31_wrong_pre]
  exact b_ref31_wrong_map m c_0 x_1
noncomputable def K_ref31_wrong (m : Nat) : KnownF C := mkK (dCons (dS of_Eeprom cells_Eeprom of_Eeprom_ok) (dCons (dS of_Item cells_Item of_Item_ok) dNil)) (fun a => ref31_wrong m a.1 a.2.1) w_ref31_wrong
theorem K_ref31_wrong_ok (m : Nat) : KnownAt C Try.prog 34 fun l => (K_ref31_wrong m).run _ l some :=
  mkK_known good fit (Ψ_ref31_wrong_ok m) (keep := keep) (m := m) (d := 1) fun a => ref31_wrong_fun m a.1 a.2.1
/-! ### signalbench/signalbenchref31.pointer -/
def w_ref31_pointer (b : ByteArray) : List (RV C) := [dStr.e b]
noncomputable def b_ref31_pointer {R : Type} (m : Nat) (ret : ByteArray → Option R) (c_0 : Eeprom) (n_1 : Int) : Option R :=
 bif c_0.Pointer == 1 then
 ret (toBytes [IntKind.u8.wrap n_1])
 else
 ret (toBytes [IntKind.u8.wrap (IntKind.i64.wrap (n_1.tdiv 256)), IntKind.u8.wrap (n_1.tmod 256)])
theorem ref31_pointer_pre (m : Nat) (c_0 : Eeprom) (n_1 : Int) : funK Try.prog Ψ0 keep m 1 35 [(dS of_Eeprom cells_Eeprom of_Eeprom_ok).e c_0, (dInt .i64).e n_1] = b_ref31_pointer m (fun x0 => some (w_ref31_pointer x0)) c_0 n_1 := by kernel_rfl
theorem b_ref31_pointer_map (m : Nat) (c_0 : Eeprom) (n_1 : Int) : b_ref31_pointer m (fun x0 => some (w_ref31_pointer x0)) c_0 n_1 = (b_ref31_pointer m (fun x0 => some x0) c_0 n_1).map w_ref31_pointer := by
  simp only [b_ref31_pointer, cond_map, bind_map, map_none, map_some]
noncomputable def ref31_pointer (m : Nat) (c_0 : Eeprom) (n_1 : Int) : Option (ByteArray) := b_ref31_pointer m (fun x0 => some x0) c_0 n_1
theorem ref31_pointer_fun (m : Nat) (c_0 : Eeprom) (n_1 : Int) : funK Try.prog Ψ0 keep m 1 35 [(dS of_Eeprom cells_Eeprom of_Eeprom_ok).e c_0, (dInt .i64).e n_1] = (ref31_pointer m c_0 n_1).map w_ref31_pointer := by
  rw [ref31_pointer_pre]
  exact b_ref31_pointer_map m c_0 n_1
noncomputable def K_ref31_pointer (m : Nat) : KnownF C := mkK (dCons (dS of_Eeprom cells_Eeprom of_Eeprom_ok) (dCons (dInt .i64) dNil)) (fun a => ref31_pointer m a.1 a.2.1) w_ref31_pointer
theorem K_ref31_pointer_ok (m : Nat) : KnownAt C Try.prog 35 fun l => (K_ref31_pointer m).run _ l some :=
  mkK_known good fit Ψ0_ok (keep := keep) (m := m) (d := 1) fun a => ref31_pointer_fun m a.1 a.2.1
/-! ### signalbench/signalbenchref31.Encode -/
noncomputable def Ψ_ref31_Encode (m : Nat) : Known C := fun f => match f with
  | 16 => some (K_ref31_Check m)
  | 34 => some (K_ref31_wrong m)
  | 35 => some (K_ref31_pointer m)
  | _ => none
theorem Ψ_ref31_Encode_ok (m : Nat) : KnownOk C Try.prog (Ψ_ref31_Encode m) := by
  intro f φ h
  unfold Ψ_ref31_Encode at h
  split at h
  · injection h with h; subst h; exact K_ref31_Check_ok m
  · injection h with h; subst h; exact K_ref31_wrong_ok m
  · injection h with h; subst h; exact K_ref31_pointer_ok m
  · cases h
def w_ref31_Encode (b : List Item × Int) : List (RV C) := [(dRow 45).e b.1, (dInt .i64).e b.2]
noncomputable def Q_ref31_Encode_8 (m : Nat) : St C → (Exit → St C → Option (List (RV C))) → Option (List (RV C)) := fun σ k => codeK Try.prog (Ψ_ref31_Encode m) (callK Try.prog (Ψ_ref31_Encode m) keep m 0) (keep 22) m (subC body22 [.r, .r, .r, .r, .l, .r, .b, .o]) σ k
noncomputable def KL_ref31_Encode_8 (m : Nat) : Exit → St C → Option (List (RV C)) := contK Try.prog (Ψ_ref31_Encode m) (callK Try.prog (Ψ_ref31_Encode m) keep m 0) (keep 22) m body22 [.r, .r, .r, .r, .l, .r, .b, .o] (leaveK Try.prog Try.f22.results.toList (finK Try.prog Try.f22.resultTypes.toList))
noncomputable def L_ref31_Encode_l8 (m n : Nat) (i_8 : Int) (l_1 : List Item) (c1 : Eeprom) (out_7 : List Item) : Option (List (RV C)) := iterK (Q_ref31_Encode_8 m) (St.norm (keep 22 8)) n ({ T := [.dead, .fl (.one (.sl 0)), .fl (.one (.ptr 1 0)), .dead, .dead, .dead, .dead, .fl (.one (.sl 2)), .fl (.one (.int .i64 i_8))] ++ List.replicate 64 .dead, F := [[]], H := [.row 45 false l_1, .box 23 (cells_Eeprom c1), .row 45 true out_7] } : St C) (KL_ref31_Encode_8 m)
noncomputable def b_ref31_Encode_l8 {R : Type} (m : Nat) (ret : List Item → Int → Option R) (k_l8 : Int → List Item → Eeprom → List Item → Option R) (i_8 : Int) (l_1 : List Item) (c1 : Eeprom) (out_7 : List Item) : Option R :=
 bif decide (i_8 < (l_1.length : Int)) then
 (bif decide (0 ≤ i_8) then
 (bif decide (i_8 < (l_1.length : Int)) then
 ((ref31_wrong m c1 (l_1.getD i_8.toNat dflt_Item)).bind fun r0 =>
 bif r0 != 0 then
 ret [] r0
 else
 (ref31_pointer m c1 (l_1.getD i_8.toNat dflt_Item).Value).bind fun r1 =>
 bif (l_1.getD i_8.toNat dflt_Item).Aux == 0 then
 bif decide (((r1.size + (l_1.getD i_8.toNat dflt_Item).Data.size) : Int) > 9223372036854775807) then
 none
 else
 bif decide ((out_7.length + 1) * 48 ≤ 140737488355328) then
 k_l8 (IntKind.i64.wrap (i_8 + 1)) l_1 c1 (out_7 ++ [Item.mk (l_1.getD i_8.toNat dflt_Item).Gap (IntKind.i64.wrap (2 * c1.Address)) 1 (r1 ++ (l_1.getD i_8.toNat dflt_Item).Data) 0])
 else
 none
 else
 bif decide ((out_7.length + 2) * 48 ≤ 140737488355328) then
 k_l8 (IntKind.i64.wrap (i_8 + 1)) l_1 c1 (out_7 ++ [Item.mk (l_1.getD i_8.toNat dflt_Item).Gap (IntKind.i64.wrap (2 * c1.Address)) 0 r1 0, Item.mk 0 (IntKind.i64.wrap (IntKind.i64.wrap (2 * c1.Address) + 1)) 1 (l_1.getD i_8.toNat dflt_Item).Data 0])
 else
 none)
 else
 none)
 else
 none)
 else
 ret out_7 0
theorem L_ref31_Encode_l8_step (m n : Nat) (i_8 : Int) (l_1 : List Item) (c1 : Eeprom) (out_7 : List Item) : L_ref31_Encode_l8 m (n + 1) i_8 l_1 c1 out_7 = b_ref31_Encode_l8 m (fun x0 x1 => some (w_ref31_Encode (x0, x1))) (fun i_8 l_1 c1 out_7 => L_ref31_Encode_l8 m n i_8 l_1 c1 out_7) i_8 l_1 c1 out_7 := by kernel_rfl
theorem b_ref31_Encode_l8_map (m : Nat) {k_l8 : Int → List Item → Eeprom → List Item → Option (List (RV C))} {q_l8 : Int → List Item → Eeprom → List Item → Option (List Item × Int)} (h_l8 : ∀ i_8 l_1 c1 out_7, k_l8 i_8 l_1 c1 out_7 = (q_l8 i_8 l_1 c1 out_7).map w_ref31_Encode) (i_8 : Int) (l_1 : List Item) (c1 : Eeprom) (out_7 : List Item) : b_ref31_Encode_l8 m (fun x0 x1 => some (w_ref31_Encode (x0, x1))) k_l8 i_8 l_1 c1 out_7 = (b_ref31_Encode_l8 m (fun x0 x1 => some (x0, x1)) q_l8 i_8 l_1 c1 out_7).map w_ref31_Encode := by
  simp only [b_ref31_Encode_l8, cond_map, bind_map, map_none, map_some, h_l8]
noncomputable def ref31_Encode_l8 (m : Nat) : Nat → Int → List Item → Eeprom → List Item → Option (List Item × Int)
  | 0, _, _, _, _ => none
  | n + 1, i_8, l_1, c1, out_7 => b_ref31_Encode_l8 m (fun x0 x1 => some (x0, x1)) (fun i_8 l_1 c1 out_7 => ref31_Encode_l8 m n i_8 l_1 c1 out_7) i_8 l_1 c1 out_7
theorem L_ref31_Encode_l8_eq (m : Nat) : ∀ (n : Nat) (i_8 : Int) (l_1 : List Item) (c1 : Eeprom) (out_7 : List Item), L_ref31_Encode_l8 m n i_8 l_1 c1 out_7 = (ref31_Encode_l8 m n i_8 l_1 c1 out_7).map w_ref31_Encode
  | 0, i_8, l_1, c1, out_7 => by kernel_rfl
  | n + 1, i_8, l_1, c1, out_7 => by
    rw [L_ref31_Encode_l8_step]
    exact b_ref31_Encode_l8_map m (fun i_8 l_1 c1 out_7 => L_ref31_Encode_l8_eq m n i_8 l_1 c1 out_7) i_8 l_1 c1 out_7
noncomputable def b_ref31_Encode {R : Type} (m : Nat) (ret : List Item → Int → Option R) (k_l8 : Int → List Item → Eeprom → List Item → Option R) (c_0 : Eeprom) (l_1 : List Item) : Option R :=
 (ref31_Check m c_0).bind fun r0 =>
 bif r0 != 0 then
 ret [] r0
 else
 bif decide ((l_1.length : Int) > 1024) then
 ret [] 6
 else
 k_l8 0 l_1 c_0 []
theorem ref31_Encode_pre (m : Nat) (c_0 : Eeprom) (l_1 : List Item) : funK Try.prog (Ψ_ref31_Encode m) keep m 1 22 [(dS of_Eeprom cells_Eeprom of_Eeprom_ok).e c_0, (dRow 45).e l_1] = b_ref31_Encode m (fun x0 x1 => some (w_ref31_Encode (x0, x1))) (fun i_8 l_1 c1 out_7 => L_ref31_Encode_l8 m m i_8 l_1 c1 out_7) c_0 l_1 := by kernel_rfl
theorem b_ref31_Encode_map (m : Nat) {k_l8 : Int → List Item → Eeprom → List Item → Option (List (RV C))} {q_l8 : Int → List Item → Eeprom → List Item → Option (List Item × Int)} (h_l8 : ∀ i_8 l_1 c1 out_7, k_l8 i_8 l_1 c1 out_7 = (q_l8 i_8 l_1 c1 out_7).map w_ref31_Encode) (c_0 : Eeprom) (l_1 : List Item) : b_ref31_Encode m (fun x0 x1 => some (w_ref31_Encode (x0, x1))) k_l8 c_0 l_1 = (b_ref31_Encode m (fun x0 x1 => some (x0, x1)) q_l8 c_0 l_1).map w_ref31_Encode := by
  simp only [b_ref31_Encode, cond_map, bind_map, map_none, map_some, h_l8]
noncomputable def ref31_Encode (m : Nat) (c_0 : Eeprom) (l_1 : List Item) : Option (List Item × Int) := b_ref31_Encode m (fun x0 x1 => some (x0, x1)) (fun i_8 l_1 c1 out_7 => ref31_Encode_l8 m m i_8 l_1 c1 out_7) c_0 l_1
theorem ref31_Encode_fun (m : Nat) (c_0 : Eeprom) (l_1 : List Item) : funK Try.prog (Ψ_ref31_Encode m) keep m 1 22 [(dS of_Eeprom cells_Eeprom of_Eeprom_ok).e c_0, (dRow 45).e l_1] = (ref31_Encode m c_0 l_1).map w_ref31_Encode := by
  rw [ref31_Encode_pre]
  exact b_ref31_Encode_map m (fun i_8 l_1 c1 out_7 => L_ref31_Encode_l8_eq m m i_8 l_1 c1 out_7) c_0 l_1
noncomputable def K_ref31_Encode (m : Nat) : KnownF C := mkK (dCons (dS of_Eeprom cells_Eeprom of_Eeprom_ok) (dCons (dRow 45) dNil)) (fun a => ref31_Encode m a.1 a.2.1) w_ref31_Encode
theorem K_ref31_Encode_ok (m : Nat) : KnownAt C Try.prog 22 fun l => (K_ref31_Encode m).run _ l some :=
  mkK_known good fit (Ψ_ref31_Encode_ok m) (keep := keep) (m := m) (d := 1) fun a => ref31_Encode_fun m a.1 a.2.1
/-! ### signalbench/signalbenchlaw31.EepromEncodes -/
noncomputable def Ψ_law31_EepromEncodes (m : Nat) : Known C := fun f => match f with
  | 20 => some (K_law31_tiny m)
  | 9 => some (K_law31_awake m)
  | 21 => some (K_eeprom_Encode m)
  | 22 => some (K_ref31_Encode m)
  | _ => none
theorem Ψ_law31_EepromEncodes_ok (m : Nat) : KnownOk C Try.prog (Ψ_law31_EepromEncodes m) := by
  intro f φ h
  unfold Ψ_law31_EepromEncodes at h
  split at h
  · injection h with h; subst h; exact K_law31_tiny_ok m
  · injection h with h; subst h; exact K_law31_awake_ok m
  · injection h with h; subst h; exact K_eeprom_Encode_ok m
  · injection h with h; subst h; exact K_ref31_Encode_ok m
  · cases h
def w_law31_EepromEncodes (b : Bool) : List (RV C) := [dBool.e b]
noncomputable def Q_law31_EepromEncodes_8 (m : Nat) : St C → (Exit → St C → Option (List (RV C))) → Option (List (RV C)) := fun σ k => codeK Try.prog (Ψ_law31_EepromEncodes m) (callK Try.prog (Ψ_law31_EepromEncodes m) keep m 0) (keep 4) m (subC body4 [.r, .r, .r, .r, .r, .l, .r, .b, .o]) σ k
noncomputable def KL_law31_EepromEncodes_8 (m : Nat) : Exit → St C → Option (List (RV C)) := contK Try.prog (Ψ_law31_EepromEncodes m) (callK Try.prog (Ψ_law31_EepromEncodes m) keep m 0) (keep 4) m body4 [.r, .r, .r, .r, .r, .l, .r, .b, .o] (leaveK Try.prog Try.f4.results.toList (finK Try.prog Try.f4.resultTypes.toList))
noncomputable def L_law31_EepromEncodes_l8 (m n : Nat) (i_9 : Int) (a_5 : List Item) (b_7 : List Item) : Option (List (RV C)) := iterK (Q_law31_EepromEncodes_8 m) (St.norm (keep 4 8)) n ({ T := [.dead, .dead, .dead, .dead, .dead, .fl (.one (.sl 0)), .dead, .fl (.one (.sl 1)), .dead, .fl (.one (.int .i64 i_9))] ++ List.replicate 42 .dead, F := [[]], H := [.row 45 true a_5, .row 45 true b_7] } : St C) (KL_law31_EepromEncodes_8 m)
noncomputable def b_law31_EepromEncodes_l8 {R : Type} (m : Nat) (ret : Bool → Option R) (k_l8 : Int → List Item → List Item → Option R) (i_9 : Int) (a_5 : List Item) (b_7 : List Item) : Option R :=
 bif decide (i_9 < (b_7.length : Int)) then
 bif decide (0 ≤ i_9) then
 bif decide (i_9 < (a_5.length : Int)) then
 bif decide (0 ≤ i_9) then
 bif decide (i_9 < (b_7.length : Int)) then
 bif !((a_5.getD i_9.toNat dflt_Item).Gap == (b_7.getD i_9.toNat dflt_Item).Gap && ((a_5.getD i_9.toNat dflt_Item).Value == (b_7.getD i_9.toNat dflt_Item).Value && ((a_5.getD i_9.toNat dflt_Item).Aux == (b_7.getD i_9.toNat dflt_Item).Aux && ((a_5.getD i_9.toNat dflt_Item).Data == (b_7.getD i_9.toNat dflt_Item).Data && ((a_5.getD i_9.toNat dflt_Item).Fault == (b_7.getD i_9.toNat dflt_Item).Fault && true))))) then
 ret false
 else
 k_l8 (IntKind.i64.wrap (i_9 + 1)) a_5 b_7
 else
 none
 else
 none
 else
 none
 else
 none
 else
 (law31_awake m).bind fun r0 =>
 ret r0
theorem L_law31_EepromEncodes_l8_step (m n : Nat) (i_9 : Int) (a_5 : List Item) (b_7 : List Item) : L_law31_EepromEncodes_l8 m (n + 1) i_9 a_5 b_7 = b_law31_EepromEncodes_l8 m (fun x0 => some (w_law31_EepromEncodes x0)) (fun i_9 a_5 b_7 => L_law31_EepromEncodes_l8 m n i_9 a_5 b_7) i_9 a_5 b_7 := by kernel_rfl
theorem b_law31_EepromEncodes_l8_map (m : Nat) {k_l8 : Int → List Item → List Item → Option (List (RV C))} {q_l8 : Int → List Item → List Item → Option (Bool)} (h_l8 : ∀ i_9 a_5 b_7, k_l8 i_9 a_5 b_7 = (q_l8 i_9 a_5 b_7).map w_law31_EepromEncodes) (i_9 : Int) (a_5 : List Item) (b_7 : List Item) : b_law31_EepromEncodes_l8 m (fun x0 => some (w_law31_EepromEncodes x0)) k_l8 i_9 a_5 b_7 = (b_law31_EepromEncodes_l8 m (fun x0 => some x0) q_l8 i_9 a_5 b_7).map w_law31_EepromEncodes := by
  simp only [b_law31_EepromEncodes_l8, cond_map, bind_map, map_none, map_some, h_l8]
noncomputable def law31_EepromEncodes_l8 (m : Nat) : Nat → Int → List Item → List Item → Option (Bool)
  | 0, _, _, _ => none
  | n + 1, i_9, a_5, b_7 => b_law31_EepromEncodes_l8 m (fun x0 => some x0) (fun i_9 a_5 b_7 => law31_EepromEncodes_l8 m n i_9 a_5 b_7) i_9 a_5 b_7
theorem L_law31_EepromEncodes_l8_eq (m : Nat) : ∀ (n : Nat) (i_9 : Int) (a_5 : List Item) (b_7 : List Item), L_law31_EepromEncodes_l8 m n i_9 a_5 b_7 = (law31_EepromEncodes_l8 m n i_9 a_5 b_7).map w_law31_EepromEncodes
  | 0, i_9, a_5, b_7 => by kernel_rfl
  | n + 1, i_9, a_5, b_7 => by
    rw [L_law31_EepromEncodes_l8_step]
    exact b_law31_EepromEncodes_l8_map m (fun i_9 a_5 b_7 => L_law31_EepromEncodes_l8_eq m n i_9 a_5 b_7) i_9 a_5 b_7
noncomputable def b_law31_EepromEncodes {R : Type} (m : Nat) (ret : Bool → Option R) (k_l8 : Int → List Item → List Item → Option R) (c_0 : Eeprom) (l_1 : List Item) : Option R :=
 (law31_tiny m l_1).bind fun r0 =>
 bif !r0 then
 ((law31_awake m).bind fun r1 =>
 ret r1)
 else
 (eeprom_Encode m c_0 l_1).bind fun r2 =>
 (ref31_Encode m c_0 l_1).bind fun r3 =>
 bif r2.snd != r3.snd then
 ret false
 else
 bif (r2.fst.length : Int) != (r3.fst.length : Int) then
 ret false
 else
 k_l8 0 r2.fst r3.fst
theorem law31_EepromEncodes_pre (m : Nat) (c_0 : Eeprom) (l_1 : List Item) : funK Try.prog (Ψ_law31_EepromEncodes m) keep m 1 4 [(dS of_Eeprom cells_Eeprom of_Eeprom_ok).e c_0, (dRow 45).e l_1] = b_law31_EepromEncodes m (fun x0 => some (w_law31_EepromEncodes x0)) (fun i_9 a_5 b_7 => L_law31_EepromEncodes_l8 m m i_9 a_5 b_7) c_0 l_1 := by kernel_rfl
theorem b_law31_EepromEncodes_map (m : Nat) {k_l8 : Int → List Item → List Item → Option (List (RV C))} {q_l8 : Int → List Item → List Item → Option (Bool)} (h_l8 : ∀ i_9 a_5 b_7, k_l8 i_9 a_5 b_7 = (q_l8 i_9 a_5 b_7).map w_law31_EepromEncodes) (c_0 : Eeprom) (l_1 : List Item) : b_law31_EepromEncodes m (fun x0 => some (w_law31_EepromEncodes x0)) k_l8 c_0 l_1 = (b_law31_EepromEncodes m (fun x0 => some x0) q_l8 c_0 l_1).map w_law31_EepromEncodes := by
  simp only [b_law31_EepromEncodes, cond_map, bind_map, map_none, map_some, h_l8]
noncomputable def law31_EepromEncodes (m : Nat) (c_0 : Eeprom) (l_1 : List Item) : Option (Bool) := b_law31_EepromEncodes m (fun x0 => some x0) (fun i_9 a_5 b_7 => law31_EepromEncodes_l8 m m i_9 a_5 b_7) c_0 l_1
theorem law31_EepromEncodes_fun (m : Nat) (c_0 : Eeprom) (l_1 : List Item) : funK Try.prog (Ψ_law31_EepromEncodes m) keep m 1 4 [(dS of_Eeprom cells_Eeprom of_Eeprom_ok).e c_0, (dRow 45).e l_1] = (law31_EepromEncodes m c_0 l_1).map w_law31_EepromEncodes := by
  rw [law31_EepromEncodes_pre]
  exact b_law31_EepromEncodes_map m (fun i_9 a_5 b_7 => L_law31_EepromEncodes_l8_eq m m i_9 a_5 b_7) c_0 l_1
noncomputable def K_law31_EepromEncodes (m : Nat) : KnownF C := mkK (dCons (dS of_Eeprom cells_Eeprom of_Eeprom_ok) (dCons (dRow 45) dNil)) (fun a => law31_EepromEncodes m a.1 a.2.1) w_law31_EepromEncodes
theorem K_law31_EepromEncodes_ok (m : Nat) : KnownAt C Try.prog 4 fun l => (K_law31_EepromEncodes m).run _ l some :=
  mkK_known good fit (Ψ_law31_EepromEncodes_ok m) (keep := keep) (m := m) (d := 1) fun a => law31_EepromEncodes_fun m a.1 a.2.1
/-! ### signalbench/signalbenchlaw31.ideal -/
def w_law31_ideal (b : List Event) : List (RV C) := [(dRow 33).e b]
noncomputable def Q_law31_ideal_3 (m : Nat) : St C → (Exit → St C → Option (List (RV C))) → Option (List (RV C)) := fun σ k => codeK Try.prog Ψ0 (callK Try.prog Ψ0 keep m 0) (keep 23) m (subC body23 [.r, .r, .l, .r, .b, .o]) σ k
noncomputable def KL_law31_ideal_3 (m : Nat) : Exit → St C → Option (List (RV C)) := contK Try.prog Ψ0 (callK Try.prog Ψ0 keep m 0) (keep 23) m body23 [.r, .r, .l, .r, .b, .o] (leaveK Try.prog Try.f23.results.toList (finK Try.prog Try.f23.resultTypes.toList))
noncomputable def L_law31_ideal_l3 (m n : Nat) (at_4 : Int) (i_5 : Int) (l_0 : List Item) (out_3 : List Event) : Option (List (RV C)) := iterK (Q_law31_ideal_3 m) (St.norm (keep 23 3)) n ({ T := [.fl (.one (.sl 0)), .dead, .dead, .fl (.one (.sl 1)), .fl (.one (.int .i64 at_4)), .fl (.one (.int .i64 i_5))] ++ List.replicate 39 .dead, F := [[]], H := [.row 45 false l_0, .row 33 true out_3] } : St C) (KL_law31_ideal_3 m)
noncomputable def b_law31_ideal_l3 {R : Type} (m : Nat) (ret : List Event → Option R) (k_l3 : Int → Int → List Item → List Event → Option R) (at_4 : Int) (i_5 : Int) (l_0 : List Item) (out_3 : List Event) : Option R :=
 bif decide (i_5 < (l_0.length : Int)) then
 bif decide (0 ≤ i_5) then
 bif decide (i_5 < (l_0.length : Int)) then
 bif decide (0 ≤ i_5) then
 bif decide (i_5 < (l_0.length : Int)) then
 bif decide (0 ≤ i_5) then
 bif decide (i_5 < (l_0.length : Int)) then
 bif decide (0 ≤ i_5) then
 bif decide (i_5 < (l_0.length : Int)) then
 bif decide ((out_3.length + 1) * 64 ≤ 140737488355328) then
 k_l3 (IntKind.i64.wrap (IntKind.i64.wrap (at_4 + (l_0.getD i_5.toNat dflt_Item).Gap) + 1)) (IntKind.i64.wrap (i_5 + 1)) l_0 (out_3 ++ [Event.mk 5 (IntKind.i64.wrap (at_4 + (l_0.getD i_5.toNat dflt_Item).Gap)) (IntKind.i64.wrap (IntKind.i64.wrap (at_4 + (l_0.getD i_5.toNat dflt_Item).Gap) + 1)) (l_0.getD i_5.toNat dflt_Item).Value (l_0.getD i_5.toNat dflt_Item).Aux (l_0.getD i_5.toNat dflt_Item).Data 0])
 else
 none
 else
 none
 else
 none
 else
 none
 else
 none
 else
 none
 else
 none
 else
 none
 else
 none
 else
 ret out_3
theorem L_law31_ideal_l3_step (m n : Nat) (at_4 : Int) (i_5 : Int) (l_0 : List Item) (out_3 : List Event) : L_law31_ideal_l3 m (n + 1) at_4 i_5 l_0 out_3 = b_law31_ideal_l3 m (fun x0 => some (w_law31_ideal x0)) (fun at_4 i_5 l_0 out_3 => L_law31_ideal_l3 m n at_4 i_5 l_0 out_3) at_4 i_5 l_0 out_3 := by kernel_rfl
theorem b_law31_ideal_l3_map (m : Nat) {k_l3 : Int → Int → List Item → List Event → Option (List (RV C))} {q_l3 : Int → Int → List Item → List Event → Option (List Event)} (h_l3 : ∀ at_4 i_5 l_0 out_3, k_l3 at_4 i_5 l_0 out_3 = (q_l3 at_4 i_5 l_0 out_3).map w_law31_ideal) (at_4 : Int) (i_5 : Int) (l_0 : List Item) (out_3 : List Event) : b_law31_ideal_l3 m (fun x0 => some (w_law31_ideal x0)) k_l3 at_4 i_5 l_0 out_3 = (b_law31_ideal_l3 m (fun x0 => some x0) q_l3 at_4 i_5 l_0 out_3).map w_law31_ideal := by
  simp only [b_law31_ideal_l3, cond_map, bind_map, map_none, map_some, h_l3]
noncomputable def law31_ideal_l3 (m : Nat) : Nat → Int → Int → List Item → List Event → Option (List Event)
  | 0, _, _, _, _ => none
  | n + 1, at_4, i_5, l_0, out_3 => b_law31_ideal_l3 m (fun x0 => some x0) (fun at_4 i_5 l_0 out_3 => law31_ideal_l3 m n at_4 i_5 l_0 out_3) at_4 i_5 l_0 out_3
theorem L_law31_ideal_l3_eq (m : Nat) : ∀ (n : Nat) (at_4 : Int) (i_5 : Int) (l_0 : List Item) (out_3 : List Event), L_law31_ideal_l3 m n at_4 i_5 l_0 out_3 = (law31_ideal_l3 m n at_4 i_5 l_0 out_3).map w_law31_ideal
  | 0, at_4, i_5, l_0, out_3 => by kernel_rfl
  | n + 1, at_4, i_5, l_0, out_3 => by
    rw [L_law31_ideal_l3_step]
    exact b_law31_ideal_l3_map m (fun at_4 i_5 l_0 out_3 => L_law31_ideal_l3_eq m n at_4 i_5 l_0 out_3) at_4 i_5 l_0 out_3
noncomputable def b_law31_ideal {R : Type} (m : Nat) (ret : List Event → Option R) (k_l3 : Int → Int → List Item → List Event → Option R) (l_0 : List Item) : Option R :=
 k_l3 0 0 l_0 []
theorem law31_ideal_pre (m : Nat) (l_0 : List Item) : funK Try.prog Ψ0 keep m 1 23 [(dRow 45).e l_0] = b_law31_ideal m (fun x0 => some (w_law31_ideal x0)) (fun at_4 i_5 l_0 out_3 => L_law31_ideal_l3 m m at_4 i_5 l_0 out_3) l_0 := by kernel_rfl
theorem b_law31_ideal_map (m : Nat) {k_l3 : Int → Int → List Item → List Event → Option (List (RV C))} {q_l3 : Int → Int → List Item → List Event → Option (List Event)} (h_l3 : ∀ at_4 i_5 l_0 out_3, k_l3 at_4 i_5 l_0 out_3 = (q_l3 at_4 i_5 l_0 out_3).map w_law31_ideal) (l_0 : List Item) : b_law31_ideal m (fun x0 => some (w_law31_ideal x0)) k_l3 l_0 = (b_law31_ideal m (fun x0 => some x0) q_l3 l_0).map w_law31_ideal := by
  simp only [b_law31_ideal, cond_map, bind_map, map_none, map_some, h_l3]
noncomputable def law31_ideal (m : Nat) (l_0 : List Item) : Option (List Event) := b_law31_ideal m (fun x0 => some x0) (fun at_4 i_5 l_0 out_3 => law31_ideal_l3 m m at_4 i_5 l_0 out_3) l_0
theorem law31_ideal_fun (m : Nat) (l_0 : List Item) : funK Try.prog Ψ0 keep m 1 23 [(dRow 45).e l_0] = (law31_ideal m l_0).map w_law31_ideal := by
  rw [law31_ideal_pre]
  exact b_law31_ideal_map m (fun at_4 i_5 l_0 out_3 => L_law31_ideal_l3_eq m m at_4 i_5 l_0 out_3) l_0
noncomputable def K_law31_ideal (m : Nat) : KnownF C := mkK (dCons (dRow 45) dNil) (fun a => law31_ideal m a.1) w_law31_ideal
theorem K_law31_ideal_ok (m : Nat) : KnownAt C Try.prog 23 fun l => (K_law31_ideal m).run _ l some :=
  mkK_known good fit Ψ0_ok (keep := keep) (m := m) (d := 1) fun a => law31_ideal_fun m a.1
/-! ### signalbench/signalbenchref07.Core -/
def w_ref07_Core (b : Event) : List (RV C) := [(dS of_Event cells_Event of_Event_ok).e b]
noncomputable def b_ref07_Core {R : Type} (m : Nat) (ret : Event → Option R) (e_0 : Event) : Option R :=
 ret { e_0 with From := 0, To := 0 }
theorem ref07_Core_pre (m : Nat) (e_0 : Event) : funK Try.prog Ψ0 keep m 1 24 [(dS of_Event cells_Event of_Event_ok).e e_0] = b_ref07_Core m (fun x0 => some (w_ref07_Core x0)) e_0 := by kernel_rfl
theorem b_ref07_Core_map (m : Nat) (e_0 : Event) : b_ref07_Core m (fun x0 => some (w_ref07_Core x0)) e_0 = (b_ref07_Core m (fun x0 => some x0) e_0).map w_ref07_Core := by
  simp only [b_ref07_Core, cond_map, bind_map, map_none, map_some]
noncomputable def ref07_Core (m : Nat) (e_0 : Event) : Option (Event) := b_ref07_Core m (fun x0 => some x0) e_0
theorem ref07_Core_fun (m : Nat) (e_0 : Event) : funK Try.prog Ψ0 keep m 1 24 [(dS of_Event cells_Event of_Event_ok).e e_0] = (ref07_Core m e_0).map w_ref07_Core := by
  rw [ref07_Core_pre]
  exact b_ref07_Core_map m e_0
noncomputable def K_ref07_Core (m : Nat) : KnownF C := mkK (dCons (dS of_Event cells_Event of_Event_ok) dNil) (fun a => ref07_Core m a.1) w_ref07_Core
theorem K_ref07_Core_ok (m : Nat) : KnownAt C Try.prog 24 fun l => (K_ref07_Core m).run _ l some :=
  mkK_known good fit Ψ0_ok (keep := keep) (m := m) (d := 1) fun a => ref07_Core_fun m a.1
/-! ### signalbench/signalbenchlaw31.EepromRoundTrips -/
noncomputable def Ψ_law31_EepromRoundTrips (m : Nat) : Known C := fun f => match f with
  | 20 => some (K_law31_tiny m)
  | 9 => some (K_law31_awake m)
  | 21 => some (K_eeprom_Encode m)
  | 23 => some (K_law31_ideal m)
  | 18 => some (K_eeprom_Decode m)
  | 24 => some (K_ref07_Core m)
  | _ => none
theorem Ψ_law31_EepromRoundTrips_ok (m : Nat) : KnownOk C Try.prog (Ψ_law31_EepromRoundTrips m) := by
  intro f φ h
  unfold Ψ_law31_EepromRoundTrips at h
  split at h
  · injection h with h; subst h; exact K_law31_tiny_ok m
  · injection h with h; subst h; exact K_law31_awake_ok m
  · injection h with h; subst h; exact K_eeprom_Encode_ok m
  · injection h with h; subst h; exact K_law31_ideal_ok m
  · injection h with h; subst h; exact K_eeprom_Decode_ok m
  · injection h with h; subst h; exact K_ref07_Core_ok m
  · cases h
def w_law31_EepromRoundTrips (b : Bool) : List (RV C) := [dBool.e b]
noncomputable def Q_law31_EepromRoundTrips_10 (m : Nat) : St C → (Exit → St C → Option (List (RV C))) → Option (List (RV C)) := fun σ k => codeK Try.prog (Ψ_law31_EepromRoundTrips m) (callK Try.prog (Ψ_law31_EepromRoundTrips m) keep m 0) (keep 5) m (subC body5 [.r, .r, .r, .r, .r, .r, .l, .r, .b, .o]) σ k
noncomputable def KL_law31_EepromRoundTrips_10 (m : Nat) : Exit → St C → Option (List (RV C)) := contK Try.prog (Ψ_law31_EepromRoundTrips m) (callK Try.prog (Ψ_law31_EepromRoundTrips m) keep m 0) (keep 5) m body5 [.r, .r, .r, .r, .r, .r, .l, .r, .b, .o] (leaveK Try.prog Try.f5.results.toList (finK Try.prog Try.f5.resultTypes.toList))
noncomputable def L_law31_EepromRoundTrips_l10 (m n : Nat) (i_8 : Int) (l_1 : List Item) (m_7 : List Event) : Option (List (RV C)) := iterK (Q_law31_EepromRoundTrips_10 m) (St.norm (keep 5 10)) n ({ T := [.dead, .fl (.one (.sl 0)), .dead, .dead, .dead, .dead, .dead, .fl (.one (.sl 1)), .fl (.one (.int .i64 i_8))] ++ List.replicate 58 .dead, F := [[]], H := [.row 45 false l_1, .row 33 true m_7] } : St C) (KL_law31_EepromRoundTrips_10 m)
noncomputable def b_law31_EepromRoundTrips_l10 {R : Type} (m : Nat) (ret : Bool → Option R) (k_l10 : Int → List Item → List Event → Option R) (i_8 : Int) (l_1 : List Item) (m_7 : List Event) : Option R :=
 bif decide (i_8 < (l_1.length : Int)) then
 bif decide (0 ≤ i_8) then
 bif decide (i_8 < (l_1.length : Int)) then
 bif decide (0 ≤ i_8) then
 bif decide (i_8 < (l_1.length : Int)) then
 bif decide (0 ≤ i_8) then
 bif decide (i_8 < (l_1.length : Int)) then
 bif decide (0 ≤ i_8) then
 bif decide (i_8 < (m_7.length : Int)) then
 bif !((m_7.getD i_8.toNat dflt_Event).Kind == 7 && (0 == 0 && (0 == 0 && ((m_7.getD i_8.toNat dflt_Event).Value == (l_1.getD i_8.toNat dflt_Item).Value && ((m_7.getD i_8.toNat dflt_Event).Aux == (l_1.getD i_8.toNat dflt_Item).Aux && ((m_7.getD i_8.toNat dflt_Event).Data == (l_1.getD i_8.toNat dflt_Item).Data && ((m_7.getD i_8.toNat dflt_Event).Fault == 0 && true))))))) then
 ret false
 else
 k_l10 (IntKind.i64.wrap (i_8 + 1)) l_1 m_7
 else
 none
 else
 none
 else
 none
 else
 none
 else
 none
 else
 none
 else
 none
 else
 none
 else
 (law31_awake m).bind fun r0 =>
 ret r0
theorem L_law31_EepromRoundTrips_l10_step (m n : Nat) (i_8 : Int) (l_1 : List Item) (m_7 : List Event) : L_law31_EepromRoundTrips_l10 m (n + 1) i_8 l_1 m_7 = b_law31_EepromRoundTrips_l10 m (fun x0 => some (w_law31_EepromRoundTrips x0)) (fun i_8 l_1 m_7 => L_law31_EepromRoundTrips_l10 m n i_8 l_1 m_7) i_8 l_1 m_7 := by kernel_rfl
theorem b_law31_EepromRoundTrips_l10_map (m : Nat) {k_l10 : Int → List Item → List Event → Option (List (RV C))} {q_l10 : Int → List Item → List Event → Option (Bool)} (h_l10 : ∀ i_8 l_1 m_7, k_l10 i_8 l_1 m_7 = (q_l10 i_8 l_1 m_7).map w_law31_EepromRoundTrips) (i_8 : Int) (l_1 : List Item) (m_7 : List Event) : b_law31_EepromRoundTrips_l10 m (fun x0 => some (w_law31_EepromRoundTrips x0)) k_l10 i_8 l_1 m_7 = (b_law31_EepromRoundTrips_l10 m (fun x0 => some x0) q_l10 i_8 l_1 m_7).map w_law31_EepromRoundTrips := by
  simp only [b_law31_EepromRoundTrips_l10, cond_map, bind_map, map_none, map_some, h_l10]
noncomputable def law31_EepromRoundTrips_l10 (m : Nat) : Nat → Int → List Item → List Event → Option (Bool)
  | 0, _, _, _ => none
  | n + 1, i_8, l_1, m_7 => b_law31_EepromRoundTrips_l10 m (fun x0 => some x0) (fun i_8 l_1 m_7 => law31_EepromRoundTrips_l10 m n i_8 l_1 m_7) i_8 l_1 m_7
theorem L_law31_EepromRoundTrips_l10_eq (m : Nat) : ∀ (n : Nat) (i_8 : Int) (l_1 : List Item) (m_7 : List Event), L_law31_EepromRoundTrips_l10 m n i_8 l_1 m_7 = (law31_EepromRoundTrips_l10 m n i_8 l_1 m_7).map w_law31_EepromRoundTrips
  | 0, i_8, l_1, m_7 => by kernel_rfl
  | n + 1, i_8, l_1, m_7 => by
    rw [L_law31_EepromRoundTrips_l10_step]
    exact b_law31_EepromRoundTrips_l10_map m (fun i_8 l_1 m_7 => L_law31_EepromRoundTrips_l10_eq m n i_8 l_1 m_7) i_8 l_1 m_7
noncomputable def b_law31_EepromRoundTrips {R : Type} (m : Nat) (ret : Bool → Option R) (k_l10 : Int → List Item → List Event → Option R) (c_0 : Eeprom) (l_1 : List Item) : Option R :=
 (law31_tiny m l_1).bind fun r0 =>
 bif !r0 then
 ((law31_awake m).bind fun r1 =>
 ret r1)
 else
 (eeprom_Encode m c_0 l_1).bind fun r2 =>
 bif r2.snd != 0 then
 (bif (r2.fst.length : Int) == 0 then
 ((law31_awake m).bind fun r3 =>
 ret r3)
 else
 ret false)
 else
 (law31_ideal m r2.fst).bind fun r4 =>
 (eeprom_Decode m c_0 r4).bind fun r5 =>
 bif (r5.length : Int) != (l_1.length : Int) then
 ret false
 else
 k_l10 0 l_1 r5
theorem law31_EepromRoundTrips_pre (m : Nat) (c_0 : Eeprom) (l_1 : List Item) : funK Try.prog (Ψ_law31_EepromRoundTrips m) keep m 1 5 [(dS of_Eeprom cells_Eeprom of_Eeprom_ok).e c_0, (dRow 45).e l_1] = b_law31_EepromRoundTrips m (fun x0 => some (w_law31_EepromRoundTrips x0)) (fun i_8 l_1 m_7 => L_law31_EepromRoundTrips_l10 m m i_8 l_1 m_7) c_0 l_1 := by kernel_rfl
theorem b_law31_EepromRoundTrips_map (m : Nat) {k_l10 : Int → List Item → List Event → Option (List (RV C))} {q_l10 : Int → List Item → List Event → Option (Bool)} (h_l10 : ∀ i_8 l_1 m_7, k_l10 i_8 l_1 m_7 = (q_l10 i_8 l_1 m_7).map w_law31_EepromRoundTrips) (c_0 : Eeprom) (l_1 : List Item) : b_law31_EepromRoundTrips m (fun x0 => some (w_law31_EepromRoundTrips x0)) k_l10 c_0 l_1 = (b_law31_EepromRoundTrips m (fun x0 => some x0) q_l10 c_0 l_1).map w_law31_EepromRoundTrips := by
  simp only [b_law31_EepromRoundTrips, cond_map, bind_map, map_none, map_some, h_l10]
noncomputable def law31_EepromRoundTrips (m : Nat) (c_0 : Eeprom) (l_1 : List Item) : Option (Bool) := b_law31_EepromRoundTrips m (fun x0 => some x0) (fun i_8 l_1 m_7 => law31_EepromRoundTrips_l10 m m i_8 l_1 m_7) c_0 l_1
theorem law31_EepromRoundTrips_fun (m : Nat) (c_0 : Eeprom) (l_1 : List Item) : funK Try.prog (Ψ_law31_EepromRoundTrips m) keep m 1 5 [(dS of_Eeprom cells_Eeprom of_Eeprom_ok).e c_0, (dRow 45).e l_1] = (law31_EepromRoundTrips m c_0 l_1).map w_law31_EepromRoundTrips := by
  rw [law31_EepromRoundTrips_pre]
  exact b_law31_EepromRoundTrips_map m (fun i_8 l_1 m_7 => L_law31_EepromRoundTrips_l10_eq m m i_8 l_1 m_7) c_0 l_1
noncomputable def K_law31_EepromRoundTrips (m : Nat) : KnownF C := mkK (dCons (dS of_Eeprom cells_Eeprom of_Eeprom_ok) (dCons (dRow 45) dNil)) (fun a => law31_EepromRoundTrips m a.1 a.2.1) w_law31_EepromRoundTrips
theorem K_law31_EepromRoundTrips_ok (m : Nat) : KnownAt C Try.prog 5 fun l => (K_law31_EepromRoundTrips m).run _ l some :=
  mkK_known good fit (Ψ_law31_EepromRoundTrips_ok m) (keep := keep) (m := m) (d := 1) fun a => law31_EepromRoundTrips_fun m a.1 a.2.1
/-! ### signalbench/signalbenchlaw31.EepromReads -/
noncomputable def Ψ_law31_EepromReads (m : Nat) : Known C := fun f => match f with
  | 9 => some (K_law31_awake m)
  | 21 => some (K_eeprom_Encode m)
  | 23 => some (K_law31_ideal m)
  | 18 => some (K_eeprom_Decode m)
  | _ => none
theorem Ψ_law31_EepromReads_ok (m : Nat) : KnownOk C Try.prog (Ψ_law31_EepromReads m) := by
  intro f φ h
  unfold Ψ_law31_EepromReads at h
  split at h
  · injection h with h; subst h; exact K_law31_awake_ok m
  · injection h with h; subst h; exact K_eeprom_Encode_ok m
  · injection h with h; subst h; exact K_law31_ideal_ok m
  · injection h with h; subst h; exact K_eeprom_Decode_ok m
  · cases h
def w_law31_EepromReads (b : Bool) : List (RV C) := [dBool.e b]
noncomputable def Q_law31_EepromReads_10 (m : Nat) : St C → (Exit → St C → Option (List (RV C))) → Option (List (RV C)) := fun σ k => codeK Try.prog (Ψ_law31_EepromReads m) (callK Try.prog (Ψ_law31_EepromReads m) keep m 0) (keep 6) m (subC body6 [.r, .r, .r, .r, .r, .r, .l, .r, .b, .o]) σ k
noncomputable def KL_law31_EepromReads_10 (m : Nat) : Exit → St C → Option (List (RV C)) := contK Try.prog (Ψ_law31_EepromReads m) (callK Try.prog (Ψ_law31_EepromReads m) keep m 0) (keep 6) m body6 [.r, .r, .r, .r, .r, .r, .l, .r, .b, .o] (leaveK Try.prog Try.f6.results.toList (finK Try.prog Try.f6.resultTypes.toList))
noncomputable def Q_law31_EepromReads_20 (m : Nat) : St C → (Exit → St C → Option (List (RV C))) → Option (List (RV C)) := fun σ k => codeK Try.prog (Ψ_law31_EepromReads m) (callK Try.prog (Ψ_law31_EepromReads m) keep m 0) (keep 6) m (subC body6 [.r, .r, .r, .r, .r, .r, .r, .r, .r, .r, .l, .r, .b, .o]) σ k
noncomputable def KL_law31_EepromReads_20 (m : Nat) : Exit → St C → Option (List (RV C)) := contK Try.prog (Ψ_law31_EepromReads m) (callK Try.prog (Ψ_law31_EepromReads m) keep m 0) (keep 6) m body6 [.r, .r, .r, .r, .r, .r, .r, .r, .r, .r, .l, .r, .b, .o] (leaveK Try.prog Try.f6.results.toList (finK Try.prog Try.f6.resultTypes.toList))
noncomputable def L_law31_EepromReads_l10 (m n : Nat) (n_9 : Int) (i_10 : Int) (reads_2 : List ByteArray) (c1 : Eeprom) (c2 : Item) (items_7 : List Item) : Option (List (RV C)) := iterK (Q_law31_EepromReads_10 m) (St.norm (keep 6 10)) n ({ T := [.dead, .dead, .fl (.one (.sl 0)), .fl (.one (.ptr 1 0)), .fl (.one (.ptr 2 0)), .dead, .dead, .fl (.one (.sl 3)), .dead, .fl (.one (.int .i64 n_9)), .fl (.one (.int .i64 i_10))] ++ List.replicate 123 .dead, F := [[]], H := [.row 9 false reads_2, .box 23 (cells_Eeprom c1), .box 45 (cells_Item c2), .row 45 true items_7] } : St C) (KL_law31_EepromReads_10 m)
noncomputable def L_law31_EepromReads_l20 (m n : Nat) (n_9 : Int) (at_12 : Int) (i_13 : Int) (reads_2 : List ByteArray) (m_11 : List Event) : Option (List (RV C)) := iterK (Q_law31_EepromReads_20 m) (St.norm (keep 6 20)) n ({ T := [.dead, .dead, .fl (.one (.sl 0)), .dead, .dead, .dead, .dead, .dead, .dead, .fl (.one (.int .i64 n_9)), .dead, .fl (.one (.sl 1)), .fl (.one (.int .i64 at_12)), .fl (.one (.int .i64 i_13))] ++ List.replicate 120 .dead, F := [[]], H := [.row 9 false reads_2, .row 33 true m_11] } : St C) (KL_law31_EepromReads_20 m)
noncomputable def b_law31_EepromReads_l20 {R : Type} (m : Nat) (ret : Bool → Option R) (k_l20 : Int → Int → Int → List ByteArray → List Event → Option R) (n_9 : Int) (at_12 : Int) (i_13 : Int) (reads_2 : List ByteArray) (m_11 : List Event) : Option R :=
 bif decide (i_13 < (reads_2.length : Int)) then
 bif decide (0 ≤ IntKind.i64.wrap (i_13 + 1)) then
 bif decide (IntKind.i64.wrap (i_13 + 1) < (m_11.length : Int)) then
 bif decide (n_9 = 0) then
 none
 else
 bif (m_11.getD (IntKind.i64.wrap (i_13 + 1)).toNat dflt_Event).Value != at_12.tmod n_9 then
 ret false
 else
 bif decide (0 ≤ IntKind.i64.wrap (i_13 + 1)) then
 bif decide (IntKind.i64.wrap (i_13 + 1) < (m_11.length : Int)) then
 bif (m_11.getD (IntKind.i64.wrap (i_13 + 1)).toNat dflt_Event).Aux != 1 then
 ret false
 else
 bif decide (0 ≤ IntKind.i64.wrap (i_13 + 1)) then
 bif decide (IntKind.i64.wrap (i_13 + 1) < (m_11.length : Int)) then
 bif decide (0 ≤ i_13) then
 bif decide (i_13 < (reads_2.length : Int)) then
 bif !(m_11.getD (IntKind.i64.wrap (i_13 + 1)).toNat dflt_Event).Data.toList == ByteArray.toList (reads_2.getD i_13.toNat (bs [])) then
 ret false
 else
 bif decide (0 ≤ i_13) then
 bif decide (i_13 < (reads_2.length : Int)) then
 k_l20 n_9 (IntKind.i64.wrap (at_12 + ((ByteArray.size (reads_2.getD i_13.toNat (bs []))) : Int))) (IntKind.i64.wrap (i_13 + 1)) reads_2 m_11
 else
 none
 else
 none
 else
 none
 else
 none
 else
 none
 else
 none
 else
 none
 else
 none
 else
 none
 else
 none
 else
 (law31_awake m).bind fun r0 =>
 ret r0
theorem L_law31_EepromReads_l20_step (m n : Nat) (n_9 : Int) (at_12 : Int) (i_13 : Int) (reads_2 : List ByteArray) (m_11 : List Event) : L_law31_EepromReads_l20 m (n + 1) n_9 at_12 i_13 reads_2 m_11 = b_law31_EepromReads_l20 m (fun x0 => some (w_law31_EepromReads x0)) (fun n_9 at_12 i_13 reads_2 m_11 => L_law31_EepromReads_l20 m n n_9 at_12 i_13 reads_2 m_11) n_9 at_12 i_13 reads_2 m_11 := by kernel_rfl
theorem b_law31_EepromReads_l20_map (m : Nat) {k_l20 : Int → Int → Int → List ByteArray → List Event → Option (List (RV C))} {q_l20 : Int → Int → Int → List ByteArray → List Event → Option (Bool)} (h_l20 : ∀ n_9 at_12 i_13 reads_2 m_11, k_l20 n_9 at_12 i_13 reads_2 m_11 = (q_l20 n_9 at_12 i_13 reads_2 m_11).map w_law31_EepromReads) (n_9 : Int) (at_12 : Int) (i_13 : Int) (reads_2 : List ByteArray) (m_11 : List Event) : b_law31_EepromReads_l20 m (fun x0 => some (w_law31_EepromReads x0)) k_l20 n_9 at_12 i_13 reads_2 m_11 = (b_law31_EepromReads_l20 m (fun x0 => some x0) q_l20 n_9 at_12 i_13 reads_2 m_11).map w_law31_EepromReads := by
  simp only [b_law31_EepromReads_l20, cond_map, bind_map, map_none, map_some, h_l20]
noncomputable def law31_EepromReads_l20 (m : Nat) : Nat → Int → Int → Int → List ByteArray → List Event → Option (Bool)
  | 0, _, _, _, _, _ => none
  | n + 1, n_9, at_12, i_13, reads_2, m_11 => b_law31_EepromReads_l20 m (fun x0 => some x0) (fun n_9 at_12 i_13 reads_2 m_11 => law31_EepromReads_l20 m n n_9 at_12 i_13 reads_2 m_11) n_9 at_12 i_13 reads_2 m_11
theorem L_law31_EepromReads_l20_eq (m : Nat) : ∀ (n : Nat) (n_9 : Int) (at_12 : Int) (i_13 : Int) (reads_2 : List ByteArray) (m_11 : List Event), L_law31_EepromReads_l20 m n n_9 at_12 i_13 reads_2 m_11 = (law31_EepromReads_l20 m n n_9 at_12 i_13 reads_2 m_11).map w_law31_EepromReads
  | 0, n_9, at_12, i_13, reads_2, m_11 => by kernel_rfl
  | n + 1, n_9, at_12, i_13, reads_2, m_11 => by
    rw [L_law31_EepromReads_l20_step]
    exact b_law31_EepromReads_l20_map m (fun n_9 at_12 i_13 reads_2 m_11 => L_law31_EepromReads_l20_eq m n n_9 at_12 i_13 reads_2 m_11) n_9 at_12 i_13 reads_2 m_11
noncomputable def b_law31_EepromReads_l10 {R : Type} (m : Nat) (ret : Bool → Option R) (k_l10 : Int → Int → List ByteArray → Eeprom → Item → List Item → Option R) (k_l20 : Int → Int → Int → List ByteArray → List Event → Option R) (n_9 : Int) (i_10 : Int) (reads_2 : List ByteArray) (c1 : Eeprom) (c2 : Item) (items_7 : List Item) : Option R :=
 bif decide (i_10 < (reads_2.length : Int)) then
 (bif decide (0 ≤ i_10) then
 (bif decide (i_10 < (reads_2.length : Int)) then
 (bif decide (((ByteArray.size (reads_2.getD i_10.toNat (bs []))) : Int) > 40) then
 ((law31_awake m).bind fun r0 =>
 ret r0)
 else
 bif decide (0 ≤ i_10) then
 bif decide (i_10 < (reads_2.length : Int)) then
 bif decide ((items_7.length + 1) * 48 ≤ 140737488355328) then
 k_l10 n_9 (IntKind.i64.wrap (i_10 + 1)) reads_2 c1 c2 (items_7 ++ [Item.mk 0 (IntKind.i64.wrap (IntKind.i64.wrap (2 * c1.Address) + 1)) 1 (reads_2.getD i_10.toNat (bs [])) 0])
 else
 none
 else
 none
 else
 none)
 else
 none)
 else
 none)
 else
 (law31_ideal m items_7).bind fun r1 =>
 (eeprom_Decode m c1 r1).bind fun r2 =>
 bif (r2.length : Int) != IntKind.i64.wrap (1 + (reads_2.length : Int)) then
 ret false
 else
 k_l20 n_9 (IntKind.i64.wrap (c2.Value + (c2.Data.size : Int))) 0 reads_2 r2
theorem L_law31_EepromReads_l10_step (m n : Nat) (n_9 : Int) (i_10 : Int) (reads_2 : List ByteArray) (c1 : Eeprom) (c2 : Item) (items_7 : List Item) : L_law31_EepromReads_l10 m (n + 1) n_9 i_10 reads_2 c1 c2 items_7 = b_law31_EepromReads_l10 m (fun x0 => some (w_law31_EepromReads x0)) (fun n_9 i_10 reads_2 c1 c2 items_7 => L_law31_EepromReads_l10 m n n_9 i_10 reads_2 c1 c2 items_7) (fun n_9 at_12 i_13 reads_2 m_11 => L_law31_EepromReads_l20 m m n_9 at_12 i_13 reads_2 m_11) n_9 i_10 reads_2 c1 c2 items_7 := by kernel_rfl
theorem b_law31_EepromReads_l10_map (m : Nat) {k_l10 : Int → Int → List ByteArray → Eeprom → Item → List Item → Option (List (RV C))} {q_l10 : Int → Int → List ByteArray → Eeprom → Item → List Item → Option (Bool)} (h_l10 : ∀ n_9 i_10 reads_2 c1 c2 items_7, k_l10 n_9 i_10 reads_2 c1 c2 items_7 = (q_l10 n_9 i_10 reads_2 c1 c2 items_7).map w_law31_EepromReads) {k_l20 : Int → Int → Int → List ByteArray → List Event → Option (List (RV C))} {q_l20 : Int → Int → Int → List ByteArray → List Event → Option (Bool)} (h_l20 : ∀ n_9 at_12 i_13 reads_2 m_11, k_l20 n_9 at_12 i_13 reads_2 m_11 = (q_l20 n_9 at_12 i_13 reads_2 m_11).map w_law31_EepromReads) (n_9 : Int) (i_10 : Int) (reads_2 : List ByteArray) (c1 : Eeprom) (c2 : Item) (items_7 : List Item) : b_law31_EepromReads_l10 m (fun x0 => some (w_law31_EepromReads x0)) k_l10 k_l20 n_9 i_10 reads_2 c1 c2 items_7 = (b_law31_EepromReads_l10 m (fun x0 => some x0) q_l10 q_l20 n_9 i_10 reads_2 c1 c2 items_7).map w_law31_EepromReads := by
  simp only [b_law31_EepromReads_l10, cond_map, bind_map, map_none, map_some, h_l10, h_l20]
noncomputable def law31_EepromReads_l10 (m : Nat) : Nat → Int → Int → List ByteArray → Eeprom → Item → List Item → Option (Bool)
  | 0, _, _, _, _, _, _ => none
  | n + 1, n_9, i_10, reads_2, c1, c2, items_7 => b_law31_EepromReads_l10 m (fun x0 => some x0) (fun n_9 i_10 reads_2 c1 c2 items_7 => law31_EepromReads_l10 m n n_9 i_10 reads_2 c1 c2 items_7) (fun n_9 at_12 i_13 reads_2 m_11 => law31_EepromReads_l20 m m n_9 at_12 i_13 reads_2 m_11) n_9 i_10 reads_2 c1 c2 items_7
theorem L_law31_EepromReads_l10_eq (m : Nat) : ∀ (n : Nat) (n_9 : Int) (i_10 : Int) (reads_2 : List ByteArray) (c1 : Eeprom) (c2 : Item) (items_7 : List Item), L_law31_EepromReads_l10 m n n_9 i_10 reads_2 c1 c2 items_7 = (law31_EepromReads_l10 m n n_9 i_10 reads_2 c1 c2 items_7).map w_law31_EepromReads
  | 0, n_9, i_10, reads_2, c1, c2, items_7 => by kernel_rfl
  | n + 1, n_9, i_10, reads_2, c1, c2, items_7 => by
    rw [L_law31_EepromReads_l10_step]
    exact b_law31_EepromReads_l10_map m (fun n_9 i_10 reads_2 c1 c2 items_7 => L_law31_EepromReads_l10_eq m n n_9 i_10 reads_2 c1 c2 items_7) (fun n_9 at_12 i_13 reads_2 m_11 => L_law31_EepromReads_l20_eq m m n_9 at_12 i_13 reads_2 m_11) n_9 i_10 reads_2 c1 c2 items_7
noncomputable def b_law31_EepromReads {R : Type} (m : Nat) (ret : Bool → Option R) (k_l10 : Int → Int → List ByteArray → Eeprom → Item → List Item → Option R) (c_0 : Eeprom) (x_1 : Item) (reads_2 : List ByteArray) : Option R :=
 bif decide ((reads_2.length : Int) > 20) then
 ((law31_awake m).bind fun r0 =>
 ret r0)
 else
 bif decide ((x_1.Data.size : Int) > 200) then
 ((law31_awake m).bind fun r1 =>
 ret r1)
 else
 bif x_1.Gap != 0 then
 ((law31_awake m).bind fun r2 =>
 ret r2)
 else
 (eeprom_Encode m c_0 [x_1]).bind fun r3 =>
 bif r3.snd != 0 then
 (bif (r3.fst.length : Int) == 0 then
 ((law31_awake m).bind fun r4 =>
 ret r4)
 else
 ret false)
 else
 bif c_0.Pointer == 2 then
 k_l10 65536 0 reads_2 c_0 x_1 r3.fst
 else
 k_l10 256 0 reads_2 c_0 x_1 r3.fst
theorem law31_EepromReads_pre (m : Nat) (c_0 : Eeprom) (x_1 : Item) (reads_2 : List ByteArray) : funK Try.prog (Ψ_law31_EepromReads m) keep m 1 6 [(dS of_Eeprom cells_Eeprom of_Eeprom_ok).e c_0, (dS of_Item cells_Item of_Item_ok).e x_1, (dRow 9).e reads_2] = b_law31_EepromReads m (fun x0 => some (w_law31_EepromReads x0)) (fun n_9 i_10 reads_2 c1 c2 items_7 => L_law31_EepromReads_l10 m m n_9 i_10 reads_2 c1 c2 items_7) c_0 x_1 reads_2 := by kernel_rfl
theorem b_law31_EepromReads_map (m : Nat) {k_l10 : Int → Int → List ByteArray → Eeprom → Item → List Item → Option (List (RV C))} {q_l10 : Int → Int → List ByteArray → Eeprom → Item → List Item → Option (Bool)} (h_l10 : ∀ n_9 i_10 reads_2 c1 c2 items_7, k_l10 n_9 i_10 reads_2 c1 c2 items_7 = (q_l10 n_9 i_10 reads_2 c1 c2 items_7).map w_law31_EepromReads) (c_0 : Eeprom) (x_1 : Item) (reads_2 : List ByteArray) : b_law31_EepromReads m (fun x0 => some (w_law31_EepromReads x0)) k_l10 c_0 x_1 reads_2 = (b_law31_EepromReads m (fun x0 => some x0) q_l10 c_0 x_1 reads_2).map w_law31_EepromReads := by
  simp only [b_law31_EepromReads, cond_map, bind_map, map_none, map_some, h_l10]
noncomputable def law31_EepromReads (m : Nat) (c_0 : Eeprom) (x_1 : Item) (reads_2 : List ByteArray) : Option (Bool) := b_law31_EepromReads m (fun x0 => some x0) (fun n_9 i_10 reads_2 c1 c2 items_7 => law31_EepromReads_l10 m m n_9 i_10 reads_2 c1 c2 items_7) c_0 x_1 reads_2
theorem law31_EepromReads_fun (m : Nat) (c_0 : Eeprom) (x_1 : Item) (reads_2 : List ByteArray) : funK Try.prog (Ψ_law31_EepromReads m) keep m 1 6 [(dS of_Eeprom cells_Eeprom of_Eeprom_ok).e c_0, (dS of_Item cells_Item of_Item_ok).e x_1, (dRow 9).e reads_2] = (law31_EepromReads m c_0 x_1 reads_2).map w_law31_EepromReads := by
  rw [law31_EepromReads_pre]
  exact b_law31_EepromReads_map m (fun n_9 i_10 reads_2 c1 c2 items_7 => L_law31_EepromReads_l10_eq m m n_9 i_10 reads_2 c1 c2 items_7) c_0 x_1 reads_2
noncomputable def K_law31_EepromReads (m : Nat) : KnownF C := mkK (dCons (dS of_Eeprom cells_Eeprom of_Eeprom_ok) (dCons (dS of_Item cells_Item of_Item_ok) (dCons (dRow 9) dNil))) (fun a => law31_EepromReads m a.1 a.2.1 a.2.2.1) w_law31_EepromReads
theorem K_law31_EepromReads_ok (m : Nat) : KnownAt C Try.prog 6 fun l => (K_law31_EepromReads m).run _ l some :=
  mkK_known good fit (Ψ_law31_EepromReads_ok m) (keep := keep) (m := m) (d := 1) fun a => law31_EepromReads_fun m a.1 a.2.1 a.2.2.1
/-! ### signalbench/signalbenchlaw31.EepromIgnores -/
noncomputable def Ψ_law31_EepromIgnores (m : Nat) : Known C := fun f => match f with
  | 8 => some (K_law31_small m)
  | 9 => some (K_law31_awake m)
  | 18 => some (K_eeprom_Decode m)
  | 14 => some (K_ref07_Same m)
  | _ => none
theorem Ψ_law31_EepromIgnores_ok (m : Nat) : KnownOk C Try.prog (Ψ_law31_EepromIgnores m) := by
  intro f φ h
  unfold Ψ_law31_EepromIgnores at h
  split at h
  · injection h with h; subst h; exact K_law31_small_ok m
  · injection h with h; subst h; exact K_law31_awake_ok m
  · injection h with h; subst h; exact K_eeprom_Decode_ok m
  · injection h with h; subst h; exact K_ref07_Same_ok m
  · cases h
def w_law31_EepromIgnores (b : Bool) : List (RV C) := [dBool.e b]
noncomputable def Q_law31_EepromIgnores_7 (m : Nat) : St C → (Exit → St C → Option (List (RV C))) → Option (List (RV C)) := fun σ k => codeK Try.prog (Ψ_law31_EepromIgnores m) (callK Try.prog (Ψ_law31_EepromIgnores m) keep m 0) (keep 7) m (subC body7 [.r, .r, .r, .r, .l, .r, .b, .o]) σ k
noncomputable def KL_law31_EepromIgnores_7 (m : Nat) : Exit → St C → Option (List (RV C)) := contK Try.prog (Ψ_law31_EepromIgnores m) (callK Try.prog (Ψ_law31_EepromIgnores m) keep m 0) (keep 7) m body7 [.r, .r, .r, .r, .l, .r, .b, .o] (leaveK Try.prog Try.f7.results.toList (finK Try.prog Try.f7.resultTypes.toList))
noncomputable def L_law31_EepromIgnores_l7 (m n : Nat) (i_8 : Int) (l_1 : List Event) (c1 : Eeprom) (c2 : Event) (m_7 : List Event) : Option (List (RV C)) := iterK (Q_law31_EepromIgnores_7 m) (St.norm (keep 7 7)) n ({ T := [.dead, .fl (.one (.sl 0)), .dead, .fl (.one (.ptr 1 0)), .dead, .fl (.one (.ptr 2 0)), .dead, .fl (.one (.sl 3)), .fl (.one (.int .i64 i_8))] ++ List.replicate 79 .dead, F := [[]], H := [.row 33 false l_1, .box 23 (cells_Eeprom c1), .box 33 (cells_Event c2), .row 33 true m_7] } : St C) (KL_law31_EepromIgnores_7 m)
noncomputable def b_law31_EepromIgnores_l7 {R : Type} (m : Nat) (ret : Bool → Option R) (k_l7 : Int → List Event → Eeprom → Event → List Event → Option R) (i_8 : Int) (l_1 : List Event) (c1 : Eeprom) (c2 : Event) (m_7 : List Event) : Option R :=
 bif decide (i_8 < (l_1.length : Int)) then
 bif decide (0 ≤ i_8) then
 bif decide (i_8 < (l_1.length : Int)) then
 bif decide ((m_7.length + 2) * 64 ≤ 140737488355328) then
 k_l7 (IntKind.i64.wrap (i_8 + 1)) l_1 c1 c2 (m_7 ++ [c2, l_1.getD i_8.toNat dflt_Event])
 else
 none
 else
 none
 else
 none
 else
 bif decide ((m_7.length + 1) * 64 ≤ 140737488355328) then
 ((eeprom_Decode m c1 (m_7 ++ [c2])).bind fun r0 =>
 (eeprom_Decode m c1 l_1).bind fun r1 =>
 (ref07_Same m r0 r1).bind fun r2 =>
 bif r2 then
 ((law31_awake m).bind fun r3 =>
 ret r3)
 else
 ret false)
 else
 none
theorem L_law31_EepromIgnores_l7_step (m n : Nat) (i_8 : Int) (l_1 : List Event) (c1 : Eeprom) (c2 : Event) (m_7 : List Event) : L_law31_EepromIgnores_l7 m (n + 1) i_8 l_1 c1 c2 m_7 = b_law31_EepromIgnores_l7 m (fun x0 => some (w_law31_EepromIgnores x0)) (fun i_8 l_1 c1 c2 m_7 => L_law31_EepromIgnores_l7 m n i_8 l_1 c1 c2 m_7) i_8 l_1 c1 c2 m_7 := by kernel_rfl
theorem b_law31_EepromIgnores_l7_map (m : Nat) {k_l7 : Int → List Event → Eeprom → Event → List Event → Option (List (RV C))} {q_l7 : Int → List Event → Eeprom → Event → List Event → Option (Bool)} (h_l7 : ∀ i_8 l_1 c1 c2 m_7, k_l7 i_8 l_1 c1 c2 m_7 = (q_l7 i_8 l_1 c1 c2 m_7).map w_law31_EepromIgnores) (i_8 : Int) (l_1 : List Event) (c1 : Eeprom) (c2 : Event) (m_7 : List Event) : b_law31_EepromIgnores_l7 m (fun x0 => some (w_law31_EepromIgnores x0)) k_l7 i_8 l_1 c1 c2 m_7 = (b_law31_EepromIgnores_l7 m (fun x0 => some x0) q_l7 i_8 l_1 c1 c2 m_7).map w_law31_EepromIgnores := by
  simp only [b_law31_EepromIgnores_l7, cond_map, bind_map, map_none, map_some, h_l7]
noncomputable def law31_EepromIgnores_l7 (m : Nat) : Nat → Int → List Event → Eeprom → Event → List Event → Option (Bool)
  | 0, _, _, _, _, _ => none
  | n + 1, i_8, l_1, c1, c2, m_7 => b_law31_EepromIgnores_l7 m (fun x0 => some x0) (fun i_8 l_1 c1 c2 m_7 => law31_EepromIgnores_l7 m n i_8 l_1 c1 c2 m_7) i_8 l_1 c1 c2 m_7
theorem L_law31_EepromIgnores_l7_eq (m : Nat) : ∀ (n : Nat) (i_8 : Int) (l_1 : List Event) (c1 : Eeprom) (c2 : Event) (m_7 : List Event), L_law31_EepromIgnores_l7 m n i_8 l_1 c1 c2 m_7 = (law31_EepromIgnores_l7 m n i_8 l_1 c1 c2 m_7).map w_law31_EepromIgnores
  | 0, i_8, l_1, c1, c2, m_7 => by kernel_rfl
  | n + 1, i_8, l_1, c1, c2, m_7 => by
    rw [L_law31_EepromIgnores_l7_step]
    exact b_law31_EepromIgnores_l7_map m (fun i_8 l_1 c1 c2 m_7 => L_law31_EepromIgnores_l7_eq m n i_8 l_1 c1 c2 m_7) i_8 l_1 c1 c2 m_7
noncomputable def b_law31_EepromIgnores {R : Type} (m : Nat) (ret : Bool → Option R) (k_l7 : Int → List Event → Eeprom → Event → List Event → Option R) (c_0 : Eeprom) (l_1 : List Event) (x_2 : Event) : Option R :=
 (law31_small m l_1).bind fun r0 =>
 bif !r0 then
 ((law31_awake m).bind fun r1 =>
 ret r1)
 else
 bif decide ((x_2.Data.size : Int) > 40) then
 ((law31_awake m).bind fun r2 =>
 ret r2)
 else
 bif decide (c_0.Address < 0) then
 ((law31_awake m).bind fun r3 =>
 ret r3)
 else
 bif decide (c_0.Address > 127) then
 ((law31_awake m).bind fun r4 =>
 ret r4)
 else
 bif x_2.Kind == 5 then
 (bif x_2.Fault != 0 then
 ((law31_awake m).bind fun r5 =>
 ret r5)
 else
 bif x_2.Value == IntKind.i64.wrap (2 * c_0.Address) then
 ((law31_awake m).bind fun r6 =>
 ret r6)
 else
 bif x_2.Value == IntKind.i64.wrap (IntKind.i64.wrap (2 * c_0.Address) + 1) then
 ((law31_awake m).bind fun r7 =>
 ret r7)
 else
 bif decide (x_2.From > 0) then
 ((law31_awake m).bind fun r8 =>
 ret r8)
 else
 k_l7 0 l_1 c_0 x_2 [])
 else
 k_l7 0 l_1 c_0 x_2 []
theorem law31_EepromIgnores_pre (m : Nat) (c_0 : Eeprom) (l_1 : List Event) (x_2 : Event) : funK Try.prog (Ψ_law31_EepromIgnores m) keep m 1 7 [(dS of_Eeprom cells_Eeprom of_Eeprom_ok).e c_0, (dRow 33).e l_1, (dS of_Event cells_Event of_Event_ok).e x_2] = b_law31_EepromIgnores m (fun x0 => some (w_law31_EepromIgnores x0)) (fun i_8 l_1 c1 c2 m_7 => L_law31_EepromIgnores_l7 m m i_8 l_1 c1 c2 m_7) c_0 l_1 x_2 := by kernel_rfl
theorem b_law31_EepromIgnores_map (m : Nat) {k_l7 : Int → List Event → Eeprom → Event → List Event → Option (List (RV C))} {q_l7 : Int → List Event → Eeprom → Event → List Event → Option (Bool)} (h_l7 : ∀ i_8 l_1 c1 c2 m_7, k_l7 i_8 l_1 c1 c2 m_7 = (q_l7 i_8 l_1 c1 c2 m_7).map w_law31_EepromIgnores) (c_0 : Eeprom) (l_1 : List Event) (x_2 : Event) : b_law31_EepromIgnores m (fun x0 => some (w_law31_EepromIgnores x0)) k_l7 c_0 l_1 x_2 = (b_law31_EepromIgnores m (fun x0 => some x0) q_l7 c_0 l_1 x_2).map w_law31_EepromIgnores := by
  simp only [b_law31_EepromIgnores, cond_map, bind_map, map_none, map_some, h_l7]
noncomputable def law31_EepromIgnores (m : Nat) (c_0 : Eeprom) (l_1 : List Event) (x_2 : Event) : Option (Bool) := b_law31_EepromIgnores m (fun x0 => some x0) (fun i_8 l_1 c1 c2 m_7 => law31_EepromIgnores_l7 m m i_8 l_1 c1 c2 m_7) c_0 l_1 x_2
theorem law31_EepromIgnores_fun (m : Nat) (c_0 : Eeprom) (l_1 : List Event) (x_2 : Event) : funK Try.prog (Ψ_law31_EepromIgnores m) keep m 1 7 [(dS of_Eeprom cells_Eeprom of_Eeprom_ok).e c_0, (dRow 33).e l_1, (dS of_Event cells_Event of_Event_ok).e x_2] = (law31_EepromIgnores m c_0 l_1 x_2).map w_law31_EepromIgnores := by
  rw [law31_EepromIgnores_pre]
  exact b_law31_EepromIgnores_map m (fun i_8 l_1 c1 c2 m_7 => L_law31_EepromIgnores_l7_eq m m i_8 l_1 c1 c2 m_7) c_0 l_1 x_2
noncomputable def K_law31_EepromIgnores (m : Nat) : KnownF C := mkK (dCons (dS of_Eeprom cells_Eeprom of_Eeprom_ok) (dCons (dRow 33) (dCons (dS of_Event cells_Event of_Event_ok) dNil))) (fun a => law31_EepromIgnores m a.1 a.2.1 a.2.2.1) w_law31_EepromIgnores
theorem K_law31_EepromIgnores_ok (m : Nat) : KnownAt C Try.prog 7 fun l => (K_law31_EepromIgnores m).run _ l some :=
  mkK_known good fit (Ψ_law31_EepromIgnores_ok m) (keep := keep) (m := m) (d := 1) fun a => law31_EepromIgnores_fun m a.1 a.2.1 a.2.2.1
end Go.Abs.K
