/- Plain functions for the functions of the seat, printed by a program of this claim's own, with their proofs. -/
import Derived.Test.YtlpileejhdadaaaF1
set_option linter.unusedVariables false
set_option linter.unusedSimpArgs false
set_option maxRecDepth 100000
namespace Go.Abs.K
open Go Go.Abs Go.Proofs
/-! ### signalbench/signalbenchref22.read -/
noncomputable def Ψ_ref22_read (m : Nat) : Known C := fun f => match f with
  | 35 => some (K_ref22_total m)
  | 47 => some (K_ref22_boundary m)
  | 54 => some (K_ref22_ones m)
  | _ => none
theorem Ψ_ref22_read_ok (m : Nat) : KnownOk C Try.prog (Ψ_ref22_read m) := by
  intro f φ h
  unfold Ψ_ref22_read at h
  split at h
  · injection h with h; subst h; exact K_ref22_total_ok m
  · injection h with h; subst h; exact K_ref22_boundary_ok m
  · injection h with h; subst h; exact K_ref22_ones_ok m
  · cases h
def w_ref22_read (b : Event) : List (RV C) := [(dS of_Event cells_Event of_Event_ok).e b]
noncomputable def b_ref22_read {R : Type} (m : Nat) (ret : Event → Option R) (c_0 : Uart) (from_1 : Int) (bits_2 : Int) : Option R :=
 (ref22_total m c_0).bind fun r0 =>
 (ref22_boundary m c_0 r0).bind fun r1 =>
 bif decide (IntKind.i64.wrap (from_1 + r1) > 1099511627776) then
 (bif bits_2 == 0 then
 ret (Event.mk 4 from_1 1099511627776 1 0 (bs []) 0)
 else
 bif decide (c_0.Bits < 0) then
 none
 else
 bif decide (IntKind.i64.wrap (1 * 2 ^ min c_0.Bits.toNat 64) = 0) then
 none
 else
 (ref22_total m c_0).bind fun r2 =>
 bif decide (IntKind.i64.wrap (r2 - c_0.Stop) < 0) then
 none
 else
 bif decide (c_0.Stop < 0) then
 none
 else
 bif bits_2.fdiv (2 ^ min (IntKind.i64.wrap (r2 - c_0.Stop)).toNat 64) != IntKind.i64.wrap (IntKind.i64.wrap (1 * 2 ^ min c_0.Stop.toNat 64) - 1) then
 ret (Event.mk 3 from_1 1099511627776 ((IntKind.i64.wrap (bits_2.tdiv 2)).tmod (IntKind.i64.wrap (1 * 2 ^ min c_0.Bits.toNat 64))) 0 (bs []) 1)
 else
 bif c_0.Parity != 0 then
 (bif decide (IntKind.i64.wrap (1 + c_0.Bits) < 0) then
 none
 else
 (ref22_ones m ((IntKind.i64.wrap (bits_2.tdiv 2)).tmod (IntKind.i64.wrap (1 * 2 ^ min c_0.Bits.toNat 64)))).bind fun r3 =>
 bif (IntKind.i64.wrap (r3 + (bits_2.fdiv (2 ^ min (IntKind.i64.wrap (1 + c_0.Bits)).toNat 64)).tmod 2)).tmod 2 != IntKind.i64.wrap (c_0.Parity - 1) then
 ret (Event.mk 3 from_1 1099511627776 ((IntKind.i64.wrap (bits_2.tdiv 2)).tmod (IntKind.i64.wrap (1 * 2 ^ min c_0.Bits.toNat 64))) 0 (bs []) 2)
 else
 ret (Event.mk 3 from_1 1099511627776 ((IntKind.i64.wrap (bits_2.tdiv 2)).tmod (IntKind.i64.wrap (1 * 2 ^ min c_0.Bits.toNat 64))) 0 (bs []) 0))
 else
 ret (Event.mk 3 from_1 1099511627776 ((IntKind.i64.wrap (bits_2.tdiv 2)).tmod (IntKind.i64.wrap (1 * 2 ^ min c_0.Bits.toNat 64))) 0 (bs []) 0))
 else
 bif bits_2 == 0 then
 ret (Event.mk 4 from_1 (IntKind.i64.wrap (from_1 + r1)) 1 0 (bs []) 0)
 else
 bif decide (c_0.Bits < 0) then
 none
 else
 bif decide (IntKind.i64.wrap (1 * 2 ^ min c_0.Bits.toNat 64) = 0) then
 none
 else
 (ref22_total m c_0).bind fun r4 =>
 bif decide (IntKind.i64.wrap (r4 - c_0.Stop) < 0) then
 none
 else
 bif decide (c_0.Stop < 0) then
 none
 else
 bif bits_2.fdiv (2 ^ min (IntKind.i64.wrap (r4 - c_0.Stop)).toNat 64) != IntKind.i64.wrap (IntKind.i64.wrap (1 * 2 ^ min c_0.Stop.toNat 64) - 1) then
 ret (Event.mk 3 from_1 (IntKind.i64.wrap (from_1 + r1)) ((IntKind.i64.wrap (bits_2.tdiv 2)).tmod (IntKind.i64.wrap (1 * 2 ^ min c_0.Bits.toNat 64))) 0 (bs []) 1)
 else
 bif c_0.Parity != 0 then
 (bif decide (IntKind.i64.wrap (1 + c_0.Bits) < 0) then
 none
 else
 (ref22_ones m ((IntKind.i64.wrap (bits_2.tdiv 2)).tmod (IntKind.i64.wrap (1 * 2 ^ min c_0.Bits.toNat 64)))).bind fun r5 =>
 bif (IntKind.i64.wrap (r5 + (bits_2.fdiv (2 ^ min (IntKind.i64.wrap (1 + c_0.Bits)).toNat 64)).tmod 2)).tmod 2 != IntKind.i64.wrap (c_0.Parity - 1) then
 ret (Event.mk 3 from_1 (IntKind.i64.wrap (from_1 + r1)) ((IntKind.i64.wrap (bits_2.tdiv 2)).tmod (IntKind.i64.wrap (1 * 2 ^ min c_0.Bits.toNat 64))) 0 (bs []) 2)
 else
 ret (Event.mk 3 from_1 (IntKind.i64.wrap (from_1 + r1)) ((IntKind.i64.wrap (bits_2.tdiv 2)).tmod (IntKind.i64.wrap (1 * 2 ^ min c_0.Bits.toNat 64))) 0 (bs []) 0))
 else
 ret (Event.mk 3 from_1 (IntKind.i64.wrap (from_1 + r1)) ((IntKind.i64.wrap (bits_2.tdiv 2)).tmod (IntKind.i64.wrap (1 * 2 ^ min c_0.Bits.toNat 64))) 0 (bs []) 0)
theorem ref22_read_pre (m : Nat) (c_0 : Uart) (from_1 : Int) (bits_2 : Int) : funK Try.prog (Ψ_ref22_read m) keep m 1 37 [(dS of_Uart cells_Uart of_Uart_ok).e c_0, (dInt .i64).e from_1, (dInt .i64).e bits_2] = b_ref22_read m (fun x0 => some (w_ref22_read x0)) c_0 from_1 bits_2 := by kernel_rfl
theorem b_ref22_read_map (m : Nat) (c_0 : Uart) (from_1 : Int) (bits_2 : Int) : b_ref22_read m (fun x0 => some (w_ref22_read x0)) c_0 from_1 bits_2 = (b_ref22_read m (fun x0 => some x0) c_0 from_1 bits_2).map w_ref22_read := by
  simp only [b_ref22_read, cond_map, bind_map, map_none, map_some]
noncomputable def ref22_read (m : Nat) (c_0 : Uart) (from_1 : Int) (bits_2 : Int) : Option (Event) := b_ref22_read m (fun x0 => some x0) c_0 from_1 bits_2
theorem ref22_read_fun (m : Nat) (c_0 : Uart) (from_1 : Int) (bits_2 : Int) : funK Try.prog (Ψ_ref22_read m) keep m 1 37 [(dS of_Uart cells_Uart of_Uart_ok).e c_0, (dInt .i64).e from_1, (dInt .i64).e bits_2] = (ref22_read m c_0 from_1 bits_2).map w_ref22_read := by
  rw [ref22_read_pre]
  exact b_ref22_read_map m c_0 from_1 bits_2
noncomputable def K_ref22_read (m : Nat) : KnownF C := mkK (dCons (dS of_Uart cells_Uart of_Uart_ok) (dCons (dInt .i64) (dCons (dInt .i64) dNil))) (fun a => ref22_read m a.1 a.2.1 a.2.2.1) w_ref22_read
theorem K_ref22_read_ok (m : Nat) : KnownAt C Try.prog 37 fun l => (K_ref22_read m).run _ l some :=
  mkK_known good fit (Ψ_ref22_read_ok m) (keep := keep) (m := m) (d := 1) fun a => ref22_read_fun m a.1 a.2.1 a.2.2.1
/-! ### signalbench/signalbenchref22.Step -/
noncomputable def Ψ_ref22_Step (m : Nat) : Known C := fun f => match f with
  | 17 => some (K_ref22_Check m)
  | 34 => some (K_ref22_accepts m)
  | 35 => some (K_ref22_total m)
  | 36 => some (K_ref22_sample m)
  | 37 => some (K_ref22_read m)
  | _ => none
theorem Ψ_ref22_Step_ok (m : Nat) : KnownOk C Try.prog (Ψ_ref22_Step m) := by
  intro f φ h
  unfold Ψ_ref22_Step at h
  split at h
  · injection h with h; subst h; exact K_ref22_Check_ok m
  · injection h with h; subst h; exact K_ref22_accepts_ok m
  · injection h with h; subst h; exact K_ref22_total_ok m
  · injection h with h; subst h; exact K_ref22_sample_ok m
  · injection h with h; subst h; exact K_ref22_read_ok m
  · cases h
def w_ref22_Step (b : State × List Event) : List (RV C) := [(dS of_State cells_State of_State_ok).e b.1, (dRow 35).e b.2]
noncomputable def Q_ref22_Step_9 (m : Nat) : St C → (Exit → St C → Option (List (RV C))) → Option (List (RV C)) := fun σ k => codeK Try.prog (Ψ_ref22_Step m) (callK Try.prog (Ψ_ref22_Step m) keep m 0) (keep 14) m (subC body14 [.r, .r, .r, .r, .r, .l, .r, .b, .o]) σ k
noncomputable def KL_ref22_Step_9 (m : Nat) : Exit → St C → Option (List (RV C)) := contK Try.prog (Ψ_ref22_Step m) (callK Try.prog (Ψ_ref22_Step m) keep m 0) (keep 14) m body14 [.r, .r, .r, .r, .r, .l, .r, .b, .o] (leaveK Try.prog Try.f14.results.toList (finK Try.prog Try.f14.resultTypes.toList))
noncomputable def L_ref22_Step_l9 (m n : Nat) (k_9 : Int) (c0 : Uart) (c1 : State) (c2 : Event) (c3 : State) (out_8 : List Event) : Option (List (RV C)) := iterK (Q_ref22_Step_9 m) (St.norm (keep 14 9)) n ({ T := [.dead, .dead, .dead, .fl (.one (.ptr 0 0)), .fl (.one (.ptr 1 0)), .fl (.one (.ptr 2 0)), .fl (.one (.ptr 3 0)), .dead, .fl (.one (.sl 4)), .fl (.one (.int .i64 k_9))] ++ List.replicate 101 .dead, F := [[]], H := [.box 25 (cells_Uart c0), .box 30 (cells_State c1), .box 35 (cells_Event c2), .box 30 (cells_State c3), .row 35 true out_8] } : St C) (KL_ref22_Step_9 m)
noncomputable def b_ref22_Step_l9 {R : Type} (m : Nat) (ret : State → List Event → Option R) (k_l9 : Int → Uart → State → Event → State → List Event → Option R) (k_9 : Int) (c0 : Uart) (c1 : State) (c2 : Event) (c3 : State) (out_8 : List Event) : Option R :=
 (ref22_total m c0).bind fun r0 =>
 bif decide (k_9 < r0) then
 (bif c1.Phase == 2 then
 ((ref22_sample m c0 k_9).bind fun r1 =>
 bif decide (IntKind.i64.wrap (c1.From + r1) < c2.To) then
 (bif decide (k_9 < 0) then
 none
 else
 bif k_9 == 0 then
 (bif c2.Value == 1 then
 ((ref22_total m c0).bind fun r2 =>
 bif k_9 == IntKind.i64.wrap (r2 - 1) then
 ((ref22_read m c0 c1.From (IntKind.i64.wrap (c1.Acc + IntKind.i64.wrap (c2.Value * 2 ^ min k_9.toNat 64)))).bind fun r3 =>
 bif decide ((out_8.length + 1) * 64 ≤ 140737488355328) then
 bif c2.Value == 0 then
 k_l9 (IntKind.i64.wrap (k_9 + 1)) c0 { c1 with Phase := 3, Count := IntKind.i64.wrap (k_9 + 1), Acc := IntKind.i64.wrap (c1.Acc + IntKind.i64.wrap (c2.Value * 2 ^ min k_9.toNat 64)) } c2 c3 (out_8 ++ [r3])
 else
 k_l9 (IntKind.i64.wrap (k_9 + 1)) c0 { c1 with Phase := 1, Count := IntKind.i64.wrap (k_9 + 1), Acc := IntKind.i64.wrap (c1.Acc + IntKind.i64.wrap (c2.Value * 2 ^ min k_9.toNat 64)) } c2 c3 (out_8 ++ [r3])
 else
 none)
 else
 k_l9 (IntKind.i64.wrap (k_9 + 1)) c0 { c1 with Phase := 1, Count := IntKind.i64.wrap (k_9 + 1), Acc := IntKind.i64.wrap (c1.Acc + IntKind.i64.wrap (c2.Value * 2 ^ min k_9.toNat 64)) } c2 c3 out_8)
 else
 (ref22_total m c0).bind fun r4 =>
 bif k_9 == IntKind.i64.wrap (r4 - 1) then
 ((ref22_read m c0 c1.From (IntKind.i64.wrap (c1.Acc + IntKind.i64.wrap (c2.Value * 2 ^ min k_9.toNat 64)))).bind fun r5 =>
 bif decide ((out_8.length + 1) * 64 ≤ 140737488355328) then
 bif c2.Value == 0 then
 k_l9 (IntKind.i64.wrap (k_9 + 1)) c0 { c1 with Phase := 3, Count := IntKind.i64.wrap (k_9 + 1), Acc := IntKind.i64.wrap (c1.Acc + IntKind.i64.wrap (c2.Value * 2 ^ min k_9.toNat 64)) } c2 c3 (out_8 ++ [r5])
 else
 k_l9 (IntKind.i64.wrap (k_9 + 1)) c0 { c1 with Phase := 1, Count := IntKind.i64.wrap (k_9 + 1), Acc := IntKind.i64.wrap (c1.Acc + IntKind.i64.wrap (c2.Value * 2 ^ min k_9.toNat 64)) } c2 c3 (out_8 ++ [r5])
 else
 none)
 else
 k_l9 (IntKind.i64.wrap (k_9 + 1)) c0 { c1 with Count := IntKind.i64.wrap (k_9 + 1), Acc := IntKind.i64.wrap (c1.Acc + IntKind.i64.wrap (c2.Value * 2 ^ min k_9.toNat 64)) } c2 c3 out_8)
 else
 (ref22_total m c0).bind fun r6 =>
 bif k_9 == IntKind.i64.wrap (r6 - 1) then
 ((ref22_read m c0 c1.From (IntKind.i64.wrap (c1.Acc + IntKind.i64.wrap (c2.Value * 2 ^ min k_9.toNat 64)))).bind fun r7 =>
 bif decide ((out_8.length + 1) * 64 ≤ 140737488355328) then
 bif c2.Value == 0 then
 k_l9 (IntKind.i64.wrap (k_9 + 1)) c0 { c1 with Phase := 3, Count := IntKind.i64.wrap (k_9 + 1), Acc := IntKind.i64.wrap (c1.Acc + IntKind.i64.wrap (c2.Value * 2 ^ min k_9.toNat 64)) } c2 c3 (out_8 ++ [r7])
 else
 k_l9 (IntKind.i64.wrap (k_9 + 1)) c0 { c1 with Phase := 1, Count := IntKind.i64.wrap (k_9 + 1), Acc := IntKind.i64.wrap (c1.Acc + IntKind.i64.wrap (c2.Value * 2 ^ min k_9.toNat 64)) } c2 c3 (out_8 ++ [r7])
 else
 none)
 else
 k_l9 (IntKind.i64.wrap (k_9 + 1)) c0 { c1 with Count := IntKind.i64.wrap (k_9 + 1), Acc := IntKind.i64.wrap (c1.Acc + IntKind.i64.wrap (c2.Value * 2 ^ min k_9.toNat 64)) } c2 c3 out_8)
 else
 k_l9 (IntKind.i64.wrap (k_9 + 1)) c0 c1 c2 c3 out_8)
 else
 k_l9 (IntKind.i64.wrap (k_9 + 1)) c0 c1 c2 c3 out_8)
 else
 ret { c1 with At := c2.To } out_8
theorem L_ref22_Step_l9_step (m n : Nat) (k_9 : Int) (c0 : Uart) (c1 : State) (c2 : Event) (c3 : State) (out_8 : List Event) : L_ref22_Step_l9 m (n + 1) k_9 c0 c1 c2 c3 out_8 = b_ref22_Step_l9 m (fun x0 x1 => some (w_ref22_Step (x0, x1))) (fun k_9 c0 c1 c2 c3 out_8 => L_ref22_Step_l9 m n k_9 c0 c1 c2 c3 out_8) k_9 c0 c1 c2 c3 out_8 := by kernel_rfl
theorem b_ref22_Step_l9_map (m : Nat) {k_l9 : Int → Uart → State → Event → State → List Event → Option (List (RV C))} {q_l9 : Int → Uart → State → Event → State → List Event → Option (State × List Event)} (h_l9 : ∀ k_9 c0 c1 c2 c3 out_8, k_l9 k_9 c0 c1 c2 c3 out_8 = (q_l9 k_9 c0 c1 c2 c3 out_8).map w_ref22_Step) (k_9 : Int) (c0 : Uart) (c1 : State) (c2 : Event) (c3 : State) (out_8 : List Event) : b_ref22_Step_l9 m (fun x0 x1 => some (w_ref22_Step (x0, x1))) k_l9 k_9 c0 c1 c2 c3 out_8 = (b_ref22_Step_l9 m (fun x0 x1 => some (x0, x1)) q_l9 k_9 c0 c1 c2 c3 out_8).map w_ref22_Step := by
  simp only [b_ref22_Step_l9, cond_map, bind_map, map_none, map_some, h_l9]
noncomputable def ref22_Step_l9 (m : Nat) : Nat → Int → Uart → State → Event → State → List Event → Option (State × List Event)
  | 0, _, _, _, _, _, _ => none
  | n + 1, k_9, c0, c1, c2, c3, out_8 => b_ref22_Step_l9 m (fun x0 x1 => some (x0, x1)) (fun k_9 c0 c1 c2 c3 out_8 => ref22_Step_l9 m n k_9 c0 c1 c2 c3 out_8) k_9 c0 c1 c2 c3 out_8
theorem L_ref22_Step_l9_eq (m : Nat) : ∀ (n : Nat) (k_9 : Int) (c0 : Uart) (c1 : State) (c2 : Event) (c3 : State) (out_8 : List Event), L_ref22_Step_l9 m n k_9 c0 c1 c2 c3 out_8 = (ref22_Step_l9 m n k_9 c0 c1 c2 c3 out_8).map w_ref22_Step
  | 0, k_9, c0, c1, c2, c3, out_8 => by kernel_rfl
  | n + 1, k_9, c0, c1, c2, c3, out_8 => by
    rw [L_ref22_Step_l9_step]
    exact b_ref22_Step_l9_map m (fun k_9 c0 c1 c2 c3 out_8 => L_ref22_Step_l9_eq m n k_9 c0 c1 c2 c3 out_8) k_9 c0 c1 c2 c3 out_8
noncomputable def b_ref22_Step {R : Type} (m : Nat) (ret : State → List Event → Option R) (k_l9 : Int → Uart → State → Event → State → List Event → Option R) (c_0 : Uart) (s_1 : State) (e_2 : Event) : Option R :=
 (ref22_Check m c_0).bind fun r0 =>
 bif r0 != 0 then
 ret s_1 []
 else
 (ref22_accepts m s_1 e_2).bind fun r1 =>
 bif !r1 then
 ret s_1 []
 else
 bif s_1.Phase == 0 then
 bif e_2.Value == 0 then
 k_l9 0 c_0 (State.mk 2 0 e_2.From 0 0 0 0 (bs [])) e_2 (State.mk 0 0 0 0 0 0 0 (bs [])) []
 else
 k_l9 s_1.Count c_0 { s_1 with Phase := 1 } e_2 (State.mk 0 0 0 0 0 0 0 (bs [])) []
 else
 bif s_1.Phase == 3 then
 bif e_2.Value == 1 then
 bif e_2.Value == 0 then
 k_l9 0 c_0 (State.mk 2 0 e_2.From 0 0 0 0 (bs [])) e_2 (State.mk 0 0 0 0 0 0 0 (bs [])) []
 else
 k_l9 s_1.Count c_0 { s_1 with Phase := 1 } e_2 (State.mk 0 0 0 0 0 0 0 (bs [])) []
 else
 bif s_1.Phase == 1 then
 bif e_2.Value == 0 then
 k_l9 0 c_0 (State.mk 2 0 e_2.From 0 0 0 0 (bs [])) e_2 (State.mk 0 0 0 0 0 0 0 (bs [])) []
 else
 k_l9 s_1.Count c_0 s_1 e_2 (State.mk 0 0 0 0 0 0 0 (bs [])) []
 else
 k_l9 s_1.Count c_0 s_1 e_2 (State.mk 0 0 0 0 0 0 0 (bs [])) []
 else
 bif s_1.Phase == 1 then
 bif e_2.Value == 0 then
 k_l9 0 c_0 (State.mk 2 0 e_2.From 0 0 0 0 (bs [])) e_2 (State.mk 0 0 0 0 0 0 0 (bs [])) []
 else
 k_l9 s_1.Count c_0 s_1 e_2 (State.mk 0 0 0 0 0 0 0 (bs [])) []
 else
 k_l9 s_1.Count c_0 s_1 e_2 (State.mk 0 0 0 0 0 0 0 (bs [])) []
theorem ref22_Step_pre (m : Nat) (c_0 : Uart) (s_1 : State) (e_2 : Event) : funK Try.prog (Ψ_ref22_Step m) keep m 1 14 [(dS of_Uart cells_Uart of_Uart_ok).e c_0, (dS of_State cells_State of_State_ok).e s_1, (dS of_Event cells_Event of_Event_ok).e e_2] = b_ref22_Step m (fun x0 x1 => some (w_ref22_Step (x0, x1))) (fun k_9 c0 c1 c2 c3 out_8 => L_ref22_Step_l9 m m k_9 c0 c1 c2 c3 out_8) c_0 s_1 e_2 := by kernel_rfl
theorem b_ref22_Step_map (m : Nat) {k_l9 : Int → Uart → State → Event → State → List Event → Option (List (RV C))} {q_l9 : Int → Uart → State → Event → State → List Event → Option (State × List Event)} (h_l9 : ∀ k_9 c0 c1 c2 c3 out_8, k_l9 k_9 c0 c1 c2 c3 out_8 = (q_l9 k_9 c0 c1 c2 c3 out_8).map w_ref22_Step) (c_0 : Uart) (s_1 : State) (e_2 : Event) : b_ref22_Step m (fun x0 x1 => some (w_ref22_Step (x0, x1))) k_l9 c_0 s_1 e_2 = (b_ref22_Step m (fun x0 x1 => some (x0, x1)) q_l9 c_0 s_1 e_2).map w_ref22_Step := by
  simp only [b_ref22_Step, cond_map, bind_map, map_none, map_some, h_l9]
noncomputable def ref22_Step (m : Nat) (c_0 : Uart) (s_1 : State) (e_2 : Event) : Option (State × List Event) := b_ref22_Step m (fun x0 x1 => some (x0, x1)) (fun k_9 c0 c1 c2 c3 out_8 => ref22_Step_l9 m m k_9 c0 c1 c2 c3 out_8) c_0 s_1 e_2
theorem ref22_Step_fun (m : Nat) (c_0 : Uart) (s_1 : State) (e_2 : Event) : funK Try.prog (Ψ_ref22_Step m) keep m 1 14 [(dS of_Uart cells_Uart of_Uart_ok).e c_0, (dS of_State cells_State of_State_ok).e s_1, (dS of_Event cells_Event of_Event_ok).e e_2] = (ref22_Step m c_0 s_1 e_2).map w_ref22_Step := by
  rw [ref22_Step_pre]
  exact b_ref22_Step_map m (fun k_9 c0 c1 c2 c3 out_8 => L_ref22_Step_l9_eq m m k_9 c0 c1 c2 c3 out_8) c_0 s_1 e_2
noncomputable def K_ref22_Step (m : Nat) : KnownF C := mkK (dCons (dS of_Uart cells_Uart of_Uart_ok) (dCons (dS of_State cells_State of_State_ok) (dCons (dS of_Event cells_Event of_Event_ok) dNil))) (fun a => ref22_Step m a.1 a.2.1 a.2.2.1) w_ref22_Step
theorem K_ref22_Step_ok (m : Nat) : KnownAt C Try.prog 14 fun l => (K_ref22_Step m).run _ l some :=
  mkK_known good fit (Ψ_ref22_Step_ok m) (keep := keep) (m := m) (d := 1) fun a => ref22_Step_fun m a.1 a.2.1 a.2.2.1
/-! ### signalbench/signalbenchref07.Same -/
def w_ref07_Same (b : Bool) : List (RV C) := [dBool.e b]
noncomputable def Q_ref07_Same_4 (m : Nat) : St C → (Exit → St C → Option (List (RV C))) → Option (List (RV C)) := fun σ k => codeK Try.prog Ψ0 (callK Try.prog Ψ0 keep m 0) (keep 15) m (subC body15 [.r, .r, .l, .r, .b, .o]) σ k
noncomputable def KL_ref07_Same_4 (m : Nat) : Exit → St C → Option (List (RV C)) := contK Try.prog Ψ0 (callK Try.prog Ψ0 keep m 0) (keep 15) m body15 [.r, .r, .l, .r, .b, .o] (leaveK Try.prog Try.f15.results.toList (finK Try.prog Try.f15.resultTypes.toList))
noncomputable def L_ref07_Same_l4 (m n : Nat) (i_5 : Int) (a_0 : List Event) (b_1 : List Event) : Option (List (RV C)) := iterK (Q_ref07_Same_4 m) (St.norm (keep 15 4)) n ({ T := [.fl (.one (.sl 0)), .fl (.one (.sl 1)), .dead, .dead, .dead, .fl (.one (.int .i64 i_5))] ++ List.replicate 20 .dead, F := [[]], H := [.row 35 false a_0, .row 35 false b_1] } : St C) (KL_ref07_Same_4 m)
noncomputable def b_ref07_Same_l4 {R : Type} (m : Nat) (ret : Bool → Option R) (k_l4 : Int → List Event → List Event → Option R) (i_5 : Int) (a_0 : List Event) (b_1 : List Event) : Option R :=
 bif decide (i_5 < (a_0.length : Int)) then
 bif decide (0 ≤ i_5) then
 bif decide (i_5 < (a_0.length : Int)) then
 bif decide (0 ≤ i_5) then
 bif decide (i_5 < (b_1.length : Int)) then
 bif !((a_0.getD i_5.toNat dflt_Event).Kind == (b_1.getD i_5.toNat dflt_Event).Kind && ((a_0.getD i_5.toNat dflt_Event).From == (b_1.getD i_5.toNat dflt_Event).From && ((a_0.getD i_5.toNat dflt_Event).To == (b_1.getD i_5.toNat dflt_Event).To && ((a_0.getD i_5.toNat dflt_Event).Value == (b_1.getD i_5.toNat dflt_Event).Value && ((a_0.getD i_5.toNat dflt_Event).Aux == (b_1.getD i_5.toNat dflt_Event).Aux && ((a_0.getD i_5.toNat dflt_Event).Data == (b_1.getD i_5.toNat dflt_Event).Data && ((a_0.getD i_5.toNat dflt_Event).Fault == (b_1.getD i_5.toNat dflt_Event).Fault && true))))))) then
 ret false
 else
 k_l4 (IntKind.i64.wrap (i_5 + 1)) a_0 b_1
 else
 none
 else
 none
 else
 none
 else
 none
 else
 ret true
theorem L_ref07_Same_l4_step (m n : Nat) (i_5 : Int) (a_0 : List Event) (b_1 : List Event) : L_ref07_Same_l4 m (n + 1) i_5 a_0 b_1 = b_ref07_Same_l4 m (fun x0 => some (w_ref07_Same x0)) (fun i_5 a_0 b_1 => L_ref07_Same_l4 m n i_5 a_0 b_1) i_5 a_0 b_1 := by kernel_rfl
theorem b_ref07_Same_l4_map (m : Nat) {k_l4 : Int → List Event → List Event → Option (List (RV C))} {q_l4 : Int → List Event → List Event → Option (Bool)} (h_l4 : ∀ i_5 a_0 b_1, k_l4 i_5 a_0 b_1 = (q_l4 i_5 a_0 b_1).map w_ref07_Same) (i_5 : Int) (a_0 : List Event) (b_1 : List Event) : b_ref07_Same_l4 m (fun x0 => some (w_ref07_Same x0)) k_l4 i_5 a_0 b_1 = (b_ref07_Same_l4 m (fun x0 => some x0) q_l4 i_5 a_0 b_1).map w_ref07_Same := by
  simp only [b_ref07_Same_l4, cond_map, bind_map, map_none, map_some, h_l4]
noncomputable def ref07_Same_l4 (m : Nat) : Nat → Int → List Event → List Event → Option (Bool)
  | 0, _, _, _ => none
  | n + 1, i_5, a_0, b_1 => b_ref07_Same_l4 m (fun x0 => some x0) (fun i_5 a_0 b_1 => ref07_Same_l4 m n i_5 a_0 b_1) i_5 a_0 b_1
theorem L_ref07_Same_l4_eq (m : Nat) : ∀ (n : Nat) (i_5 : Int) (a_0 : List Event) (b_1 : List Event), L_ref07_Same_l4 m n i_5 a_0 b_1 = (ref07_Same_l4 m n i_5 a_0 b_1).map w_ref07_Same
  | 0, i_5, a_0, b_1 => by kernel_rfl
  | n + 1, i_5, a_0, b_1 => by
    rw [L_ref07_Same_l4_step]
    exact b_ref07_Same_l4_map m (fun i_5 a_0 b_1 => L_ref07_Same_l4_eq m n i_5 a_0 b_1) i_5 a_0 b_1
noncomputable def b_ref07_Same {R : Type} (m : Nat) (ret : Bool → Option R) (k_l4 : Int → List Event → List Event → Option R) (a_0 : List Event) (b_1 : List Event) : Option R :=
 bif (a_0.length : Int) != (b_1.length : Int) then
 ret false
 else
 k_l4 0 a_0 b_1
theorem ref07_Same_pre (m : Nat) (a_0 : List Event) (b_1 : List Event) : funK Try.prog Ψ0 keep m 1 15 [(dRow 35).e a_0, (dRow 35).e b_1] = b_ref07_Same m (fun x0 => some (w_ref07_Same x0)) (fun i_5 a_0 b_1 => L_ref07_Same_l4 m m i_5 a_0 b_1) a_0 b_1 := by kernel_rfl
theorem b_ref07_Same_map (m : Nat) {k_l4 : Int → List Event → List Event → Option (List (RV C))} {q_l4 : Int → List Event → List Event → Option (Bool)} (h_l4 : ∀ i_5 a_0 b_1, k_l4 i_5 a_0 b_1 = (q_l4 i_5 a_0 b_1).map w_ref07_Same) (a_0 : List Event) (b_1 : List Event) : b_ref07_Same m (fun x0 => some (w_ref07_Same x0)) k_l4 a_0 b_1 = (b_ref07_Same m (fun x0 => some x0) q_l4 a_0 b_1).map w_ref07_Same := by
  simp only [b_ref07_Same, cond_map, bind_map, map_none, map_some, h_l4]
noncomputable def ref07_Same (m : Nat) (a_0 : List Event) (b_1 : List Event) : Option (Bool) := b_ref07_Same m (fun x0 => some x0) (fun i_5 a_0 b_1 => ref07_Same_l4 m m i_5 a_0 b_1) a_0 b_1
theorem ref07_Same_fun (m : Nat) (a_0 : List Event) (b_1 : List Event) : funK Try.prog Ψ0 keep m 1 15 [(dRow 35).e a_0, (dRow 35).e b_1] = (ref07_Same m a_0 b_1).map w_ref07_Same := by
  rw [ref07_Same_pre]
  exact b_ref07_Same_map m (fun i_5 a_0 b_1 => L_ref07_Same_l4_eq m m i_5 a_0 b_1) a_0 b_1
noncomputable def K_ref07_Same (m : Nat) : KnownF C := mkK (dCons (dRow 35) (dCons (dRow 35) dNil)) (fun a => ref07_Same m a.1 a.2.1) w_ref07_Same
theorem K_ref07_Same_ok (m : Nat) : KnownAt C Try.prog 15 fun l => (K_ref07_Same m).run _ l some :=
  mkK_known good fit Ψ0_ok (keep := keep) (m := m) (d := 1) fun a => ref07_Same_fun m a.1 a.2.1
/-! ### signalbench/signalbenchref22.End -/
def w_ref22_End (b : List Event) : List (RV C) := [(dRow 35).e b]
noncomputable def b_ref22_End {R : Type} (m : Nat) (ret : List Event → Option R) (c_0 : Uart) (s_1 : State) : Option R :=
 ret []
theorem ref22_End_pre (m : Nat) (c_0 : Uart) (s_1 : State) : funK Try.prog Ψ0 keep m 1 41 [(dS of_Uart cells_Uart of_Uart_ok).e c_0, (dS of_State cells_State of_State_ok).e s_1] = b_ref22_End m (fun x0 => some (w_ref22_End x0)) c_0 s_1 := by kernel_rfl
theorem b_ref22_End_map (m : Nat) (c_0 : Uart) (s_1 : State) : b_ref22_End m (fun x0 => some (w_ref22_End x0)) c_0 s_1 = (b_ref22_End m (fun x0 => some x0) c_0 s_1).map w_ref22_End := by
  simp only [b_ref22_End, cond_map, bind_map, map_none, map_some]
noncomputable def ref22_End (m : Nat) (c_0 : Uart) (s_1 : State) : Option (List Event) := b_ref22_End m (fun x0 => some x0) c_0 s_1
theorem ref22_End_fun (m : Nat) (c_0 : Uart) (s_1 : State) : funK Try.prog Ψ0 keep m 1 41 [(dS of_Uart cells_Uart of_Uart_ok).e c_0, (dS of_State cells_State of_State_ok).e s_1] = (ref22_End m c_0 s_1).map w_ref22_End := by
  rw [ref22_End_pre]
  exact b_ref22_End_map m c_0 s_1
noncomputable def K_ref22_End (m : Nat) : KnownF C := mkK (dCons (dS of_Uart cells_Uart of_Uart_ok) (dCons (dS of_State cells_State of_State_ok) dNil)) (fun a => ref22_End m a.1 a.2.1) w_ref22_End
theorem K_ref22_End_ok (m : Nat) : KnownAt C Try.prog 41 fun l => (K_ref22_End m).run _ l some :=
  mkK_known good fit Ψ0_ok (keep := keep) (m := m) (d := 1) fun a => ref22_End_fun m a.1 a.2.1
/-! ### signalbench/signalbenchref22.Decode -/
noncomputable def Ψ_ref22_Decode (m : Nat) : Known C := fun f => match f with
  | 12 => some (K_ref22_Start m)
  | 14 => some (K_ref22_Step m)
  | 41 => some (K_ref22_End m)
  | _ => none
theorem Ψ_ref22_Decode_ok (m : Nat) : KnownOk C Try.prog (Ψ_ref22_Decode m) := by
  intro f φ h
  unfold Ψ_ref22_Decode at h
  split at h
  · injection h with h; subst h; exact K_ref22_Start_ok m
  · injection h with h; subst h; exact K_ref22_Step_ok m
  · injection h with h; subst h; exact K_ref22_End_ok m
  · cases h
def w_ref22_Decode (b : List Event) : List (RV C) := [(dRow 35).e b]
noncomputable def Q_ref22_Decode_3 (m : Nat) : St C → (Exit → St C → Option (List (RV C))) → Option (List (RV C)) := fun σ k => codeK Try.prog (Ψ_ref22_Decode m) (callK Try.prog (Ψ_ref22_Decode m) keep m 0) (keep 20) m (subC body20 [.r, .r, .l, .r, .b, .o]) σ k
noncomputable def KL_ref22_Decode_3 (m : Nat) : Exit → St C → Option (List (RV C)) := contK Try.prog (Ψ_ref22_Decode m) (callK Try.prog (Ψ_ref22_Decode m) keep m 0) (keep 20) m body20 [.r, .r, .l, .r, .b, .o] (leaveK Try.prog Try.f20.results.toList (finK Try.prog Try.f20.resultTypes.toList))
noncomputable def L_ref22_Decode_l3 (m n : Nat) (i_7 : Int) (l_1 : List Event) (c1 : Uart) (c2 : State) (out_6 : List Event) : Option (List (RV C)) := iterK (Q_ref22_Decode_3 m) (St.norm (keep 20 3)) n ({ T := [.dead, .fl (.one (.sl 0)), .fl (.one (.ptr 1 0)), .dead, .dead, .fl (.one (.ptr 2 0)), .fl (.one (.sl 3)), .fl (.one (.int .i64 i_7))] ++ List.replicate 30 .dead, F := [[]], H := [.row 35 false l_1, .box 25 (cells_Uart c1), .box 30 (cells_State c2), .row 35 true out_6] } : St C) (KL_ref22_Decode_3 m)
noncomputable def b_ref22_Decode_l3 {R : Type} (m : Nat) (ret : List Event → Option R) (k_l3 : Int → List Event → Uart → State → List Event → Option R) (i_7 : Int) (l_1 : List Event) (c1 : Uart) (c2 : State) (out_6 : List Event) : Option R :=
 bif decide (i_7 < (l_1.length : Int)) then
 (bif decide (0 ≤ i_7) then
 (bif decide (i_7 < (l_1.length : Int)) then
 ((ref22_Step m c1 c2 (l_1.getD i_7.toNat dflt_Event)).bind fun r0 =>
 bif decide ((out_6.length + r0.snd.length) * 64 ≤ 140737488355328) then
 k_l3 (IntKind.i64.wrap (i_7 + 1)) l_1 c1 r0.fst (out_6 ++ r0.snd)
 else
 none)
 else
 none)
 else
 none)
 else
 bif decide ((out_6.length + 0) * 64 ≤ 140737488355328) then
 ret (out_6 ++ [])
 else
 none
theorem L_ref22_Decode_l3_step (m n : Nat) (i_7 : Int) (l_1 : List Event) (c1 : Uart) (c2 : State) (out_6 : List Event) : L_ref22_Decode_l3 m (n + 1) i_7 l_1 c1 c2 out_6 = b_ref22_Decode_l3 m (fun x0 => some (w_ref22_Decode x0)) (fun i_7 l_1 c1 c2 out_6 => L_ref22_Decode_l3 m n i_7 l_1 c1 c2 out_6) i_7 l_1 c1 c2 out_6 := by kernel_rfl
theorem b_ref22_Decode_l3_map (m : Nat) {k_l3 : Int → List Event → Uart → State → List Event → Option (List (RV C))} {q_l3 : Int → List Event → Uart → State → List Event → Option (List Event)} (h_l3 : ∀ i_7 l_1 c1 c2 out_6, k_l3 i_7 l_1 c1 c2 out_6 = (q_l3 i_7 l_1 c1 c2 out_6).map w_ref22_Decode) (i_7 : Int) (l_1 : List Event) (c1 : Uart) (c2 : State) (out_6 : List Event) : b_ref22_Decode_l3 m (fun x0 => some (w_ref22_Decode x0)) k_l3 i_7 l_1 c1 c2 out_6 = (b_ref22_Decode_l3 m (fun x0 => some x0) q_l3 i_7 l_1 c1 c2 out_6).map w_ref22_Decode := by
  simp only [b_ref22_Decode_l3, cond_map, bind_map, map_none, map_some, h_l3]
noncomputable def ref22_Decode_l3 (m : Nat) : Nat → Int → List Event → Uart → State → List Event → Option (List Event)
  | 0, _, _, _, _, _ => none
  | n + 1, i_7, l_1, c1, c2, out_6 => b_ref22_Decode_l3 m (fun x0 => some x0) (fun i_7 l_1 c1 c2 out_6 => ref22_Decode_l3 m n i_7 l_1 c1 c2 out_6) i_7 l_1 c1 c2 out_6
theorem L_ref22_Decode_l3_eq (m : Nat) : ∀ (n : Nat) (i_7 : Int) (l_1 : List Event) (c1 : Uart) (c2 : State) (out_6 : List Event), L_ref22_Decode_l3 m n i_7 l_1 c1 c2 out_6 = (ref22_Decode_l3 m n i_7 l_1 c1 c2 out_6).map w_ref22_Decode
  | 0, i_7, l_1, c1, c2, out_6 => by kernel_rfl
  | n + 1, i_7, l_1, c1, c2, out_6 => by
    rw [L_ref22_Decode_l3_step]
    exact b_ref22_Decode_l3_map m (fun i_7 l_1 c1 c2 out_6 => L_ref22_Decode_l3_eq m n i_7 l_1 c1 c2 out_6) i_7 l_1 c1 c2 out_6
noncomputable def b_ref22_Decode {R : Type} (m : Nat) (ret : List Event → Option R) (k_l3 : Int → List Event → Uart → State → List Event → Option R) (c_0 : Uart) (l_1 : List Event) : Option R :=
 k_l3 0 l_1 c_0 (State.mk 0 0 0 0 0 0 0 (bs [])) []
theorem ref22_Decode_pre (m : Nat) (c_0 : Uart) (l_1 : List Event) : funK Try.prog (Ψ_ref22_Decode m) keep m 1 20 [(dS of_Uart cells_Uart of_Uart_ok).e c_0, (dRow 35).e l_1] = b_ref22_Decode m (fun x0 => some (w_ref22_Decode x0)) (fun i_7 l_1 c1 c2 out_6 => L_ref22_Decode_l3 m m i_7 l_1 c1 c2 out_6) c_0 l_1 := by kernel_rfl
theorem b_ref22_Decode_map (m : Nat) {k_l3 : Int → List Event → Uart → State → List Event → Option (List (RV C))} {q_l3 : Int → List Event → Uart → State → List Event → Option (List Event)} (h_l3 : ∀ i_7 l_1 c1 c2 out_6, k_l3 i_7 l_1 c1 c2 out_6 = (q_l3 i_7 l_1 c1 c2 out_6).map w_ref22_Decode) (c_0 : Uart) (l_1 : List Event) : b_ref22_Decode m (fun x0 => some (w_ref22_Decode x0)) k_l3 c_0 l_1 = (b_ref22_Decode m (fun x0 => some x0) q_l3 c_0 l_1).map w_ref22_Decode := by
  simp only [b_ref22_Decode, cond_map, bind_map, map_none, map_some, h_l3]
noncomputable def ref22_Decode (m : Nat) (c_0 : Uart) (l_1 : List Event) : Option (List Event) := b_ref22_Decode m (fun x0 => some x0) (fun i_7 l_1 c1 c2 out_6 => ref22_Decode_l3 m m i_7 l_1 c1 c2 out_6) c_0 l_1
theorem ref22_Decode_fun (m : Nat) (c_0 : Uart) (l_1 : List Event) : funK Try.prog (Ψ_ref22_Decode m) keep m 1 20 [(dS of_Uart cells_Uart of_Uart_ok).e c_0, (dRow 35).e l_1] = (ref22_Decode m c_0 l_1).map w_ref22_Decode := by
  rw [ref22_Decode_pre]
  exact b_ref22_Decode_map m (fun i_7 l_1 c1 c2 out_6 => L_ref22_Decode_l3_eq m m i_7 l_1 c1 c2 out_6) c_0 l_1
noncomputable def K_ref22_Decode (m : Nat) : KnownF C := mkK (dCons (dS of_Uart cells_Uart of_Uart_ok) (dCons (dRow 35) dNil)) (fun a => ref22_Decode m a.1 a.2.1) w_ref22_Decode
theorem K_ref22_Decode_ok (m : Nat) : KnownAt C Try.prog 20 fun l => (K_ref22_Decode m).run _ l some :=
  mkK_known good fit (Ψ_ref22_Decode_ok m) (keep := keep) (m := m) (d := 1) fun a => ref22_Decode_fun m a.1 a.2.1
/-! ### signalbench/signalbenchlaw22.UartDecodes -/
noncomputable def Ψ_law22_UartDecodes (m : Nat) : Known C := fun f => match f with
  | 9 => some (K_law22_small m)
  | 10 => some (K_law22_awake m)
  | 11 => some (K_uart_Start m)
  | 12 => some (K_ref22_Start m)
  | 13 => some (K_uart_Step m)
  | 14 => some (K_ref22_Step m)
  | 15 => some (K_ref07_Same m)
  | 16 => some (K_uart_Check m)
  | 17 => some (K_ref22_Check m)
  | 18 => some (K_uart_End m)
  | 19 => some (K_uart_Decode m)
  | 20 => some (K_ref22_Decode m)
  | _ => none
theorem Ψ_law22_UartDecodes_ok (m : Nat) : KnownOk C Try.prog (Ψ_law22_UartDecodes m) := by
  intro f φ h
  unfold Ψ_law22_UartDecodes at h
  split at h
  · injection h with h; subst h; exact K_law22_small_ok m
  · injection h with h; subst h; exact K_law22_awake_ok m
  · injection h with h; subst h; exact K_uart_Start_ok m
  · injection h with h; subst h; exact K_ref22_Start_ok m
  · injection h with h; subst h; exact K_uart_Step_ok m
  · injection h with h; subst h; exact K_ref22_Step_ok m
  · injection h with h; subst h; exact K_ref07_Same_ok m
  · injection h with h; subst h; exact K_uart_Check_ok m
  · injection h with h; subst h; exact K_ref22_Check_ok m
  · injection h with h; subst h; exact K_uart_End_ok m
  · injection h with h; subst h; exact K_uart_Decode_ok m
  · injection h with h; subst h; exact K_ref22_Decode_ok m
  · cases h
def w_law22_UartDecodes (b : Bool) : List (RV C) := [dBool.e b]
noncomputable def Q_law22_UartDecodes_5 (m : Nat) : St C → (Exit → St C → Option (List (RV C))) → Option (List (RV C)) := fun σ k => codeK Try.prog (Ψ_law22_UartDecodes m) (callK Try.prog (Ψ_law22_UartDecodes m) keep m 0) (keep 3) m (subC body3 [.r, .r, .r, .l, .r, .b, .o]) σ k
noncomputable def KL_law22_UartDecodes_5 (m : Nat) : Exit → St C → Option (List (RV C)) := contK Try.prog (Ψ_law22_UartDecodes m) (callK Try.prog (Ψ_law22_UartDecodes m) keep m 0) (keep 3) m body3 [.r, .r, .r, .l, .r, .b, .o] (leaveK Try.prog Try.f3.results.toList (finK Try.prog Try.f3.resultTypes.toList))
noncomputable def L_law22_UartDecodes_l5 (m n : Nat) (i_7 : Int) (l_1 : List Event) (c1 : Uart) (c2 : State) (c3 : State) : Option (List (RV C)) := iterK (Q_law22_UartDecodes_5 m) (St.norm (keep 3 5)) n ({ T := [.dead, .fl (.one (.sl 0)), .fl (.one (.ptr 1 0)), .dead, .dead, .fl (.one (.ptr 2 0)), .fl (.one (.ptr 3 0)), .fl (.one (.int .i64 i_7))] ++ List.replicate 68 .dead, F := [[]], H := [.row 35 false l_1, .box 25 (cells_Uart c1), .box 30 (cells_State c2), .box 30 (cells_State c3)] } : St C) (KL_law22_UartDecodes_5 m)
noncomputable def b_law22_UartDecodes_l5 {R : Type} (m : Nat) (ret : Bool → Option R) (k_l5 : Int → List Event → Uart → State → State → Option R) (i_7 : Int) (l_1 : List Event) (c1 : Uart) (c2 : State) (c3 : State) : Option R :=
 bif decide (i_7 < (l_1.length : Int)) then
 (bif decide (0 ≤ i_7) then
 (bif decide (i_7 < (l_1.length : Int)) then
 ((uart_Step m c1 c2 (l_1.getD i_7.toNat dflt_Event)).bind fun r0 =>
 bif decide (0 ≤ i_7) then
 (bif decide (i_7 < (l_1.length : Int)) then
 ((ref22_Step m c1 c3 (l_1.getD i_7.toNat dflt_Event)).bind fun r1 =>
 (ref07_Same m r0.snd r1.snd).bind fun r2 =>
 bif !r2 then
 ret false
 else
 k_l5 (IntKind.i64.wrap (i_7 + 1)) l_1 c1 r0.fst r1.fst)
 else
 none)
 else
 none)
 else
 none)
 else
 none)
 else
 (uart_Check m c1).bind fun r3 =>
 (ref22_Check m c1).bind fun r4 =>
 bif r3 == r4 then
 ((uart_Decode m c1 l_1).bind fun r5 =>
 (ref22_Decode m c1 l_1).bind fun r6 =>
 (ref07_Same m r5 r6).bind fun r7 =>
 bif r7 then
 ((law22_awake m).bind fun r8 =>
 ret r8)
 else
 ret false)
 else
 ret false
theorem L_law22_UartDecodes_l5_step (m n : Nat) (i_7 : Int) (l_1 : List Event) (c1 : Uart) (c2 : State) (c3 : State) : L_law22_UartDecodes_l5 m (n + 1) i_7 l_1 c1 c2 c3 = b_law22_UartDecodes_l5 m (fun x0 => some (w_law22_UartDecodes x0)) (fun i_7 l_1 c1 c2 c3 => L_law22_UartDecodes_l5 m n i_7 l_1 c1 c2 c3) i_7 l_1 c1 c2 c3 := by kernel_rfl
theorem b_law22_UartDecodes_l5_map (m : Nat) {k_l5 : Int → List Event → Uart → State → State → Option (List (RV C))} {q_l5 : Int → List Event → Uart → State → State → Option (Bool)} (h_l5 : ∀ i_7 l_1 c1 c2 c3, k_l5 i_7 l_1 c1 c2 c3 = (q_l5 i_7 l_1 c1 c2 c3).map w_law22_UartDecodes) (i_7 : Int) (l_1 : List Event) (c1 : Uart) (c2 : State) (c3 : State) : b_law22_UartDecodes_l5 m (fun x0 => some (w_law22_UartDecodes x0)) k_l5 i_7 l_1 c1 c2 c3 = (b_law22_UartDecodes_l5 m (fun x0 => some x0) q_l5 i_7 l_1 c1 c2 c3).map w_law22_UartDecodes := by
  simp only [b_law22_UartDecodes_l5, cond_map, bind_map, map_none, map_some, h_l5]
noncomputable def law22_UartDecodes_l5 (m : Nat) : Nat → Int → List Event → Uart → State → State → Option (Bool)
  | 0, _, _, _, _, _ => none
  | n + 1, i_7, l_1, c1, c2, c3 => b_law22_UartDecodes_l5 m (fun x0 => some x0) (fun i_7 l_1 c1 c2 c3 => law22_UartDecodes_l5 m n i_7 l_1 c1 c2 c3) i_7 l_1 c1 c2 c3
theorem L_law22_UartDecodes_l5_eq (m : Nat) : ∀ (n : Nat) (i_7 : Int) (l_1 : List Event) (c1 : Uart) (c2 : State) (c3 : State), L_law22_UartDecodes_l5 m n i_7 l_1 c1 c2 c3 = (law22_UartDecodes_l5 m n i_7 l_1 c1 c2 c3).map w_law22_UartDecodes
  | 0, i_7, l_1, c1, c2, c3 => by kernel_rfl
  | n + 1, i_7, l_1, c1, c2, c3 => by
    rw [L_law22_UartDecodes_l5_step]
    exact b_law22_UartDecodes_l5_map m (fun i_7 l_1 c1 c2 c3 => L_law22_UartDecodes_l5_eq m n i_7 l_1 c1 c2 c3) i_7 l_1 c1 c2 c3
noncomputable def b_law22_UartDecodes {R : Type} (m : Nat) (ret : Bool → Option R) (k_l5 : Int → List Event → Uart → State → State → Option R) (c_0 : Uart) (l_1 : List Event) : Option R :=
 (law22_small m l_1).bind fun r0 =>
 bif !r0 then
 ((law22_awake m).bind fun r1 =>
 ret r1)
 else
 k_l5 0 l_1 c_0 (State.mk 0 0 0 0 0 0 0 (bs [])) (State.mk 0 0 0 0 0 0 0 (bs []))
theorem law22_UartDecodes_pre (m : Nat) (c_0 : Uart) (l_1 : List Event) : funK Try.prog (Ψ_law22_UartDecodes m) keep m 1 3 [(dS of_Uart cells_Uart of_Uart_ok).e c_0, (dRow 35).e l_1] = b_law22_UartDecodes m (fun x0 => some (w_law22_UartDecodes x0)) (fun i_7 l_1 c1 c2 c3 => L_law22_UartDecodes_l5 m m i_7 l_1 c1 c2 c3) c_0 l_1 := by kernel_rfl
theorem b_law22_UartDecodes_map (m : Nat) {k_l5 : Int → List Event → Uart → State → State → Option (List (RV C))} {q_l5 : Int → List Event → Uart → State → State → Option (Bool)} (h_l5 : ∀ i_7 l_1 c1 c2 c3, k_l5 i_7 l_1 c1 c2 c3 = (q_l5 i_7 l_1 c1 c2 c3).map w_law22_UartDecodes) (c_0 : Uart) (l_1 : List Event) : b_law22_UartDecodes m (fun x0 => some (w_law22_UartDecodes x0)) k_l5 c_0 l_1 = (b_law22_UartDecodes m (fun x0 => some x0) q_l5 c_0 l_1).map w_law22_UartDecodes := by
  simp only [b_law22_UartDecodes, cond_map, bind_map, map_none, map_some, h_l5]
noncomputable def law22_UartDecodes (m : Nat) (c_0 : Uart) (l_1 : List Event) : Option (Bool) := b_law22_UartDecodes m (fun x0 => some x0) (fun i_7 l_1 c1 c2 c3 => law22_UartDecodes_l5 m m i_7 l_1 c1 c2 c3) c_0 l_1
theorem law22_UartDecodes_fun (m : Nat) (c_0 : Uart) (l_1 : List Event) : funK Try.prog (Ψ_law22_UartDecodes m) keep m 1 3 [(dS of_Uart cells_Uart of_Uart_ok).e c_0, (dRow 35).e l_1] = (law22_UartDecodes m c_0 l_1).map w_law22_UartDecodes := by
  rw [law22_UartDecodes_pre]
  exact b_law22_UartDecodes_map m (fun i_7 l_1 c1 c2 c3 => L_law22_UartDecodes_l5_eq m m i_7 l_1 c1 c2 c3) c_0 l_1
noncomputable def K_law22_UartDecodes (m : Nat) : KnownF C := mkK (dCons (dS of_Uart cells_Uart of_Uart_ok) (dCons (dRow 35) dNil)) (fun a => law22_UartDecodes m a.1 a.2.1) w_law22_UartDecodes
theorem K_law22_UartDecodes_ok (m : Nat) : KnownAt C Try.prog 3 fun l => (K_law22_UartDecodes m).run _ l some :=
  mkK_known good fit (Ψ_law22_UartDecodes_ok m) (keep := keep) (m := m) (d := 1) fun a => law22_UartDecodes_fun m a.1 a.2.1
/-! ### signalbench/signalbenchlaw22.tiny -/
def w_law22_tiny (b : Bool) : List (RV C) := [dBool.e b]
noncomputable def Q_law22_tiny_4 (m : Nat) : St C → (Exit → St C → Option (List (RV C))) → Option (List (RV C)) := fun σ k => codeK Try.prog Ψ0 (callK Try.prog Ψ0 keep m 0) (keep 21) m (subC body21 [.r, .r, .l, .r, .b, .o]) σ k
noncomputable def KL_law22_tiny_4 (m : Nat) : Exit → St C → Option (List (RV C)) := contK Try.prog Ψ0 (callK Try.prog Ψ0 keep m 0) (keep 21) m body21 [.r, .r, .l, .r, .b, .o] (leaveK Try.prog Try.f21.results.toList (finK Try.prog Try.f21.resultTypes.toList))
noncomputable def L_law22_tiny_l4 (m n : Nat) (i_3 : Int) (l_0 : List Item) : Option (List (RV C)) := iterK (Q_law22_tiny_4 m) (St.norm (keep 21 4)) n ({ T := [.fl (.one (.sl 0)), .dead, .dead, .fl (.one (.int .i64 i_3))] ++ List.replicate 16 .dead, F := [[]], H := [.row 54 false l_0] } : St C) (KL_law22_tiny_4 m)
noncomputable def b_law22_tiny_l4 {R : Type} (m : Nat) (ret : Bool → Option R) (k_l4 : Int → List Item → Option R) (i_3 : Int) (l_0 : List Item) : Option R :=
 bif decide (i_3 < (l_0.length : Int)) then
 bif decide (0 ≤ i_3) then
 bif decide (i_3 < (l_0.length : Int)) then
 bif decide (((l_0.getD i_3.toNat dflt_Item).Data.size : Int) > 20) then
 ret false
 else
 k_l4 (IntKind.i64.wrap (i_3 + 1)) l_0
 else
 none
 else
 none
 else
 ret true
theorem L_law22_tiny_l4_step (m n : Nat) (i_3 : Int) (l_0 : List Item) : L_law22_tiny_l4 m (n + 1) i_3 l_0 = b_law22_tiny_l4 m (fun x0 => some (w_law22_tiny x0)) (fun i_3 l_0 => L_law22_tiny_l4 m n i_3 l_0) i_3 l_0 := by kernel_rfl
theorem b_law22_tiny_l4_map (m : Nat) {k_l4 : Int → List Item → Option (List (RV C))} {q_l4 : Int → List Item → Option (Bool)} (h_l4 : ∀ i_3 l_0, k_l4 i_3 l_0 = (q_l4 i_3 l_0).map w_law22_tiny) (i_3 : Int) (l_0 : List Item) : b_law22_tiny_l4 m (fun x0 => some (w_law22_tiny x0)) k_l4 i_3 l_0 = (b_law22_tiny_l4 m (fun x0 => some x0) q_l4 i_3 l_0).map w_law22_tiny := by
  simp only [b_law22_tiny_l4, cond_map, bind_map, map_none, map_some, h_l4]
noncomputable def law22_tiny_l4 (m : Nat) : Nat → Int → List Item → Option (Bool)
  | 0, _, _ => none
  | n + 1, i_3, l_0 => b_law22_tiny_l4 m (fun x0 => some x0) (fun i_3 l_0 => law22_tiny_l4 m n i_3 l_0) i_3 l_0
theorem L_law22_tiny_l4_eq (m : Nat) : ∀ (n : Nat) (i_3 : Int) (l_0 : List Item), L_law22_tiny_l4 m n i_3 l_0 = (law22_tiny_l4 m n i_3 l_0).map w_law22_tiny
  | 0, i_3, l_0 => by kernel_rfl
  | n + 1, i_3, l_0 => by
    rw [L_law22_tiny_l4_step]
    exact b_law22_tiny_l4_map m (fun i_3 l_0 => L_law22_tiny_l4_eq m n i_3 l_0) i_3 l_0
noncomputable def b_law22_tiny {R : Type} (m : Nat) (ret : Bool → Option R) (k_l4 : Int → List Item → Option R) (l_0 : List Item) : Option R :=
 bif decide ((l_0.length : Int) > 12) then
 ret false
 else
 k_l4 0 l_0
theorem law22_tiny_pre (m : Nat) (l_0 : List Item) : funK Try.prog Ψ0 keep m 1 21 [(dRow 54).e l_0] = b_law22_tiny m (fun x0 => some (w_law22_tiny x0)) (fun i_3 l_0 => L_law22_tiny_l4 m m i_3 l_0) l_0 := by kernel_rfl
theorem b_law22_tiny_map (m : Nat) {k_l4 : Int → List Item → Option (List (RV C))} {q_l4 : Int → List Item → Option (Bool)} (h_l4 : ∀ i_3 l_0, k_l4 i_3 l_0 = (q_l4 i_3 l_0).map w_law22_tiny) (l_0 : List Item) : b_law22_tiny m (fun x0 => some (w_law22_tiny x0)) k_l4 l_0 = (b_law22_tiny m (fun x0 => some x0) q_l4 l_0).map w_law22_tiny := by
  simp only [b_law22_tiny, cond_map, bind_map, map_none, map_some, h_l4]
noncomputable def law22_tiny (m : Nat) (l_0 : List Item) : Option (Bool) := b_law22_tiny m (fun x0 => some x0) (fun i_3 l_0 => law22_tiny_l4 m m i_3 l_0) l_0
theorem law22_tiny_fun (m : Nat) (l_0 : List Item) : funK Try.prog Ψ0 keep m 1 21 [(dRow 54).e l_0] = (law22_tiny m l_0).map w_law22_tiny := by
  rw [law22_tiny_pre]
  exact b_law22_tiny_map m (fun i_3 l_0 => L_law22_tiny_l4_eq m m i_3 l_0) l_0
noncomputable def K_law22_tiny (m : Nat) : KnownF C := mkK (dCons (dRow 54) dNil) (fun a => law22_tiny m a.1) w_law22_tiny
theorem K_law22_tiny_ok (m : Nat) : KnownAt C Try.prog 21 fun l => (K_law22_tiny m).run _ l some :=
  mkK_known good fit Ψ0_ok (keep := keep) (m := m) (d := 1) fun a => law22_tiny_fun m a.1
/-! ### signalbench/signalbenchref22.add -/
def w_ref22_add (b : List Run) : List (RV C) := [(dRow 59).e b]
noncomputable def b_ref22_add {R : Type} (m : Nat) (ret : List Run → Option R) (l_0 : List Run) (level_1 : Int) (ticks_2 : Int) : Option R :=
 bif ticks_2 == 0 then
 ret l_0
 else
 bif decide (IntKind.i64.wrap ((l_0.length : Int) - 1) ≥ 0) then
 bif decide (0 ≤ IntKind.i64.wrap ((l_0.length : Int) - 1)) then
 bif decide (IntKind.i64.wrap ((l_0.length : Int) - 1) < (l_0.length : Int)) then
 bif (l_0.getD (IntKind.i64.wrap ((l_0.length : Int) - 1)).toNat dflt_Run).Level == level_1 then
 bif decide (0 ≤ IntKind.i64.wrap ((l_0.length : Int) - 1)) then
 bif decide (IntKind.i64.wrap ((l_0.length : Int) - 1) ≤ (l_0.length : Int)) then
 bif decide (0 ≤ IntKind.i64.wrap ((l_0.length : Int) - 1)) then
 bif decide ((0 + (List.drop 0 (List.take (IntKind.i64.wrap ((l_0.length : Int) - 1)).toNat l_0)).length) * 16 ≤ 140737488355328) then
 bif decide (0 ≤ IntKind.i64.wrap ((l_0.length : Int) - 1)) then
 bif decide (IntKind.i64.wrap ((l_0.length : Int) - 1) < (l_0.length : Int)) then
 bif decide ((([] ++ List.drop 0 (List.take (IntKind.i64.wrap ((l_0.length : Int) - 1)).toNat l_0)).length + 1) * 16 ≤ 140737488355328) then
 ret ([] ++ List.drop 0 (List.take (IntKind.i64.wrap ((l_0.length : Int) - 1)).toNat l_0) ++ [Run.mk level_1 (IntKind.i64.wrap ((l_0.getD (IntKind.i64.wrap ((l_0.length : Int) - 1)).toNat dflt_Run).Ticks + ticks_2))])
 else
 none
 else
 none
 else
 none
 else
 none
 else
 none
 else
 none
 else
 none
 else
 bif decide ((l_0.length + 1) * 16 ≤ 140737488355328) then
 ret (l_0 ++ [Run.mk level_1 ticks_2])
 else
 none
 else
 none
 else
 none
 else
 bif decide ((l_0.length + 1) * 16 ≤ 140737488355328) then
 ret (l_0 ++ [Run.mk level_1 ticks_2])
 else
 none
theorem ref22_add_pre (m : Nat) (l_0 : List Run) (level_1 : Int) (ticks_2 : Int) : funE Try.prog Ψ0 keep m 1 46 [.row, .no, .no] [(dRow 59).e l_0, (dInt .i64).e level_1, (dInt .i64).e ticks_2] = b_ref22_add m (fun x0 => some (w_ref22_add x0)) l_0 level_1 ticks_2 := by kernel_rfl
theorem b_ref22_add_map (m : Nat) (l_0 : List Run) (level_1 : Int) (ticks_2 : Int) : b_ref22_add m (fun x0 => some (w_ref22_add x0)) l_0 level_1 ticks_2 = (b_ref22_add m (fun x0 => some x0) l_0 level_1 ticks_2).map w_ref22_add := by
  simp only [b_ref22_add, cond_map, bind_map, map_none, map_some]
noncomputable def ref22_add (m : Nat) (l_0 : List Run) (level_1 : Int) (ticks_2 : Int) : Option (List Run) := b_ref22_add m (fun x0 => some x0) l_0 level_1 ticks_2
theorem ref22_add_fun (m : Nat) (l_0 : List Run) (level_1 : Int) (ticks_2 : Int) : funE Try.prog Ψ0 keep m 1 46 [.row, .no, .no] [(dRow 59).e l_0, (dInt .i64).e level_1, (dInt .i64).e ticks_2] = (ref22_add m l_0 level_1 ticks_2).map w_ref22_add := by
  rw [ref22_add_pre]
  exact b_ref22_add_map m l_0 level_1 ticks_2
noncomputable def K_ref22_add (m : Nat) : KnownF C := mkE [.row, .no, .no] (dCons (dRow 59) (dCons (dInt .i64) (dCons (dInt .i64) dNil))) (fun a => ref22_add m a.1 a.2.1 a.2.2.1) w_ref22_add
theorem K_ref22_add_ok (m : Nat) : KnownAtE C Try.prog 46 [.row, .no, .no] fun l => (K_ref22_add m).run _ l some :=
  mkE_known good fit Ψ0_ok (keep := keep) (m := m) (d := 1) fun a => ref22_add_fun m a.1 a.2.1 a.2.2.1
/-! ### signalbench/signalbenchref22.samples -/
noncomputable def Ψ_ref22_samples (m : Nat) : Known C := fun f => match f with
  | 54 => some (K_ref22_ones m)
  | 35 => some (K_ref22_total m)
  | _ => none
theorem Ψ_ref22_samples_ok (m : Nat) : KnownOk C Try.prog (Ψ_ref22_samples m) := by
  intro f φ h
  unfold Ψ_ref22_samples at h
  split at h
  · injection h with h; subst h; exact K_ref22_ones_ok m
  · injection h with h; subst h; exact K_ref22_total_ok m
  · cases h
def w_ref22_samples (b : Int) : List (RV C) := [(dInt .i64).e b]
noncomputable def b_ref22_samples {R : Type} (m : Nat) (ret : Int → Option R) (c_0 : Uart) (x_1 : Item) : Option R :=
 bif x_1.Aux == 1 then
 ret 0
 else
 bif c_0.Parity != 0 then
 ((ref22_ones m x_1.Value).bind fun r0 =>
 bif r0.tmod 2 != IntKind.i64.wrap (c_0.Parity - 1) then
 (bif decide (IntKind.i64.wrap (1 + c_0.Bits) < 0) then
 none
 else
 bif decide (c_0.Stop < 0) then
 none
 else
 (ref22_total m c_0).bind fun r1 =>
 bif decide (IntKind.i64.wrap (r1 - c_0.Stop) < 0) then
 none
 else
 ret (IntKind.i64.wrap (IntKind.i64.wrap (IntKind.i64.wrap (x_1.Value * 2) + IntKind.i64.wrap (1 * 2 ^ min (IntKind.i64.wrap (1 + c_0.Bits)).toNat 64)) + IntKind.i64.wrap (IntKind.i64.wrap (IntKind.i64.wrap (1 * 2 ^ min c_0.Stop.toNat 64) - 1) * 2 ^ min (IntKind.i64.wrap (r1 - c_0.Stop)).toNat 64))))
 else
 bif decide (c_0.Stop < 0) then
 none
 else
 (ref22_total m c_0).bind fun r2 =>
 bif decide (IntKind.i64.wrap (r2 - c_0.Stop) < 0) then
 none
 else
 ret (IntKind.i64.wrap (IntKind.i64.wrap (x_1.Value * 2) + IntKind.i64.wrap (IntKind.i64.wrap (IntKind.i64.wrap (1 * 2 ^ min c_0.Stop.toNat 64) - 1) * 2 ^ min (IntKind.i64.wrap (r2 - c_0.Stop)).toNat 64))))
 else
 bif decide (c_0.Stop < 0) then
 none
 else
 (ref22_total m c_0).bind fun r3 =>
 bif decide (IntKind.i64.wrap (r3 - c_0.Stop) < 0) then
 none
 else
 ret (IntKind.i64.wrap (IntKind.i64.wrap (x_1.Value * 2) + IntKind.i64.wrap (IntKind.i64.wrap (IntKind.i64.wrap (1 * 2 ^ min c_0.Stop.toNat 64) - 1) * 2 ^ min (IntKind.i64.wrap (r3 - c_0.Stop)).toNat 64)))
theorem ref22_samples_pre (m : Nat) (c_0 : Uart) (x_1 : Item) : funK Try.prog (Ψ_ref22_samples m) keep m 1 62 [(dS of_Uart cells_Uart of_Uart_ok).e c_0, (dS of_Item cells_Item of_Item_ok).e x_1] = b_ref22_samples m (fun x0 => some (w_ref22_samples x0)) c_0 x_1 := by kernel_rfl
theorem b_ref22_samples_map (m : Nat) (c_0 : Uart) (x_1 : Item) : b_ref22_samples m (fun x0 => some (w_ref22_samples x0)) c_0 x_1 = (b_ref22_samples m (fun x0 => some x0) c_0 x_1).map w_ref22_samples := by
  simp only [b_ref22_samples, cond_map, bind_map, map_none, map_some]
noncomputable def ref22_samples (m : Nat) (c_0 : Uart) (x_1 : Item) : Option (Int) := b_ref22_samples m (fun x0 => some x0) c_0 x_1
theorem ref22_samples_fun (m : Nat) (c_0 : Uart) (x_1 : Item) : funK Try.prog (Ψ_ref22_samples m) keep m 1 62 [(dS of_Uart cells_Uart of_Uart_ok).e c_0, (dS of_Item cells_Item of_Item_ok).e x_1] = (ref22_samples m c_0 x_1).map w_ref22_samples := by
  rw [ref22_samples_pre]
  exact b_ref22_samples_map m c_0 x_1
noncomputable def K_ref22_samples (m : Nat) : KnownF C := mkK (dCons (dS of_Uart cells_Uart of_Uart_ok) (dCons (dS of_Item cells_Item of_Item_ok) dNil)) (fun a => ref22_samples m a.1 a.2.1) w_ref22_samples
theorem K_ref22_samples_ok (m : Nat) : KnownAt C Try.prog 62 fun l => (K_ref22_samples m).run _ l some :=
  mkK_known good fit (Ψ_ref22_samples_ok m) (keep := keep) (m := m) (d := 1) fun a => ref22_samples_fun m a.1 a.2.1
/-! ### signalbench/signalbenchref22.faulty -/
noncomputable def Ψ_ref22_faulty (m : Nat) : Known C := fun f => match f with
  | 62 => some (K_ref22_samples m)
  | 35 => some (K_ref22_total m)
  | _ => none
theorem Ψ_ref22_faulty_ok (m : Nat) : KnownOk C Try.prog (Ψ_ref22_faulty m) := by
  intro f φ h
  unfold Ψ_ref22_faulty at h
  split at h
  · injection h with h; subst h; exact K_ref22_samples_ok m
  · injection h with h; subst h; exact K_ref22_total_ok m
  · cases h
def w_ref22_faulty (b : Int) : List (RV C) := [(dInt .i64).e b]
noncomputable def b_ref22_faulty {R : Type} (m : Nat) (ret : Int → Option R) (c_0 : Uart) (x_1 : Item) : Option R :=
 (ref22_samples m c_0 x_1).bind fun r0 =>
 bif x_1.Fault == 1 then
 ((ref22_total m c_0).bind fun r1 =>
 bif decide (IntKind.i64.wrap (r1 - 1) < 0) then
 none
 else
 ret (IntKind.i64.wrap (r0 - IntKind.i64.wrap (1 * 2 ^ min (IntKind.i64.wrap (r1 - 1)).toNat 64))))
 else
 bif x_1.Fault == 2 then
 bif decide (IntKind.i64.wrap (1 + c_0.Bits) < 0) then
 none
 else
 ret (IntKind.i64.wrap (((BitVec.ofInt 64 r0 ^^^ BitVec.ofInt 64 (IntKind.i64.wrap (1 * 2 ^ min (IntKind.i64.wrap (1 + c_0.Bits)).toNat 64))).toNat : Int)))
 else
 ret r0
theorem ref22_faulty_pre (m : Nat) (c_0 : Uart) (x_1 : Item) : funK Try.prog (Ψ_ref22_faulty m) keep m 1 49 [(dS of_Uart cells_Uart of_Uart_ok).e c_0, (dS of_Item cells_Item of_Item_ok).e x_1] = b_ref22_faulty m (fun x0 => some (w_ref22_faulty x0)) c_0 x_1 := by kernel_rfl
theorem b_ref22_faulty_map (m : Nat) (c_0 : Uart) (x_1 : Item) : b_ref22_faulty m (fun x0 => some (w_ref22_faulty x0)) c_0 x_1 = (b_ref22_faulty m (fun x0 => some x0) c_0 x_1).map w_ref22_faulty := by
  simp only [b_ref22_faulty, cond_map, bind_map, map_none, map_some]
noncomputable def ref22_faulty (m : Nat) (c_0 : Uart) (x_1 : Item) : Option (Int) := b_ref22_faulty m (fun x0 => some x0) c_0 x_1
theorem ref22_faulty_fun (m : Nat) (c_0 : Uart) (x_1 : Item) : funK Try.prog (Ψ_ref22_faulty m) keep m 1 49 [(dS of_Uart cells_Uart of_Uart_ok).e c_0, (dS of_Item cells_Item of_Item_ok).e x_1] = (ref22_faulty m c_0 x_1).map w_ref22_faulty := by
  rw [ref22_faulty_pre]
  exact b_ref22_faulty_map m c_0 x_1
noncomputable def K_ref22_faulty (m : Nat) : KnownF C := mkK (dCons (dS of_Uart cells_Uart of_Uart_ok) (dCons (dS of_Item cells_Item of_Item_ok) dNil)) (fun a => ref22_faulty m a.1 a.2.1) w_ref22_faulty
theorem K_ref22_faulty_ok (m : Nat) : KnownAt C Try.prog 49 fun l => (K_ref22_faulty m).run _ l some :=
  mkK_known good fit (Ψ_ref22_faulty_ok m) (keep := keep) (m := m) (d := 1) fun a => ref22_faulty_fun m a.1 a.2.1
/-! ### signalbench/signalbenchref22.wrong -/
noncomputable def Ψ_ref22_wrong (m : Nat) : Known C := fun f => match f with
  | 49 => some (K_ref22_faulty m)
  | _ => none
theorem Ψ_ref22_wrong_ok (m : Nat) : KnownOk C Try.prog (Ψ_ref22_wrong m) := by
  intro f φ h
  unfold Ψ_ref22_wrong at h
  split at h
  · injection h with h; subst h; exact K_ref22_faulty_ok m
  · cases h
def w_ref22_wrong (b : Int) : List (RV C) := [(dInt .i64).e b]
noncomputable def b_ref22_wrong {R : Type} (m : Nat) (ret : Int → Option R) (c_0 : Uart) (x_1 : Item) : Option R :=
 bif decide (x_1.Gap < 0) then
 ret 1
 else
 bif decide (x_1.Gap > 1048576) then
 ret 1
 else
 bif decide ((x_1.Data.size : Int) > 4096) then
 ret 6
 else
 bif decide (x_1.Aux < 0) then
 ret 2
 else
 bif decide (x_1.Aux > 1) then
 ret 2
 else
 bif decide (x_1.Value < 0) then
 ret 2
 else
 bif decide (c_0.Bits < 0) then
 none
 else
 bif decide (x_1.Value ≥ IntKind.i64.wrap (1 * 2 ^ min c_0.Bits.toNat 64)) then
 ret 2
 else
 bif decide (x_1.Fault < 0) then
 ret 1
 else
 bif decide (x_1.Fault > 2) then
 ret 1
 else
 bif x_1.Aux == 1 then
 (bif x_1.Value != 0 then
 ret 1
 else
 bif x_1.Fault != 0 then
 ret 1
 else
 bif x_1.Fault == 2 then
 (bif c_0.Parity == 0 then
 ret 17
 else
 bif x_1.Fault == 1 then
 ((ref22_faulty m c_0 x_1).bind fun r0 =>
 bif r0 == 0 then
 ret 17
 else
 bif !x_1.Data.toList == (bs []).toList then
 ret 1
 else
 ret 0)
 else
 bif !x_1.Data.toList == (bs []).toList then
 ret 1
 else
 ret 0)
 else
 bif x_1.Fault == 1 then
 ((ref22_faulty m c_0 x_1).bind fun r1 =>
 bif r1 == 0 then
 ret 17
 else
 bif !x_1.Data.toList == (bs []).toList then
 ret 1
 else
 ret 0)
 else
 bif !x_1.Data.toList == (bs []).toList then
 ret 1
 else
 ret 0)
 else
 bif x_1.Fault == 2 then
 (bif c_0.Parity == 0 then
 ret 17
 else
 bif x_1.Fault == 1 then
 ((ref22_faulty m c_0 x_1).bind fun r2 =>
 bif r2 == 0 then
 ret 17
 else
 bif !x_1.Data.toList == (bs []).toList then
 ret 1
 else
 ret 0)
 else
 bif !x_1.Data.toList == (bs []).toList then
 ret 1
 else
 ret 0)
 else
 bif x_1.Fault == 1 then
 ((ref22_faulty m c_0 x_1).bind fun r3 =>
 bif r3 == 0 then
 ret 17
 else
 bif !x_1.Data.toList == (bs []).toList then
 ret 1
 else
 ret 0)
 else
 bif !x_1.Data.toList == (bs []).toList then
 ret 1
 else
 ret 0
theorem ref22_wrong_pre (m : Nat) (c_0 : Uart) (x_1 : Item) : funK Try.prog (Ψ_ref22_wrong m) keep m 1 48 [(dS of_Uart cells_Uart of_Uart_ok).e c_0, (dS of_Item cells_Item of_Item_ok).e x_1] = b_ref22_wrong m (fun x0 => some (w_ref22_wrong x0)) c_0 x_1 := by kernel_rfl
theorem b_ref22_wrong_map (m : Nat) (c_0 : Uart) (x_1 : Item) : b_ref22_wrong m (fun x0 => some (w_ref22_wrong x0)) c_0 x_1 = (b_ref22_wrong m (fun x0 => some x0) c_0 x_1).map w_ref22_wrong := by
  simp only [b_ref22_wrong, cond_map, bind_map, map_none, map_some]
noncomputable def ref22_wrong (m : Nat) (c_0 : Uart) (x_1 : Item) : Option (Int) := b_ref22_wrong m (fun x0 => some x0) c_0 x_1
theorem ref22_wrong_fun (m : Nat) (c_0 : Uart) (x_1 : Item) : funK Try.prog (Ψ_ref22_wrong m) keep m 1 48 [(dS of_Uart cells_Uart of_Uart_ok).e c_0, (dS of_Item cells_Item of_Item_ok).e x_1] = (ref22_wrong m c_0 x_1).map w_ref22_wrong := by
  rw [ref22_wrong_pre]
  exact b_ref22_wrong_map m c_0 x_1
noncomputable def K_ref22_wrong (m : Nat) : KnownF C := mkK (dCons (dS of_Uart cells_Uart of_Uart_ok) (dCons (dS of_Item cells_Item of_Item_ok) dNil)) (fun a => ref22_wrong m a.1 a.2.1) w_ref22_wrong
theorem K_ref22_wrong_ok (m : Nat) : KnownAt C Try.prog 48 fun l => (K_ref22_wrong m).run _ l some :=
  mkK_known good fit (Ψ_ref22_wrong_ok m) (keep := keep) (m := m) (d := 1) fun a => ref22_wrong_fun m a.1 a.2.1
/-! ### signalbench/signalbenchref22.fitting -/
def w_ref22_fitting (b : List Run × Int) : List (RV C) := [(dRow 59).e b.1, (dInt .i64).e b.2]
noncomputable def Q_ref22_fitting_5 (m : Nat) : St C → (Exit → St C → Option (List (RV C))) → Option (List (RV C)) := fun σ k => codeK Try.prog Ψ0 (callK Try.prog Ψ0 keep m 0) (keep 50) m (subC body50 [.r, .r, .r, .l, .r, .b, .o]) σ k
noncomputable def KL_ref22_fitting_5 (m : Nat) : Exit → St C → Option (List (RV C)) := contK Try.prog Ψ0 (callK Try.prog Ψ0 keep m 0) (keep 50) m body50 [.r, .r, .r, .l, .r, .b, .o] (leaveK Try.prog Try.f50.results.toList (finE Try.prog [.row] Try.f50.resultTypes.toList))
noncomputable def L_ref22_fitting_l5 (m n : Nat) (total_4 : Int) (i_5 : Int) (l_0 : List Run) : Option (List (RV C)) := iterK (Q_ref22_fitting_5 m) (St.norm (keep 50 5)) n ({ T := [.fl (.one (.sl 0)), .dead, .dead, .dead, .fl (.one (.int .i64 total_4)), .fl (.one (.int .i64 i_5))] ++ List.replicate 19 .dead, F := [[.dead]], H := [.row 59 true l_0] } : St C) (KL_ref22_fitting_5 m)
noncomputable def b_ref22_fitting_l5 {R : Type} (m : Nat) (ret : List Run → Int → Option R) (k_l5 : Int → Int → List Run → Option R) (total_4 : Int) (i_5 : Int) (l_0 : List Run) : Option R :=
 bif decide (i_5 < (l_0.length : Int)) then
 bif decide (0 ≤ i_5) then
 bif decide (i_5 < (l_0.length : Int)) then
 k_l5 (IntKind.i64.wrap (total_4 + (l_0.getD i_5.toNat dflt_Run).Ticks)) (IntKind.i64.wrap (i_5 + 1)) l_0
 else
 none
 else
 none
 else
 bif decide (total_4 > 1099511627776) then
 ret [] 2
 else
 ret l_0 0
theorem L_ref22_fitting_l5_step (m n : Nat) (total_4 : Int) (i_5 : Int) (l_0 : List Run) : L_ref22_fitting_l5 m (n + 1) total_4 i_5 l_0 = b_ref22_fitting_l5 m (fun x0 x1 => some (w_ref22_fitting (x0, x1))) (fun total_4 i_5 l_0 => L_ref22_fitting_l5 m n total_4 i_5 l_0) total_4 i_5 l_0 := by kernel_rfl
theorem b_ref22_fitting_l5_map (m : Nat) {k_l5 : Int → Int → List Run → Option (List (RV C))} {q_l5 : Int → Int → List Run → Option (List Run × Int)} (h_l5 : ∀ total_4 i_5 l_0, k_l5 total_4 i_5 l_0 = (q_l5 total_4 i_5 l_0).map w_ref22_fitting) (total_4 : Int) (i_5 : Int) (l_0 : List Run) : b_ref22_fitting_l5 m (fun x0 x1 => some (w_ref22_fitting (x0, x1))) k_l5 total_4 i_5 l_0 = (b_ref22_fitting_l5 m (fun x0 x1 => some (x0, x1)) q_l5 total_4 i_5 l_0).map w_ref22_fitting := by
  simp only [b_ref22_fitting_l5, cond_map, bind_map, map_none, map_some, h_l5]
noncomputable def ref22_fitting_l5 (m : Nat) : Nat → Int → Int → List Run → Option (List Run × Int)
  | 0, _, _, _ => none
  | n + 1, total_4, i_5, l_0 => b_ref22_fitting_l5 m (fun x0 x1 => some (x0, x1)) (fun total_4 i_5 l_0 => ref22_fitting_l5 m n total_4 i_5 l_0) total_4 i_5 l_0
theorem L_ref22_fitting_l5_eq (m : Nat) : ∀ (n : Nat) (total_4 : Int) (i_5 : Int) (l_0 : List Run), L_ref22_fitting_l5 m n total_4 i_5 l_0 = (ref22_fitting_l5 m n total_4 i_5 l_0).map w_ref22_fitting
  | 0, total_4, i_5, l_0 => by kernel_rfl
  | n + 1, total_4, i_5, l_0 => by
    rw [L_ref22_fitting_l5_step]
    exact b_ref22_fitting_l5_map m (fun total_4 i_5 l_0 => L_ref22_fitting_l5_eq m n total_4 i_5 l_0) total_4 i_5 l_0
noncomputable def b_ref22_fitting {R : Type} (m : Nat) (ret : List Run → Int → Option R) (k_l5 : Int → Int → List Run → Option R) (l_0 : List Run) : Option R :=
 bif decide ((l_0.length : Int) > 262144) then
 ret [] 6
 else
 k_l5 0 0 l_0
theorem ref22_fitting_pre (m : Nat) (l_0 : List Run) : funE Try.prog Ψ0 keep m 1 50 [.row] [(dRow 59).e l_0] = b_ref22_fitting m (fun x0 x1 => some (w_ref22_fitting (x0, x1))) (fun total_4 i_5 l_0 => L_ref22_fitting_l5 m m total_4 i_5 l_0) l_0 := by kernel_rfl
theorem b_ref22_fitting_map (m : Nat) {k_l5 : Int → Int → List Run → Option (List (RV C))} {q_l5 : Int → Int → List Run → Option (List Run × Int)} (h_l5 : ∀ total_4 i_5 l_0, k_l5 total_4 i_5 l_0 = (q_l5 total_4 i_5 l_0).map w_ref22_fitting) (l_0 : List Run) : b_ref22_fitting m (fun x0 x1 => some (w_ref22_fitting (x0, x1))) k_l5 l_0 = (b_ref22_fitting m (fun x0 x1 => some (x0, x1)) q_l5 l_0).map w_ref22_fitting := by
  simp only [b_ref22_fitting, cond_map, bind_map, map_none, map_some, h_l5]
noncomputable def ref22_fitting (m : Nat) (l_0 : List Run) : Option (List Run × Int) := b_ref22_fitting m (fun x0 x1 => some (x0, x1)) (fun total_4 i_5 l_0 => ref22_fitting_l5 m m total_4 i_5 l_0) l_0
theorem ref22_fitting_fun (m : Nat) (l_0 : List Run) : funE Try.prog Ψ0 keep m 1 50 [.row] [(dRow 59).e l_0] = (ref22_fitting m l_0).map w_ref22_fitting := by
  rw [ref22_fitting_pre]
  exact b_ref22_fitting_map m (fun total_4 i_5 l_0 => L_ref22_fitting_l5_eq m m total_4 i_5 l_0) l_0
noncomputable def K_ref22_fitting (m : Nat) : KnownF C := mkE [.row] (dCons (dRow 59) dNil) (fun a => ref22_fitting m a.1) w_ref22_fitting
theorem K_ref22_fitting_ok (m : Nat) : KnownAtE C Try.prog 50 [.row] fun l => (K_ref22_fitting m).run _ l some :=
  mkE_known good fit Ψ0_ok (keep := keep) (m := m) (d := 1) fun a => ref22_fitting_fun m a.1
/-! ### signalbench/signalbenchref22.Encode -/
noncomputable def Ψ_ref22_Encode (m : Nat) : Known C := fun f => match f with
  | 17 => some (K_ref22_Check m)
  | 47 => some (K_ref22_boundary m)
  | 46 => some (K_ref22_add m)
  | 48 => some (K_ref22_wrong m)
  | 49 => some (K_ref22_faulty m)
  | 35 => some (K_ref22_total m)
  | 50 => some (K_ref22_fitting m)
  | _ => none
theorem Ψ_ref22_Encode_ok (m : Nat) : KnownOk C Try.prog (Ψ_ref22_Encode m) := by
  intro f φ h
  unfold Ψ_ref22_Encode at h
  split at h
  · injection h with h; subst h; exact K_ref22_Check_ok m
  · injection h with h; subst h; exact K_ref22_boundary_ok m
  · injection h with h; subst h; exact K_ref22_add_ok m
  · injection h with h; subst h; exact K_ref22_wrong_ok m
  · injection h with h; subst h; exact K_ref22_faulty_ok m
  · injection h with h; subst h; exact K_ref22_total_ok m
  · injection h with h; subst h; exact K_ref22_fitting_ok m
  · cases h
def w_ref22_Encode (b : List Run × Int) : List (RV C) := [(dRow 59).e b.1, (dInt .i64).e b.2]
noncomputable def Q_ref22_Encode_8 (m : Nat) : St C → (Exit → St C → Option (List (RV C))) → Option (List (RV C)) := fun σ k => codeK Try.prog (Ψ_ref22_Encode m) (callK Try.prog (Ψ_ref22_Encode m) keep m 0) (keep 23) m (subC body23 [.r, .r, .r, .r, .l, .r, .b, .o]) σ k
noncomputable def KL_ref22_Encode_8 (m : Nat) : Exit → St C → Option (List (RV C)) := contK Try.prog (Ψ_ref22_Encode m) (callK Try.prog (Ψ_ref22_Encode m) keep m 0) (keep 23) m body23 [.r, .r, .r, .r, .l, .r, .b, .o] (leaveK Try.prog Try.f23.results.toList (finK Try.prog Try.f23.resultTypes.toList))
noncomputable def Q_ref22_Encode_16 (m : Nat) : St C → (Exit → St C → Option (List (RV C))) → Option (List (RV C)) := fun σ k => codeK Try.prog (Ψ_ref22_Encode m) (callK Try.prog (Ψ_ref22_Encode m) keep m 0) (keep 23) m (subC (subC body23 [.r, .r, .r, .r, .l, .r, .b, .o]) [.r, .l, .b, .r, .r, .r, .l, .r, .b, .o]) σ k
noncomputable def KL_ref22_Encode_16 (m : Nat) (n8 : Nat) : Exit → St C → Option (List (RV C)) := contK Try.prog (Ψ_ref22_Encode m) (callK Try.prog (Ψ_ref22_Encode m) keep m 0) (keep 23) m (subC body23 [.r, .r, .r, .r, .l, .r, .b, .o]) [.r, .l, .b, .r, .r, .r, .l, .r, .b, .o] (rndK (Q_ref22_Encode_8 m) (St.norm (keep 23 8)) n8 (KL_ref22_Encode_8 m))
noncomputable def L_ref22_Encode_l8 (m n : Nat) (i_8 : Int) (l_1 : List Item) (c1 : Uart) (out_7 : List Run) : Option (List (RV C)) := iterK (Q_ref22_Encode_8 m) (St.norm (keep 23 8)) n ({ T := [.dead, .fl (.one (.sl 0)), .fl (.one (.ptr 1 0)), .dead, .dead, .dead, .dead, .fl (.one (.sl 2)), .fl (.one (.int .i64 i_8))] ++ List.replicate 95 .dead, F := [[]], H := [.row 54 false l_1, .box 25 (cells_Uart c1), .row 59 true out_7] } : St C) (KL_ref22_Encode_8 m)
noncomputable def L_ref22_Encode_l16 (m n8 n : Nat) (i_8 : Int) (bits_10 : Int) (n_11 : Int) (k_12 : Int) (l_1 : List Item) (c1 : Uart) (out_7 : List Run) : Option (List (RV C)) := iterK (Q_ref22_Encode_16 m) (St.norm (keep 23 16)) n ({ T := [.dead, .fl (.one (.sl 0)), .fl (.one (.ptr 1 0)), .dead, .dead, .dead, .dead, .fl (.one (.sl 2)), .fl (.one (.int .i64 i_8)), .dead, .fl (.one (.int .i64 bits_10)), .fl (.one (.int .i64 n_11)), .fl (.one (.int .i64 k_12))] ++ List.replicate 91 .dead, F := [[]], H := [.row 54 false l_1, .box 25 (cells_Uart c1), .row 59 true out_7] } : St C) (KL_ref22_Encode_16 m n8)
noncomputable def b_ref22_Encode_l16 {R : Type} (m : Nat) (ret : List Run → Int → Option R) (k_l16 : Int → Int → Int → Int → List Item → Uart → List Run → Option R) (k_l8 : Int → List Item → Uart → List Run → Option R) (i_8 : Int) (bits_10 : Int) (n_11 : Int) (k_12 : Int) (l_1 : List Item) (c1 : Uart) (out_7 : List Run) : Option R :=
 bif decide (k_12 < n_11) then
 (bif decide (k_12 < 0) then
 none
 else
 (ref22_boundary m c1 (IntKind.i64.wrap (k_12 + 1))).bind fun r0 =>
 (ref22_boundary m c1 k_12).bind fun r1 =>
 (ref22_add m out_7 ((bits_10.fdiv (2 ^ min k_12.toNat 64)).tmod 2) (IntKind.i64.wrap (r0 - r1))).bind fun r2 =>
 k_l16 i_8 bits_10 n_11 (IntKind.i64.wrap (k_12 + 1)) l_1 c1 r2)
 else
 bif decide (0 ≤ i_8) then
 (bif decide (i_8 < (l_1.length : Int)) then
 (bif (l_1.getD i_8.toNat dflt_Item).Aux == 1 then
 ((ref22_boundary m c1 (IntKind.i64.wrap (n_11 + 1))).bind fun r3 =>
 (ref22_boundary m c1 n_11).bind fun r4 =>
 (ref22_add m out_7 1 (IntKind.i64.wrap (r3 - r4))).bind fun r5 =>
 k_l8 (IntKind.i64.wrap (i_8 + 1)) l_1 c1 r5)
 else
 bif decide (0 ≤ i_8) then
 (bif decide (i_8 < (l_1.length : Int)) then
 (bif (l_1.getD i_8.toNat dflt_Item).Fault == 1 then
 ((ref22_boundary m c1 (IntKind.i64.wrap (n_11 + 1))).bind fun r6 =>
 (ref22_boundary m c1 n_11).bind fun r7 =>
 (ref22_add m out_7 1 (IntKind.i64.wrap (r6 - r7))).bind fun r8 =>
 k_l8 (IntKind.i64.wrap (i_8 + 1)) l_1 c1 r8)
 else
 k_l8 (IntKind.i64.wrap (i_8 + 1)) l_1 c1 out_7)
 else
 none)
 else
 none)
 else
 none)
 else
 none
theorem L_ref22_Encode_l16_step (m n8 n : Nat) (i_8 : Int) (bits_10 : Int) (n_11 : Int) (k_12 : Int) (l_1 : List Item) (c1 : Uart) (out_7 : List Run) : L_ref22_Encode_l16 m n8 (n + 1) i_8 bits_10 n_11 k_12 l_1 c1 out_7 = b_ref22_Encode_l16 m (fun x0 x1 => some (w_ref22_Encode (x0, x1))) (fun i_8 bits_10 n_11 k_12 l_1 c1 out_7 => L_ref22_Encode_l16 m n8 n i_8 bits_10 n_11 k_12 l_1 c1 out_7) (fun i_8 l_1 c1 out_7 => L_ref22_Encode_l8 m n8 i_8 l_1 c1 out_7) i_8 bits_10 n_11 k_12 l_1 c1 out_7 := by kernel_rfl
theorem b_ref22_Encode_l16_map (m : Nat) {k_l16 : Int → Int → Int → Int → List Item → Uart → List Run → Option (List (RV C))} {q_l16 : Int → Int → Int → Int → List Item → Uart → List Run → Option (List Run × Int)} (h_l16 : ∀ i_8 bits_10 n_11 k_12 l_1 c1 out_7, k_l16 i_8 bits_10 n_11 k_12 l_1 c1 out_7 = (q_l16 i_8 bits_10 n_11 k_12 l_1 c1 out_7).map w_ref22_Encode) {k_l8 : Int → List Item → Uart → List Run → Option (List (RV C))} {q_l8 : Int → List Item → Uart → List Run → Option (List Run × Int)} (h_l8 : ∀ i_8 l_1 c1 out_7, k_l8 i_8 l_1 c1 out_7 = (q_l8 i_8 l_1 c1 out_7).map w_ref22_Encode) (i_8 : Int) (bits_10 : Int) (n_11 : Int) (k_12 : Int) (l_1 : List Item) (c1 : Uart) (out_7 : List Run) : b_ref22_Encode_l16 m (fun x0 x1 => some (w_ref22_Encode (x0, x1))) k_l16 k_l8 i_8 bits_10 n_11 k_12 l_1 c1 out_7 = (b_ref22_Encode_l16 m (fun x0 x1 => some (x0, x1)) q_l16 q_l8 i_8 bits_10 n_11 k_12 l_1 c1 out_7).map w_ref22_Encode := by
  simp only [b_ref22_Encode_l16, cond_map, bind_map, map_none, map_some, h_l16, h_l8]
noncomputable def ref22_Encode_l16 (m : Nat) (q_l8 : Int → List Item → Uart → List Run → Option (List Run × Int)) : Nat → Int → Int → Int → Int → List Item → Uart → List Run → Option (List Run × Int)
  | 0, _, _, _, _, _, _, _ => none
  | n + 1, i_8, bits_10, n_11, k_12, l_1, c1, out_7 => b_ref22_Encode_l16 m (fun x0 x1 => some (x0, x1)) (fun i_8 bits_10 n_11 k_12 l_1 c1 out_7 => ref22_Encode_l16 m q_l8 n i_8 bits_10 n_11 k_12 l_1 c1 out_7) q_l8 i_8 bits_10 n_11 k_12 l_1 c1 out_7
theorem L_ref22_Encode_l16_eq (m n8 : Nat) (q_l8 : Int → List Item → Uart → List Run → Option (List Run × Int)) (h_l8 : ∀ i_8 l_1 c1 out_7, L_ref22_Encode_l8 m n8 i_8 l_1 c1 out_7 = (q_l8 i_8 l_1 c1 out_7).map w_ref22_Encode) : ∀ (n : Nat) (i_8 : Int) (bits_10 : Int) (n_11 : Int) (k_12 : Int) (l_1 : List Item) (c1 : Uart) (out_7 : List Run), L_ref22_Encode_l16 m n8 n i_8 bits_10 n_11 k_12 l_1 c1 out_7 = (ref22_Encode_l16 m q_l8 n i_8 bits_10 n_11 k_12 l_1 c1 out_7).map w_ref22_Encode
  | 0, i_8, bits_10, n_11, k_12, l_1, c1, out_7 => by kernel_rfl
  | n + 1, i_8, bits_10, n_11, k_12, l_1, c1, out_7 => by
    rw [L_ref22_Encode_l16_step]
    exact b_ref22_Encode_l16_map m (fun i_8 bits_10 n_11 k_12 l_1 c1 out_7 => L_ref22_Encode_l16_eq m n8 q_l8 h_l8 n i_8 bits_10 n_11 k_12 l_1 c1 out_7) h_l8 i_8 bits_10 n_11 k_12 l_1 c1 out_7
noncomputable def b_ref22_Encode_l8 {R : Type} (m : Nat) (ret : List Run → Int → Option R) (k_l16 : Int → Int → Int → Int → List Item → Uart → List Run → Option R) (i_8 : Int) (l_1 : List Item) (c1 : Uart) (out_7 : List Run) : Option R :=
 bif decide (i_8 < (l_1.length : Int)) then
 (bif decide (0 ≤ i_8) then
 (bif decide (i_8 < (l_1.length : Int)) then
 ((ref22_wrong m c1 (l_1.getD i_8.toNat dflt_Item)).bind fun r0 =>
 bif r0 != 0 then
 ret [] r0
 else
 bif decide (0 ≤ i_8) then
 (bif decide (i_8 < (l_1.length : Int)) then
 ((ref22_add m out_7 1 (l_1.getD i_8.toNat dflt_Item).Gap).bind fun r1 =>
 bif decide (0 ≤ i_8) then
 (bif decide (i_8 < (l_1.length : Int)) then
 ((ref22_faulty m c1 (l_1.getD i_8.toNat dflt_Item)).bind fun r2 =>
 (ref22_total m c1).bind fun r3 =>
 k_l16 i_8 r2 r3 0 l_1 c1 r1)
 else
 none)
 else
 none)
 else
 none)
 else
 none)
 else
 none)
 else
 none)
 else
 (ref22_boundary m c1 2).bind fun r4 =>
 (ref22_add m out_7 1 r4).bind fun r5 =>
 (ref22_fitting m r5).bind fun r6 =>
 ret r6.fst r6.snd
theorem L_ref22_Encode_l8_step (m n : Nat) (i_8 : Int) (l_1 : List Item) (c1 : Uart) (out_7 : List Run) : L_ref22_Encode_l8 m (n + 1) i_8 l_1 c1 out_7 = b_ref22_Encode_l8 m (fun x0 x1 => some (w_ref22_Encode (x0, x1))) (fun i_8 bits_10 n_11 k_12 l_1 c1 out_7 => L_ref22_Encode_l16 m n m i_8 bits_10 n_11 k_12 l_1 c1 out_7) i_8 l_1 c1 out_7 := by kernel_rfl
theorem b_ref22_Encode_l8_map (m : Nat) {k_l16 : Int → Int → Int → Int → List Item → Uart → List Run → Option (List (RV C))} {q_l16 : Int → Int → Int → Int → List Item → Uart → List Run → Option (List Run × Int)} (h_l16 : ∀ i_8 bits_10 n_11 k_12 l_1 c1 out_7, k_l16 i_8 bits_10 n_11 k_12 l_1 c1 out_7 = (q_l16 i_8 bits_10 n_11 k_12 l_1 c1 out_7).map w_ref22_Encode) (i_8 : Int) (l_1 : List Item) (c1 : Uart) (out_7 : List Run) : b_ref22_Encode_l8 m (fun x0 x1 => some (w_ref22_Encode (x0, x1))) k_l16 i_8 l_1 c1 out_7 = (b_ref22_Encode_l8 m (fun x0 x1 => some (x0, x1)) q_l16 i_8 l_1 c1 out_7).map w_ref22_Encode := by
  simp only [b_ref22_Encode_l8, cond_map, bind_map, map_none, map_some, h_l16]
noncomputable def ref22_Encode_l8 (m : Nat) : Nat → Int → List Item → Uart → List Run → Option (List Run × Int)
  | 0, _, _, _, _ => none
  | n + 1, i_8, l_1, c1, out_7 => b_ref22_Encode_l8 m (fun x0 x1 => some (x0, x1)) (fun i_8 bits_10 n_11 k_12 l_1 c1 out_7 => ref22_Encode_l16 m (fun i_8 l_1 c1 out_7 => ref22_Encode_l8 m n i_8 l_1 c1 out_7) m i_8 bits_10 n_11 k_12 l_1 c1 out_7) i_8 l_1 c1 out_7
theorem L_ref22_Encode_l8_eq (m : Nat) : ∀ (n : Nat) (i_8 : Int) (l_1 : List Item) (c1 : Uart) (out_7 : List Run), L_ref22_Encode_l8 m n i_8 l_1 c1 out_7 = (ref22_Encode_l8 m n i_8 l_1 c1 out_7).map w_ref22_Encode
  | 0, i_8, l_1, c1, out_7 => by kernel_rfl
  | n + 1, i_8, l_1, c1, out_7 => by
    rw [L_ref22_Encode_l8_step]
    exact b_ref22_Encode_l8_map m (fun i_8 bits_10 n_11 k_12 l_1 c1 out_7 => L_ref22_Encode_l16_eq m n (fun i_8 l_1 c1 out_7 => ref22_Encode_l8 m n i_8 l_1 c1 out_7) (fun i_8 l_1 c1 out_7 => L_ref22_Encode_l8_eq m n i_8 l_1 c1 out_7) m i_8 bits_10 n_11 k_12 l_1 c1 out_7) i_8 l_1 c1 out_7
noncomputable def b_ref22_Encode {R : Type} (m : Nat) (ret : List Run → Int → Option R) (k_l8 : Int → List Item → Uart → List Run → Option R) (c_0 : Uart) (l_1 : List Item) : Option R :=
 (ref22_Check m c_0).bind fun r0 =>
 bif r0 != 0 then
 ret [] r0
 else
 bif decide ((l_1.length : Int) > 1024) then
 ret [] 6
 else
 (ref22_boundary m c_0 2).bind fun r1 =>
 (ref22_add m [] 1 r1).bind fun r2 =>
 k_l8 0 l_1 c_0 r2
theorem ref22_Encode_pre (m : Nat) (c_0 : Uart) (l_1 : List Item) : funK Try.prog (Ψ_ref22_Encode m) keep m 1 23 [(dS of_Uart cells_Uart of_Uart_ok).e c_0, (dRow 54).e l_1] = b_ref22_Encode m (fun x0 x1 => some (w_ref22_Encode (x0, x1))) (fun i_8 l_1 c1 out_7 => L_ref22_Encode_l8 m m i_8 l_1 c1 out_7) c_0 l_1 := by kernel_rfl
theorem b_ref22_Encode_map (m : Nat) {k_l8 : Int → List Item → Uart → List Run → Option (List (RV C))} {q_l8 : Int → List Item → Uart → List Run → Option (List Run × Int)} (h_l8 : ∀ i_8 l_1 c1 out_7, k_l8 i_8 l_1 c1 out_7 = (q_l8 i_8 l_1 c1 out_7).map w_ref22_Encode) (c_0 : Uart) (l_1 : List Item) : b_ref22_Encode m (fun x0 x1 => some (w_ref22_Encode (x0, x1))) k_l8 c_0 l_1 = (b_ref22_Encode m (fun x0 x1 => some (x0, x1)) q_l8 c_0 l_1).map w_ref22_Encode := by
  simp only [b_ref22_Encode, cond_map, bind_map, map_none, map_some, h_l8]
noncomputable def ref22_Encode (m : Nat) (c_0 : Uart) (l_1 : List Item) : Option (List Run × Int) := b_ref22_Encode m (fun x0 x1 => some (x0, x1)) (fun i_8 l_1 c1 out_7 => ref22_Encode_l8 m m i_8 l_1 c1 out_7) c_0 l_1
theorem ref22_Encode_fun (m : Nat) (c_0 : Uart) (l_1 : List Item) : funK Try.prog (Ψ_ref22_Encode m) keep m 1 23 [(dS of_Uart cells_Uart of_Uart_ok).e c_0, (dRow 54).e l_1] = (ref22_Encode m c_0 l_1).map w_ref22_Encode := by
  rw [ref22_Encode_pre]
  exact b_ref22_Encode_map m (fun i_8 l_1 c1 out_7 => L_ref22_Encode_l8_eq m m i_8 l_1 c1 out_7) c_0 l_1
noncomputable def K_ref22_Encode (m : Nat) : KnownF C := mkK (dCons (dS of_Uart cells_Uart of_Uart_ok) (dCons (dRow 54) dNil)) (fun a => ref22_Encode m a.1 a.2.1) w_ref22_Encode
theorem K_ref22_Encode_ok (m : Nat) : KnownAt C Try.prog 23 fun l => (K_ref22_Encode m).run _ l some :=
  mkK_known good fit (Ψ_ref22_Encode_ok m) (keep := keep) (m := m) (d := 1) fun a => ref22_Encode_fun m a.1 a.2.1
/-! ### signalbench/signalbenchlaw22.same -/
def w_law22_same (b : Bool) : List (RV C) := [dBool.e b]
noncomputable def Q_law22_same_4 (m : Nat) : St C → (Exit → St C → Option (List (RV C))) → Option (List (RV C)) := fun σ k => codeK Try.prog Ψ0 (callK Try.prog Ψ0 keep m 0) (keep 24) m (subC body24 [.r, .r, .l, .r, .b, .o]) σ k
noncomputable def KL_law22_same_4 (m : Nat) : Exit → St C → Option (List (RV C)) := contK Try.prog Ψ0 (callK Try.prog Ψ0 keep m 0) (keep 24) m body24 [.r, .r, .l, .r, .b, .o] (leaveK Try.prog Try.f24.results.toList (finK Try.prog Try.f24.resultTypes.toList))
noncomputable def L_law22_same_l4 (m n : Nat) (i_5 : Int) (a_0 : List Run) (b_1 : List Run) : Option (List (RV C)) := iterK (Q_law22_same_4 m) (St.norm (keep 24 4)) n ({ T := [.fl (.one (.sl 0)), .fl (.one (.sl 1)), .dead, .dead, .dead, .fl (.one (.int .i64 i_5))] ++ List.replicate 20 .dead, F := [[]], H := [.row 59 false a_0, .row 59 false b_1] } : St C) (KL_law22_same_4 m)
noncomputable def b_law22_same_l4 {R : Type} (m : Nat) (ret : Bool → Option R) (k_l4 : Int → List Run → List Run → Option R) (i_5 : Int) (a_0 : List Run) (b_1 : List Run) : Option R :=
 bif decide (i_5 < (a_0.length : Int)) then
 bif decide (0 ≤ i_5) then
 bif decide (i_5 < (a_0.length : Int)) then
 bif decide (0 ≤ i_5) then
 bif decide (i_5 < (b_1.length : Int)) then
 bif !((a_0.getD i_5.toNat dflt_Run).Level == (b_1.getD i_5.toNat dflt_Run).Level && ((a_0.getD i_5.toNat dflt_Run).Ticks == (b_1.getD i_5.toNat dflt_Run).Ticks && true)) then
 ret false
 else
 k_l4 (IntKind.i64.wrap (i_5 + 1)) a_0 b_1
 else
 none
 else
 none
 else
 none
 else
 none
 else
 ret true
theorem L_law22_same_l4_step (m n : Nat) (i_5 : Int) (a_0 : List Run) (b_1 : List Run) : L_law22_same_l4 m (n + 1) i_5 a_0 b_1 = b_law22_same_l4 m (fun x0 => some (w_law22_same x0)) (fun i_5 a_0 b_1 => L_law22_same_l4 m n i_5 a_0 b_1) i_5 a_0 b_1 := by kernel_rfl
theorem b_law22_same_l4_map (m : Nat) {k_l4 : Int → List Run → List Run → Option (List (RV C))} {q_l4 : Int → List Run → List Run → Option (Bool)} (h_l4 : ∀ i_5 a_0 b_1, k_l4 i_5 a_0 b_1 = (q_l4 i_5 a_0 b_1).map w_law22_same) (i_5 : Int) (a_0 : List Run) (b_1 : List Run) : b_law22_same_l4 m (fun x0 => some (w_law22_same x0)) k_l4 i_5 a_0 b_1 = (b_law22_same_l4 m (fun x0 => some x0) q_l4 i_5 a_0 b_1).map w_law22_same := by
  simp only [b_law22_same_l4, cond_map, bind_map, map_none, map_some, h_l4]
noncomputable def law22_same_l4 (m : Nat) : Nat → Int → List Run → List Run → Option (Bool)
  | 0, _, _, _ => none
  | n + 1, i_5, a_0, b_1 => b_law22_same_l4 m (fun x0 => some x0) (fun i_5 a_0 b_1 => law22_same_l4 m n i_5 a_0 b_1) i_5 a_0 b_1
theorem L_law22_same_l4_eq (m : Nat) : ∀ (n : Nat) (i_5 : Int) (a_0 : List Run) (b_1 : List Run), L_law22_same_l4 m n i_5 a_0 b_1 = (law22_same_l4 m n i_5 a_0 b_1).map w_law22_same
  | 0, i_5, a_0, b_1 => by kernel_rfl
  | n + 1, i_5, a_0, b_1 => by
    rw [L_law22_same_l4_step]
    exact b_law22_same_l4_map m (fun i_5 a_0 b_1 => L_law22_same_l4_eq m n i_5 a_0 b_1) i_5 a_0 b_1
noncomputable def b_law22_same {R : Type} (m : Nat) (ret : Bool → Option R) (k_l4 : Int → List Run → List Run → Option R) (a_0 : List Run) (b_1 : List Run) : Option R :=
 bif (a_0.length : Int) != (b_1.length : Int) then
 ret false
 else
 k_l4 0 a_0 b_1
theorem law22_same_pre (m : Nat) (a_0 : List Run) (b_1 : List Run) : funK Try.prog Ψ0 keep m 1 24 [(dRow 59).e a_0, (dRow 59).e b_1] = b_law22_same m (fun x0 => some (w_law22_same x0)) (fun i_5 a_0 b_1 => L_law22_same_l4 m m i_5 a_0 b_1) a_0 b_1 := by kernel_rfl
theorem b_law22_same_map (m : Nat) {k_l4 : Int → List Run → List Run → Option (List (RV C))} {q_l4 : Int → List Run → List Run → Option (Bool)} (h_l4 : ∀ i_5 a_0 b_1, k_l4 i_5 a_0 b_1 = (q_l4 i_5 a_0 b_1).map w_law22_same) (a_0 : List Run) (b_1 : List Run) : b_law22_same m (fun x0 => some (w_law22_same x0)) k_l4 a_0 b_1 = (b_law22_same m (fun x0 => some x0) q_l4 a_0 b_1).map w_law22_same := by
  simp only [b_law22_same, cond_map, bind_map, map_none, map_some, h_l4]
noncomputable def law22_same (m : Nat) (a_0 : List Run) (b_1 : List Run) : Option (Bool) := b_law22_same m (fun x0 => some x0) (fun i_5 a_0 b_1 => law22_same_l4 m m i_5 a_0 b_1) a_0 b_1
theorem law22_same_fun (m : Nat) (a_0 : List Run) (b_1 : List Run) : funK Try.prog Ψ0 keep m 1 24 [(dRow 59).e a_0, (dRow 59).e b_1] = (law22_same m a_0 b_1).map w_law22_same := by
  rw [law22_same_pre]
  exact b_law22_same_map m (fun i_5 a_0 b_1 => L_law22_same_l4_eq m m i_5 a_0 b_1) a_0 b_1
noncomputable def K_law22_same (m : Nat) : KnownF C := mkK (dCons (dRow 59) (dCons (dRow 59) dNil)) (fun a => law22_same m a.1 a.2.1) w_law22_same
theorem K_law22_same_ok (m : Nat) : KnownAt C Try.prog 24 fun l => (K_law22_same m).run _ l some :=
  mkK_known good fit Ψ0_ok (keep := keep) (m := m) (d := 1) fun a => law22_same_fun m a.1 a.2.1
/-! ### signalbench/signalbenchlaw22.UartEncodes -/
noncomputable def Ψ_law22_UartEncodes (m : Nat) : Known C := fun f => match f with
  | 21 => some (K_law22_tiny m)
  | 10 => some (K_law22_awake m)
  | 22 => some (K_uart_Encode m)
  | 23 => some (K_ref22_Encode m)
  | 24 => some (K_law22_same m)
  | _ => none
theorem Ψ_law22_UartEncodes_ok (m : Nat) : KnownOk C Try.prog (Ψ_law22_UartEncodes m) := by
  intro f φ h
  unfold Ψ_law22_UartEncodes at h
  split at h
  · injection h with h; subst h; exact K_law22_tiny_ok m
  · injection h with h; subst h; exact K_law22_awake_ok m
  · injection h with h; subst h; exact K_uart_Encode_ok m
  · injection h with h; subst h; exact K_ref22_Encode_ok m
  · injection h with h; subst h; exact K_law22_same_ok m
  · cases h
def w_law22_UartEncodes (b : Bool) : List (RV C) := [dBool.e b]
noncomputable def b_law22_UartEncodes {R : Type} (m : Nat) (ret : Bool → Option R) (c_0 : Uart) (l_1 : List Item) : Option R :=
 (law22_tiny m l_1).bind fun r0 =>
 bif !r0 then
 ((law22_awake m).bind fun r1 =>
 ret r1)
 else
 (uart_Encode m c_0 l_1).bind fun r2 =>
 (ref22_Encode m c_0 l_1).bind fun r3 =>
 (law22_same m r2.fst r3.fst).bind fun r4 =>
 bif r4 then
 (bif r2.snd == r3.snd then
 ((law22_awake m).bind fun r5 =>
 ret r5)
 else
 ret false)
 else
 ret false
theorem law22_UartEncodes_pre (m : Nat) (c_0 : Uart) (l_1 : List Item) : funK Try.prog (Ψ_law22_UartEncodes m) keep m 1 4 [(dS of_Uart cells_Uart of_Uart_ok).e c_0, (dRow 54).e l_1] = b_law22_UartEncodes m (fun x0 => some (w_law22_UartEncodes x0)) c_0 l_1 := by kernel_rfl
theorem b_law22_UartEncodes_map (m : Nat) (c_0 : Uart) (l_1 : List Item) : b_law22_UartEncodes m (fun x0 => some (w_law22_UartEncodes x0)) c_0 l_1 = (b_law22_UartEncodes m (fun x0 => some x0) c_0 l_1).map w_law22_UartEncodes := by
  simp only [b_law22_UartEncodes, cond_map, bind_map, map_none, map_some]
noncomputable def law22_UartEncodes (m : Nat) (c_0 : Uart) (l_1 : List Item) : Option (Bool) := b_law22_UartEncodes m (fun x0 => some x0) c_0 l_1
theorem law22_UartEncodes_fun (m : Nat) (c_0 : Uart) (l_1 : List Item) : funK Try.prog (Ψ_law22_UartEncodes m) keep m 1 4 [(dS of_Uart cells_Uart of_Uart_ok).e c_0, (dRow 54).e l_1] = (law22_UartEncodes m c_0 l_1).map w_law22_UartEncodes := by
  rw [law22_UartEncodes_pre]
  exact b_law22_UartEncodes_map m c_0 l_1
noncomputable def K_law22_UartEncodes (m : Nat) : KnownF C := mkK (dCons (dS of_Uart cells_Uart of_Uart_ok) (dCons (dRow 54) dNil)) (fun a => law22_UartEncodes m a.1 a.2.1) w_law22_UartEncodes
theorem K_law22_UartEncodes_ok (m : Nat) : KnownAt C Try.prog 4 fun l => (K_law22_UartEncodes m).run _ l some :=
  mkK_known good fit (Ψ_law22_UartEncodes_ok m) (keep := keep) (m := m) (d := 1) fun a => law22_UartEncodes_fun m a.1 a.2.1
/-! ### signalbench/signalbenchlaw22.UartExpects -/
noncomputable def Ψ_law22_UartExpects (m : Nat) : Known C := fun f => match f with
  | 21 => some (K_law22_tiny m)
  | 10 => some (K_law22_awake m)
  | 22 => some (K_uart_Encode m)
  | 25 => some (K_uart_Expect m)
  | 26 => some (K_law22_events m)
  | 19 => some (K_uart_Decode m)
  | 15 => some (K_ref07_Same m)
  | _ => none
theorem Ψ_law22_UartExpects_ok (m : Nat) : KnownOk C Try.prog (Ψ_law22_UartExpects m) := by
  intro f φ h
  unfold Ψ_law22_UartExpects at h
  split at h
  · injection h with h; subst h; exact K_law22_tiny_ok m
  · injection h with h; subst h; exact K_law22_awake_ok m
  · injection h with h; subst h; exact K_uart_Encode_ok m
  · injection h with h; subst h; exact K_uart_Expect_ok m
  · injection h with h; subst h; exact K_law22_events_ok m
  · injection h with h; subst h; exact K_uart_Decode_ok m
  · injection h with h; subst h; exact K_ref07_Same_ok m
  · cases h
def w_law22_UartExpects (b : Bool) : List (RV C) := [dBool.e b]
noncomputable def b_law22_UartExpects {R : Type} (m : Nat) (ret : Bool → Option R) (c_0 : Uart) (l_1 : List Item) : Option R :=
 (law22_tiny m l_1).bind fun r0 =>
 bif !r0 then
 ((law22_awake m).bind fun r1 =>
 ret r1)
 else
 (uart_Encode m c_0 l_1).bind fun r2 =>
 (uart_Expect m c_0 l_1).bind fun r3 =>
 bif r2.snd != 0 then
 (bif r3.snd == r2.snd then
 (bif (r3.fst.length : Int) == 0 then
 (bif (r2.fst.length : Int) == 0 then
 ((law22_awake m).bind fun r4 =>
 ret r4)
 else
 ret false)
 else
 ret false)
 else
 ret false)
 else
 bif r3.snd == 0 then
 ((law22_events m r2.fst).bind fun r5 =>
 (uart_Decode m c_0 r5).bind fun r6 =>
 (ref07_Same m r3.fst r6).bind fun r7 =>
 bif r7 then
 ((law22_awake m).bind fun r8 =>
 ret r8)
 else
 ret false)
 else
 ret false
theorem law22_UartExpects_pre (m : Nat) (c_0 : Uart) (l_1 : List Item) : funK Try.prog (Ψ_law22_UartExpects m) keep m 1 5 [(dS of_Uart cells_Uart of_Uart_ok).e c_0, (dRow 54).e l_1] = b_law22_UartExpects m (fun x0 => some (w_law22_UartExpects x0)) c_0 l_1 := by kernel_rfl
theorem b_law22_UartExpects_map (m : Nat) (c_0 : Uart) (l_1 : List Item) : b_law22_UartExpects m (fun x0 => some (w_law22_UartExpects x0)) c_0 l_1 = (b_law22_UartExpects m (fun x0 => some x0) c_0 l_1).map w_law22_UartExpects := by
  simp only [b_law22_UartExpects, cond_map, bind_map, map_none, map_some]
noncomputable def law22_UartExpects (m : Nat) (c_0 : Uart) (l_1 : List Item) : Option (Bool) := b_law22_UartExpects m (fun x0 => some x0) c_0 l_1
theorem law22_UartExpects_fun (m : Nat) (c_0 : Uart) (l_1 : List Item) : funK Try.prog (Ψ_law22_UartExpects m) keep m 1 5 [(dS of_Uart cells_Uart of_Uart_ok).e c_0, (dRow 54).e l_1] = (law22_UartExpects m c_0 l_1).map w_law22_UartExpects := by
  rw [law22_UartExpects_pre]
  exact b_law22_UartExpects_map m c_0 l_1
noncomputable def K_law22_UartExpects (m : Nat) : KnownF C := mkK (dCons (dS of_Uart cells_Uart of_Uart_ok) (dCons (dRow 54) dNil)) (fun a => law22_UartExpects m a.1 a.2.1) w_law22_UartExpects
theorem K_law22_UartExpects_ok (m : Nat) : KnownAt C Try.prog 5 fun l => (K_law22_UartExpects m).run _ l some :=
  mkK_known good fit (Ψ_law22_UartExpects_ok m) (keep := keep) (m := m) (d := 1) fun a => law22_UartExpects_fun m a.1 a.2.1
/-! ### signalbench/signalbenchlaw22.bits -/
def w_law22_bits (b : Int) : List (RV C) := [(dInt .i64).e b]
noncomputable def b_law22_bits {R : Type} (m : Nat) (ret : Int → Option R) (c_0 : Uart) : Option R :=
 bif c_0.Parity == 0 then
 ret (IntKind.i64.wrap (IntKind.i64.wrap (1 + c_0.Bits) + c_0.Stop))
 else
 ret (IntKind.i64.wrap (IntKind.i64.wrap (2 + c_0.Bits) + c_0.Stop))
theorem law22_bits_pre (m : Nat) (c_0 : Uart) : funK Try.prog Ψ0 keep m 1 27 [(dS of_Uart cells_Uart of_Uart_ok).e c_0] = b_law22_bits m (fun x0 => some (w_law22_bits x0)) c_0 := by kernel_rfl
theorem b_law22_bits_map (m : Nat) (c_0 : Uart) : b_law22_bits m (fun x0 => some (w_law22_bits x0)) c_0 = (b_law22_bits m (fun x0 => some x0) c_0).map w_law22_bits := by
  simp only [b_law22_bits, cond_map, bind_map, map_none, map_some]
noncomputable def law22_bits (m : Nat) (c_0 : Uart) : Option (Int) := b_law22_bits m (fun x0 => some x0) c_0
theorem law22_bits_fun (m : Nat) (c_0 : Uart) : funK Try.prog Ψ0 keep m 1 27 [(dS of_Uart cells_Uart of_Uart_ok).e c_0] = (law22_bits m c_0).map w_law22_bits := by
  rw [law22_bits_pre]
  exact b_law22_bits_map m c_0
noncomputable def K_law22_bits (m : Nat) : KnownF C := mkK (dCons (dS of_Uart cells_Uart of_Uart_ok) dNil) (fun a => law22_bits m a.1) w_law22_bits
theorem K_law22_bits_ok (m : Nat) : KnownAt C Try.prog 27 fun l => (K_law22_bits m).run _ l some :=
  mkK_known good fit Ψ0_ok (keep := keep) (m := m) (d := 1) fun a => law22_bits_fun m a.1
/-! ### signalbench/signalbenchlaw22.UartRoundTrips -/
noncomputable def Ψ_law22_UartRoundTrips (m : Nat) : Known C := fun f => match f with
  | 21 => some (K_law22_tiny m)
  | 17 => some (K_ref22_Check m)
  | 10 => some (K_law22_awake m)
  | 22 => some (K_uart_Encode m)
  | 27 => some (K_law22_bits m)
  | 26 => some (K_law22_events m)
  | 19 => some (K_uart_Decode m)
  | 15 => some (K_ref07_Same m)
  | _ => none
theorem Ψ_law22_UartRoundTrips_ok (m : Nat) : KnownOk C Try.prog (Ψ_law22_UartRoundTrips m) := by
  intro f φ h
  unfold Ψ_law22_UartRoundTrips at h
  split at h
  · injection h with h; subst h; exact K_law22_tiny_ok m
  · injection h with h; subst h; exact K_ref22_Check_ok m
  · injection h with h; subst h; exact K_law22_awake_ok m
  · injection h with h; subst h; exact K_uart_Encode_ok m
  · injection h with h; subst h; exact K_law22_bits_ok m
  · injection h with h; subst h; exact K_law22_events_ok m
  · injection h with h; subst h; exact K_uart_Decode_ok m
  · injection h with h; subst h; exact K_ref07_Same_ok m
  · cases h
def w_law22_UartRoundTrips (b : Bool) : List (RV C) := [dBool.e b]
noncomputable def Q_law22_UartRoundTrips_8 (m : Nat) : St C → (Exit → St C → Option (List (RV C))) → Option (List (RV C)) := fun σ k => codeK Try.prog (Ψ_law22_UartRoundTrips m) (callK Try.prog (Ψ_law22_UartRoundTrips m) keep m 0) (keep 6) m (subC body6 [.r, .r, .r, .r, .r, .l, .r, .b, .o]) σ k
noncomputable def KL_law22_UartRoundTrips_8 (m : Nat) : Exit → St C → Option (List (RV C)) := contK Try.prog (Ψ_law22_UartRoundTrips m) (callK Try.prog (Ψ_law22_UartRoundTrips m) keep m 0) (keep 6) m body6 [.r, .r, .r, .r, .r, .l, .r, .b, .o] (leaveK Try.prog Try.f6.results.toList (finK Try.prog Try.f6.resultTypes.toList))
noncomputable def L_law22_UartRoundTrips_l8 (m n : Nat) (at_8 : Int) (n_9 : Int) (i_10 : Int) (l_1 : List Item) (c1 : Uart) (runs_5 : List Run) (want_7 : List Event) : Option (List (RV C)) := iterK (Q_law22_UartRoundTrips_8 m) (St.norm (keep 6 8)) n ({ T := [.dead, .fl (.one (.sl 0)), .fl (.one (.ptr 1 0)), .dead, .dead, .fl (.one (.sl 2)), .dead, .fl (.one (.sl 3)), .fl (.one (.int .i64 at_8)), .fl (.one (.int .i64 n_9)), .fl (.one (.int .i64 i_10))] ++ List.replicate 120 .dead, F := [[]], H := [.row 54 false l_1, .box 25 (cells_Uart c1), .row 59 true runs_5, .row 35 true want_7] } : St C) (KL_law22_UartRoundTrips_8 m)
noncomputable def b_law22_UartRoundTrips_l8 {R : Type} (m : Nat) (ret : Bool → Option R) (k_l8 : Int → Int → Int → List Item → Uart → List Run → List Event → Option R) (at_8 : Int) (n_9 : Int) (i_10 : Int) (l_1 : List Item) (c1 : Uart) (runs_5 : List Run) (want_7 : List Event) : Option R :=
 bif decide (i_10 < (l_1.length : Int)) then
 bif decide (0 ≤ i_10) then
 bif decide (i_10 < (l_1.length : Int)) then
 bif decide (c1.T_Den = 0) then
 none
 else
 bif decide (0 ≤ i_10) then
 bif decide (i_10 < (l_1.length : Int)) then
 bif decide (0 ≤ i_10) then
 bif decide (i_10 < (l_1.length : Int)) then
 bif decide (0 ≤ i_10) then
 bif decide (i_10 < (l_1.length : Int)) then
 bif (l_1.getD i_10.toNat dflt_Item).Aux == 1 then
 bif decide ((want_7.length + 1) * 64 ≤ 140737488355328) then
 bif decide (0 ≤ i_10) then
 bif decide (i_10 < (l_1.length : Int)) then
 bif (l_1.getD i_10.toNat dflt_Item).Aux == 1 then
 bif decide (c1.T_Den = 0) then
 none
 else
 k_l8 (IntKind.i64.wrap (IntKind.i64.wrap (at_8 + (l_1.getD i_10.toNat dflt_Item).Gap) + IntKind.i64.wrap ((IntKind.i64.wrap (IntKind.i64.wrap (n_9 + 1) * c1.T_Num)).tdiv c1.T_Den))) n_9 (IntKind.i64.wrap (i_10 + 1)) l_1 c1 runs_5 (want_7 ++ [Event.mk 4 (IntKind.i64.wrap (at_8 + (l_1.getD i_10.toNat dflt_Item).Gap)) (IntKind.i64.wrap (IntKind.i64.wrap (at_8 + (l_1.getD i_10.toNat dflt_Item).Gap) + IntKind.i64.wrap ((IntKind.i64.wrap (n_9 * c1.T_Num)).tdiv c1.T_Den))) 1 0 (bs []) (l_1.getD i_10.toNat dflt_Item).Fault])
 else
 bif decide (0 ≤ i_10) then
 bif decide (i_10 < (l_1.length : Int)) then
 bif (l_1.getD i_10.toNat dflt_Item).Fault == 1 then
 bif decide (c1.T_Den = 0) then
 none
 else
 k_l8 (IntKind.i64.wrap (IntKind.i64.wrap (at_8 + (l_1.getD i_10.toNat dflt_Item).Gap) + IntKind.i64.wrap ((IntKind.i64.wrap (IntKind.i64.wrap (n_9 + 1) * c1.T_Num)).tdiv c1.T_Den))) n_9 (IntKind.i64.wrap (i_10 + 1)) l_1 c1 runs_5 (want_7 ++ [Event.mk 4 (IntKind.i64.wrap (at_8 + (l_1.getD i_10.toNat dflt_Item).Gap)) (IntKind.i64.wrap (IntKind.i64.wrap (at_8 + (l_1.getD i_10.toNat dflt_Item).Gap) + IntKind.i64.wrap ((IntKind.i64.wrap (n_9 * c1.T_Num)).tdiv c1.T_Den))) 1 0 (bs []) (l_1.getD i_10.toNat dflt_Item).Fault])
 else
 k_l8 (IntKind.i64.wrap (IntKind.i64.wrap (at_8 + (l_1.getD i_10.toNat dflt_Item).Gap) + IntKind.i64.wrap ((IntKind.i64.wrap (n_9 * c1.T_Num)).tdiv c1.T_Den))) n_9 (IntKind.i64.wrap (i_10 + 1)) l_1 c1 runs_5 (want_7 ++ [Event.mk 4 (IntKind.i64.wrap (at_8 + (l_1.getD i_10.toNat dflt_Item).Gap)) (IntKind.i64.wrap (IntKind.i64.wrap (at_8 + (l_1.getD i_10.toNat dflt_Item).Gap) + IntKind.i64.wrap ((IntKind.i64.wrap (n_9 * c1.T_Num)).tdiv c1.T_Den))) 1 0 (bs []) (l_1.getD i_10.toNat dflt_Item).Fault])
 else
 none
 else
 none
 else
 none
 else
 none
 else
 none
 else
 bif decide ((want_7.length + 1) * 64 ≤ 140737488355328) then
 bif decide (0 ≤ i_10) then
 bif decide (i_10 < (l_1.length : Int)) then
 bif (l_1.getD i_10.toNat dflt_Item).Aux == 1 then
 bif decide (c1.T_Den = 0) then
 none
 else
 k_l8 (IntKind.i64.wrap (IntKind.i64.wrap (at_8 + (l_1.getD i_10.toNat dflt_Item).Gap) + IntKind.i64.wrap ((IntKind.i64.wrap (IntKind.i64.wrap (n_9 + 1) * c1.T_Num)).tdiv c1.T_Den))) n_9 (IntKind.i64.wrap (i_10 + 1)) l_1 c1 runs_5 (want_7 ++ [Event.mk 3 (IntKind.i64.wrap (at_8 + (l_1.getD i_10.toNat dflt_Item).Gap)) (IntKind.i64.wrap (IntKind.i64.wrap (at_8 + (l_1.getD i_10.toNat dflt_Item).Gap) + IntKind.i64.wrap ((IntKind.i64.wrap (n_9 * c1.T_Num)).tdiv c1.T_Den))) (l_1.getD i_10.toNat dflt_Item).Value 0 (bs []) (l_1.getD i_10.toNat dflt_Item).Fault])
 else
 bif decide (0 ≤ i_10) then
 bif decide (i_10 < (l_1.length : Int)) then
 bif (l_1.getD i_10.toNat dflt_Item).Fault == 1 then
 bif decide (c1.T_Den = 0) then
 none
 else
 k_l8 (IntKind.i64.wrap (IntKind.i64.wrap (at_8 + (l_1.getD i_10.toNat dflt_Item).Gap) + IntKind.i64.wrap ((IntKind.i64.wrap (IntKind.i64.wrap (n_9 + 1) * c1.T_Num)).tdiv c1.T_Den))) n_9 (IntKind.i64.wrap (i_10 + 1)) l_1 c1 runs_5 (want_7 ++ [Event.mk 3 (IntKind.i64.wrap (at_8 + (l_1.getD i_10.toNat dflt_Item).Gap)) (IntKind.i64.wrap (IntKind.i64.wrap (at_8 + (l_1.getD i_10.toNat dflt_Item).Gap) + IntKind.i64.wrap ((IntKind.i64.wrap (n_9 * c1.T_Num)).tdiv c1.T_Den))) (l_1.getD i_10.toNat dflt_Item).Value 0 (bs []) (l_1.getD i_10.toNat dflt_Item).Fault])
 else
 k_l8 (IntKind.i64.wrap (IntKind.i64.wrap (at_8 + (l_1.getD i_10.toNat dflt_Item).Gap) + IntKind.i64.wrap ((IntKind.i64.wrap (n_9 * c1.T_Num)).tdiv c1.T_Den))) n_9 (IntKind.i64.wrap (i_10 + 1)) l_1 c1 runs_5 (want_7 ++ [Event.mk 3 (IntKind.i64.wrap (at_8 + (l_1.getD i_10.toNat dflt_Item).Gap)) (IntKind.i64.wrap (IntKind.i64.wrap (at_8 + (l_1.getD i_10.toNat dflt_Item).Gap) + IntKind.i64.wrap ((IntKind.i64.wrap (n_9 * c1.T_Num)).tdiv c1.T_Den))) (l_1.getD i_10.toNat dflt_Item).Value 0 (bs []) (l_1.getD i_10.toNat dflt_Item).Fault])
 else
 none
 else
 none
 else
 none
 else
 none
 else
 none
 else
 none
 else
 none
 else
 none
 else
 none
 else
 none
 else
 none
 else
 none
 else
 none
 else
 (law22_events m runs_5).bind fun r0 =>
 (uart_Decode m c1 r0).bind fun r1 =>
 (ref07_Same m r1 want_7).bind fun r2 =>
 bif r2 then
 ((law22_awake m).bind fun r3 =>
 ret r3)
 else
 ret false
theorem L_law22_UartRoundTrips_l8_step (m n : Nat) (at_8 : Int) (n_9 : Int) (i_10 : Int) (l_1 : List Item) (c1 : Uart) (runs_5 : List Run) (want_7 : List Event) : L_law22_UartRoundTrips_l8 m (n + 1) at_8 n_9 i_10 l_1 c1 runs_5 want_7 = b_law22_UartRoundTrips_l8 m (fun x0 => some (w_law22_UartRoundTrips x0)) (fun at_8 n_9 i_10 l_1 c1 runs_5 want_7 => L_law22_UartRoundTrips_l8 m n at_8 n_9 i_10 l_1 c1 runs_5 want_7) at_8 n_9 i_10 l_1 c1 runs_5 want_7 := by kernel_rfl
theorem b_law22_UartRoundTrips_l8_map (m : Nat) {k_l8 : Int → Int → Int → List Item → Uart → List Run → List Event → Option (List (RV C))} {q_l8 : Int → Int → Int → List Item → Uart → List Run → List Event → Option (Bool)} (h_l8 : ∀ at_8 n_9 i_10 l_1 c1 runs_5 want_7, k_l8 at_8 n_9 i_10 l_1 c1 runs_5 want_7 = (q_l8 at_8 n_9 i_10 l_1 c1 runs_5 want_7).map w_law22_UartRoundTrips) (at_8 : Int) (n_9 : Int) (i_10 : Int) (l_1 : List Item) (c1 : Uart) (runs_5 : List Run) (want_7 : List Event) : b_law22_UartRoundTrips_l8 m (fun x0 => some (w_law22_UartRoundTrips x0)) k_l8 at_8 n_9 i_10 l_1 c1 runs_5 want_7 = (b_law22_UartRoundTrips_l8 m (fun x0 => some x0) q_l8 at_8 n_9 i_10 l_1 c1 runs_5 want_7).map w_law22_UartRoundTrips := by
  simp only [b_law22_UartRoundTrips_l8, cond_map, bind_map, map_none, map_some, h_l8]
noncomputable def law22_UartRoundTrips_l8 (m : Nat) : Nat → Int → Int → Int → List Item → Uart → List Run → List Event → Option (Bool)
  | 0, _, _, _, _, _, _, _ => none
  | n + 1, at_8, n_9, i_10, l_1, c1, runs_5, want_7 => b_law22_UartRoundTrips_l8 m (fun x0 => some x0) (fun at_8 n_9 i_10 l_1 c1 runs_5 want_7 => law22_UartRoundTrips_l8 m n at_8 n_9 i_10 l_1 c1 runs_5 want_7) at_8 n_9 i_10 l_1 c1 runs_5 want_7
theorem L_law22_UartRoundTrips_l8_eq (m : Nat) : ∀ (n : Nat) (at_8 : Int) (n_9 : Int) (i_10 : Int) (l_1 : List Item) (c1 : Uart) (runs_5 : List Run) (want_7 : List Event), L_law22_UartRoundTrips_l8 m n at_8 n_9 i_10 l_1 c1 runs_5 want_7 = (law22_UartRoundTrips_l8 m n at_8 n_9 i_10 l_1 c1 runs_5 want_7).map w_law22_UartRoundTrips
  | 0, at_8, n_9, i_10, l_1, c1, runs_5, want_7 => by kernel_rfl
  | n + 1, at_8, n_9, i_10, l_1, c1, runs_5, want_7 => by
    rw [L_law22_UartRoundTrips_l8_step]
    exact b_law22_UartRoundTrips_l8_map m (fun at_8 n_9 i_10 l_1 c1 runs_5 want_7 => L_law22_UartRoundTrips_l8_eq m n at_8 n_9 i_10 l_1 c1 runs_5 want_7) at_8 n_9 i_10 l_1 c1 runs_5 want_7
noncomputable def b_law22_UartRoundTrips {R : Type} (m : Nat) (ret : Bool → Option R) (k_l8 : Int → Int → Int → List Item → Uart → List Run → List Event → Option R) (c_0 : Uart) (l_1 : List Item) : Option R :=
 (law22_tiny m l_1).bind fun r0 =>
 bif !r0 then
 ((law22_awake m).bind fun r1 =>
 ret r1)
 else
 (ref22_Check m c_0).bind fun r2 =>
 bif r2 != 0 then
 ((law22_awake m).bind fun r3 =>
 ret r3)
 else
 (uart_Encode m c_0 l_1).bind fun r4 =>
 bif r4.snd != 0 then
 (bif (r4.fst.length : Int) == 0 then
 ((law22_awake m).bind fun r5 =>
 ret r5)
 else
 ret false)
 else
 bif decide (c_0.T_Den = 0) then
 none
 else
 (law22_bits m c_0).bind fun r6 =>
 k_l8 (IntKind.i64.wrap ((IntKind.i64.wrap (2 * c_0.T_Num)).tdiv c_0.T_Den)) r6 0 l_1 c_0 r4.fst []
theorem law22_UartRoundTrips_pre (m : Nat) (c_0 : Uart) (l_1 : List Item) : funK Try.prog (Ψ_law22_UartRoundTrips m) keep m 1 6 [(dS of_Uart cells_Uart of_Uart_ok).e c_0, (dRow 54).e l_1] = b_law22_UartRoundTrips m (fun x0 => some (w_law22_UartRoundTrips x0)) (fun at_8 n_9 i_10 l_1 c1 runs_5 want_7 => L_law22_UartRoundTrips_l8 m m at_8 n_9 i_10 l_1 c1 runs_5 want_7) c_0 l_1 := by kernel_rfl
theorem b_law22_UartRoundTrips_map (m : Nat) {k_l8 : Int → Int → Int → List Item → Uart → List Run → List Event → Option (List (RV C))} {q_l8 : Int → Int → Int → List Item → Uart → List Run → List Event → Option (Bool)} (h_l8 : ∀ at_8 n_9 i_10 l_1 c1 runs_5 want_7, k_l8 at_8 n_9 i_10 l_1 c1 runs_5 want_7 = (q_l8 at_8 n_9 i_10 l_1 c1 runs_5 want_7).map w_law22_UartRoundTrips) (c_0 : Uart) (l_1 : List Item) : b_law22_UartRoundTrips m (fun x0 => some (w_law22_UartRoundTrips x0)) k_l8 c_0 l_1 = (b_law22_UartRoundTrips m (fun x0 => some x0) q_l8 c_0 l_1).map w_law22_UartRoundTrips := by
  simp only [b_law22_UartRoundTrips, cond_map, bind_map, map_none, map_some, h_l8]
noncomputable def law22_UartRoundTrips (m : Nat) (c_0 : Uart) (l_1 : List Item) : Option (Bool) := b_law22_UartRoundTrips m (fun x0 => some x0) (fun at_8 n_9 i_10 l_1 c1 runs_5 want_7 => law22_UartRoundTrips_l8 m m at_8 n_9 i_10 l_1 c1 runs_5 want_7) c_0 l_1
theorem law22_UartRoundTrips_fun (m : Nat) (c_0 : Uart) (l_1 : List Item) : funK Try.prog (Ψ_law22_UartRoundTrips m) keep m 1 6 [(dS of_Uart cells_Uart of_Uart_ok).e c_0, (dRow 54).e l_1] = (law22_UartRoundTrips m c_0 l_1).map w_law22_UartRoundTrips := by
  rw [law22_UartRoundTrips_pre]
  exact b_law22_UartRoundTrips_map m (fun at_8 n_9 i_10 l_1 c1 runs_5 want_7 => L_law22_UartRoundTrips_l8_eq m m at_8 n_9 i_10 l_1 c1 runs_5 want_7) c_0 l_1
noncomputable def K_law22_UartRoundTrips (m : Nat) : KnownF C := mkK (dCons (dS of_Uart cells_Uart of_Uart_ok) (dCons (dRow 54) dNil)) (fun a => law22_UartRoundTrips m a.1 a.2.1) w_law22_UartRoundTrips
theorem K_law22_UartRoundTrips_ok (m : Nat) : KnownAt C Try.prog 6 fun l => (K_law22_UartRoundTrips m).run _ l some :=
  mkK_known good fit (Ψ_law22_UartRoundTrips_ok m) (keep := keep) (m := m) (d := 1) fun a => law22_UartRoundTrips_fun m a.1 a.2.1
/-! ### signalbench/signalbenchlaw22.chained -/
noncomputable def Ψ_law22_chained (m : Nat) : Known C := fun f => match f with
  | 51 => some (K_ref07_Valid m)
  | _ => none
theorem Ψ_law22_chained_ok (m : Nat) : KnownOk C Try.prog (Ψ_law22_chained m) := by
  intro f φ h
  unfold Ψ_law22_chained at h
  split at h
  · injection h with h; subst h; exact K_ref07_Valid_ok m
  · cases h
def w_law22_chained (b : Bool) : List (RV C) := [dBool.e b]
noncomputable def Q_law22_chained_2 (m : Nat) : St C → (Exit → St C → Option (List (RV C))) → Option (List (RV C)) := fun σ k => codeK Try.prog (Ψ_law22_chained m) (callK Try.prog (Ψ_law22_chained m) keep m 0) (keep 28) m (subC body28 [.r, .l, .r, .b, .o]) σ k
noncomputable def KL_law22_chained_2 (m : Nat) : Exit → St C → Option (List (RV C)) := contK Try.prog (Ψ_law22_chained m) (callK Try.prog (Ψ_law22_chained m) keep m 0) (keep 28) m body28 [.r, .l, .r, .b, .o] (leaveK Try.prog Try.f28.results.toList (finK Try.prog Try.f28.resultTypes.toList))
noncomputable def L_law22_chained_l2 (m n : Nat) (i_3 : Int) (l_0 : List Event) : Option (List (RV C)) := iterK (Q_law22_chained_2 m) (St.norm (keep 28 2)) n ({ T := [.fl (.one (.sl 0)), .dead, .dead, .fl (.one (.int .i64 i_3))] ++ List.replicate 56 .dead, F := [[]], H := [.row 35 false l_0] } : St C) (KL_law22_chained_2 m)
noncomputable def b_law22_chained_l2 {R : Type} (m : Nat) (ret : Bool → Option R) (k_l2 : Int → List Event → Option R) (i_3 : Int) (l_0 : List Event) : Option R :=
 bif decide (i_3 < (l_0.length : Int)) then
 (bif decide (0 ≤ i_3) then
 (bif decide (i_3 < (l_0.length : Int)) then
 ((ref07_Valid m (l_0.getD i_3.toNat dflt_Event)).bind fun r0 =>
 bif !r0 then
 ret false
 else
 bif (l_0.getD i_3.toNat dflt_Event).Kind != 1 then
 ret false
 else
 bif (l_0.getD i_3.toNat dflt_Event).Fault != 0 then
 ret false
 else
 bif decide ((l_0.getD i_3.toNat dflt_Event).From ≥ (l_0.getD i_3.toNat dflt_Event).To) then
 ret false
 else
 bif decide ((l_0.getD i_3.toNat dflt_Event).Value < 0) then
 ret false
 else
 bif decide ((l_0.getD i_3.toNat dflt_Event).Value > 1) then
 ret false
 else
 bif decide (i_3 > 0) then
 bif decide (0 ≤ IntKind.i64.wrap (i_3 - 1)) then
 bif decide (IntKind.i64.wrap (i_3 - 1) < (l_0.length : Int)) then
 bif (l_0.getD i_3.toNat dflt_Event).From != (l_0.getD (IntKind.i64.wrap (i_3 - 1)).toNat dflt_Event).To then
 ret false
 else
 k_l2 (IntKind.i64.wrap (i_3 + 1)) l_0
 else
 none
 else
 none
 else
 k_l2 (IntKind.i64.wrap (i_3 + 1)) l_0)
 else
 none)
 else
 none)
 else
 ret true
theorem L_law22_chained_l2_step (m n : Nat) (i_3 : Int) (l_0 : List Event) : L_law22_chained_l2 m (n + 1) i_3 l_0 = b_law22_chained_l2 m (fun x0 => some (w_law22_chained x0)) (fun i_3 l_0 => L_law22_chained_l2 m n i_3 l_0) i_3 l_0 := by kernel_rfl
theorem b_law22_chained_l2_map (m : Nat) {k_l2 : Int → List Event → Option (List (RV C))} {q_l2 : Int → List Event → Option (Bool)} (h_l2 : ∀ i_3 l_0, k_l2 i_3 l_0 = (q_l2 i_3 l_0).map w_law22_chained) (i_3 : Int) (l_0 : List Event) : b_law22_chained_l2 m (fun x0 => some (w_law22_chained x0)) k_l2 i_3 l_0 = (b_law22_chained_l2 m (fun x0 => some x0) q_l2 i_3 l_0).map w_law22_chained := by
  simp only [b_law22_chained_l2, cond_map, bind_map, map_none, map_some, h_l2]
noncomputable def law22_chained_l2 (m : Nat) : Nat → Int → List Event → Option (Bool)
  | 0, _, _ => none
  | n + 1, i_3, l_0 => b_law22_chained_l2 m (fun x0 => some x0) (fun i_3 l_0 => law22_chained_l2 m n i_3 l_0) i_3 l_0
theorem L_law22_chained_l2_eq (m : Nat) : ∀ (n : Nat) (i_3 : Int) (l_0 : List Event), L_law22_chained_l2 m n i_3 l_0 = (law22_chained_l2 m n i_3 l_0).map w_law22_chained
  | 0, i_3, l_0 => by kernel_rfl
  | n + 1, i_3, l_0 => by
    rw [L_law22_chained_l2_step]
    exact b_law22_chained_l2_map m (fun i_3 l_0 => L_law22_chained_l2_eq m n i_3 l_0) i_3 l_0
noncomputable def b_law22_chained {R : Type} (m : Nat) (ret : Bool → Option R) (k_l2 : Int → List Event → Option R) (l_0 : List Event) : Option R :=
 k_l2 0 l_0
theorem law22_chained_pre (m : Nat) (l_0 : List Event) : funK Try.prog (Ψ_law22_chained m) keep m 1 28 [(dRow 35).e l_0] = b_law22_chained m (fun x0 => some (w_law22_chained x0)) (fun i_3 l_0 => L_law22_chained_l2 m m i_3 l_0) l_0 := by kernel_rfl
theorem b_law22_chained_map (m : Nat) {k_l2 : Int → List Event → Option (List (RV C))} {q_l2 : Int → List Event → Option (Bool)} (h_l2 : ∀ i_3 l_0, k_l2 i_3 l_0 = (q_l2 i_3 l_0).map w_law22_chained) (l_0 : List Event) : b_law22_chained m (fun x0 => some (w_law22_chained x0)) k_l2 l_0 = (b_law22_chained m (fun x0 => some x0) q_l2 l_0).map w_law22_chained := by
  simp only [b_law22_chained, cond_map, bind_map, map_none, map_some, h_l2]
noncomputable def law22_chained (m : Nat) (l_0 : List Event) : Option (Bool) := b_law22_chained m (fun x0 => some x0) (fun i_3 l_0 => law22_chained_l2 m m i_3 l_0) l_0
theorem law22_chained_fun (m : Nat) (l_0 : List Event) : funK Try.prog (Ψ_law22_chained m) keep m 1 28 [(dRow 35).e l_0] = (law22_chained m l_0).map w_law22_chained := by
  rw [law22_chained_pre]
  exact b_law22_chained_map m (fun i_3 l_0 => L_law22_chained_l2_eq m m i_3 l_0) l_0
noncomputable def K_law22_chained (m : Nat) : KnownF C := mkK (dCons (dRow 35) dNil) (fun a => law22_chained m a.1) w_law22_chained
theorem K_law22_chained_ok (m : Nat) : KnownAt C Try.prog 28 fun l => (K_law22_chained m).run _ l some :=
  mkK_known good fit (Ψ_law22_chained_ok m) (keep := keep) (m := m) (d := 1) fun a => law22_chained_fun m a.1
/-! ### signalbench/signalbenchlaw22.cut -/
def w_law22_cut (b : List Event) : List (RV C) := [(dRow 35).e b]
noncomputable def Q_law22_cut_3 (m : Nat) : St C → (Exit → St C → Option (List (RV C))) → Option (List (RV C)) := fun σ k => codeK Try.prog Ψ0 (callK Try.prog Ψ0 keep m 0) (keep 29) m (subC body29 [.r, .r, .l, .r, .b, .o]) σ k
noncomputable def KL_law22_cut_3 (m : Nat) : Exit → St C → Option (List (RV C)) := contK Try.prog Ψ0 (callK Try.prog Ψ0 keep m 0) (keep 29) m body29 [.r, .r, .l, .r, .b, .o] (leaveK Try.prog Try.f29.results.toList (finK Try.prog Try.f29.resultTypes.toList))
noncomputable def L_law22_cut_l3 (m n : Nat) (ticks_1 : Int) (i_6 : Int) (l_0 : List Event) (out_5 : List Event) : Option (List (RV C)) := iterK (Q_law22_cut_3 m) (St.norm (keep 29 3)) n ({ T := [.fl (.one (.sl 0)), .fl (.one (.int .i64 ticks_1)), .dead, .dead, .dead, .fl (.one (.sl 1)), .fl (.one (.int .i64 i_6))] ++ List.replicate 59 .dead, F := [[]], H := [.row 35 false l_0, .row 35 true out_5] } : St C) (KL_law22_cut_3 m)
noncomputable def b_law22_cut_l3 {R : Type} (m : Nat) (ret : List Event → Option R) (k_l3 : Int → Int → List Event → List Event → Option R) (ticks_1 : Int) (i_6 : Int) (l_0 : List Event) (out_5 : List Event) : Option R :=
 bif decide (i_6 < (l_0.length : Int)) then
 bif decide (0 ≤ i_6) then
 bif decide (i_6 < (l_0.length : Int)) then
 bif decide (ticks_1 > 0) then
 bif (l_0.getD i_6.toNat dflt_Event).Kind == 1 then
 bif decide ((l_0.getD i_6.toNat dflt_Event).From ≥ 0) then
 bif decide ((l_0.getD i_6.toNat dflt_Event).To > (l_0.getD i_6.toNat dflt_Event).From) then
 bif decide (IntKind.i64.wrap ((l_0.getD i_6.toNat dflt_Event).To - (l_0.getD i_6.toNat dflt_Event).From) > ticks_1) then
 bif decide ((out_5.length + 1) * 64 ≤ 140737488355328) then
 bif decide (((out_5 ++ [Event.mk (l_0.getD i_6.toNat dflt_Event).Kind (l_0.getD i_6.toNat dflt_Event).From (IntKind.i64.wrap ((l_0.getD i_6.toNat dflt_Event).From + ticks_1)) (l_0.getD i_6.toNat dflt_Event).Value (l_0.getD i_6.toNat dflt_Event).Aux (l_0.getD i_6.toNat dflt_Event).Data (l_0.getD i_6.toNat dflt_Event).Fault]).length + 1) * 64 ≤ 140737488355328) then
 k_l3 ticks_1 (IntKind.i64.wrap (i_6 + 1)) l_0 (out_5 ++ [Event.mk (l_0.getD i_6.toNat dflt_Event).Kind (l_0.getD i_6.toNat dflt_Event).From (IntKind.i64.wrap ((l_0.getD i_6.toNat dflt_Event).From + ticks_1)) (l_0.getD i_6.toNat dflt_Event).Value (l_0.getD i_6.toNat dflt_Event).Aux (l_0.getD i_6.toNat dflt_Event).Data (l_0.getD i_6.toNat dflt_Event).Fault] ++ [Event.mk (l_0.getD i_6.toNat dflt_Event).Kind (IntKind.i64.wrap ((l_0.getD i_6.toNat dflt_Event).From + ticks_1)) (l_0.getD i_6.toNat dflt_Event).To (l_0.getD i_6.toNat dflt_Event).Value (l_0.getD i_6.toNat dflt_Event).Aux (l_0.getD i_6.toNat dflt_Event).Data (l_0.getD i_6.toNat dflt_Event).Fault])
 else
 none
 else
 none
 else
 bif decide ((out_5.length + 1) * 64 ≤ 140737488355328) then
 k_l3 ticks_1 (IntKind.i64.wrap (i_6 + 1)) l_0 (out_5 ++ [l_0.getD i_6.toNat dflt_Event])
 else
 none
 else
 bif decide ((out_5.length + 1) * 64 ≤ 140737488355328) then
 k_l3 ticks_1 (IntKind.i64.wrap (i_6 + 1)) l_0 (out_5 ++ [l_0.getD i_6.toNat dflt_Event])
 else
 none
 else
 bif decide ((out_5.length + 1) * 64 ≤ 140737488355328) then
 k_l3 ticks_1 (IntKind.i64.wrap (i_6 + 1)) l_0 (out_5 ++ [l_0.getD i_6.toNat dflt_Event])
 else
 none
 else
 bif decide ((out_5.length + 1) * 64 ≤ 140737488355328) then
 k_l3 ticks_1 (IntKind.i64.wrap (i_6 + 1)) l_0 (out_5 ++ [l_0.getD i_6.toNat dflt_Event])
 else
 none
 else
 bif decide ((out_5.length + 1) * 64 ≤ 140737488355328) then
 k_l3 ticks_1 (IntKind.i64.wrap (i_6 + 1)) l_0 (out_5 ++ [l_0.getD i_6.toNat dflt_Event])
 else
 none
 else
 none
 else
 none
 else
 ret out_5
theorem L_law22_cut_l3_step (m n : Nat) (ticks_1 : Int) (i_6 : Int) (l_0 : List Event) (out_5 : List Event) : L_law22_cut_l3 m (n + 1) ticks_1 i_6 l_0 out_5 = b_law22_cut_l3 m (fun x0 => some (w_law22_cut x0)) (fun ticks_1 i_6 l_0 out_5 => L_law22_cut_l3 m n ticks_1 i_6 l_0 out_5) ticks_1 i_6 l_0 out_5 := by kernel_rfl
theorem b_law22_cut_l3_map (m : Nat) {k_l3 : Int → Int → List Event → List Event → Option (List (RV C))} {q_l3 : Int → Int → List Event → List Event → Option (List Event)} (h_l3 : ∀ ticks_1 i_6 l_0 out_5, k_l3 ticks_1 i_6 l_0 out_5 = (q_l3 ticks_1 i_6 l_0 out_5).map w_law22_cut) (ticks_1 : Int) (i_6 : Int) (l_0 : List Event) (out_5 : List Event) : b_law22_cut_l3 m (fun x0 => some (w_law22_cut x0)) k_l3 ticks_1 i_6 l_0 out_5 = (b_law22_cut_l3 m (fun x0 => some x0) q_l3 ticks_1 i_6 l_0 out_5).map w_law22_cut := by
  simp only [b_law22_cut_l3, cond_map, bind_map, map_none, map_some, h_l3]
noncomputable def law22_cut_l3 (m : Nat) : Nat → Int → Int → List Event → List Event → Option (List Event)
  | 0, _, _, _, _ => none
  | n + 1, ticks_1, i_6, l_0, out_5 => b_law22_cut_l3 m (fun x0 => some x0) (fun ticks_1 i_6 l_0 out_5 => law22_cut_l3 m n ticks_1 i_6 l_0 out_5) ticks_1 i_6 l_0 out_5
theorem L_law22_cut_l3_eq (m : Nat) : ∀ (n : Nat) (ticks_1 : Int) (i_6 : Int) (l_0 : List Event) (out_5 : List Event), L_law22_cut_l3 m n ticks_1 i_6 l_0 out_5 = (law22_cut_l3 m n ticks_1 i_6 l_0 out_5).map w_law22_cut
  | 0, ticks_1, i_6, l_0, out_5 => by kernel_rfl
  | n + 1, ticks_1, i_6, l_0, out_5 => by
    rw [L_law22_cut_l3_step]
    exact b_law22_cut_l3_map m (fun ticks_1 i_6 l_0 out_5 => L_law22_cut_l3_eq m n ticks_1 i_6 l_0 out_5) ticks_1 i_6 l_0 out_5
noncomputable def b_law22_cut {R : Type} (m : Nat) (ret : List Event → Option R) (k_l3 : Int → Int → List Event → List Event → Option R) (l_0 : List Event) (ticks_1 : Int) : Option R :=
 k_l3 ticks_1 0 l_0 []
theorem law22_cut_pre (m : Nat) (l_0 : List Event) (ticks_1 : Int) : funK Try.prog Ψ0 keep m 1 29 [(dRow 35).e l_0, (dInt .i64).e ticks_1] = b_law22_cut m (fun x0 => some (w_law22_cut x0)) (fun ticks_1 i_6 l_0 out_5 => L_law22_cut_l3 m m ticks_1 i_6 l_0 out_5) l_0 ticks_1 := by kernel_rfl
theorem b_law22_cut_map (m : Nat) {k_l3 : Int → Int → List Event → List Event → Option (List (RV C))} {q_l3 : Int → Int → List Event → List Event → Option (List Event)} (h_l3 : ∀ ticks_1 i_6 l_0 out_5, k_l3 ticks_1 i_6 l_0 out_5 = (q_l3 ticks_1 i_6 l_0 out_5).map w_law22_cut) (l_0 : List Event) (ticks_1 : Int) : b_law22_cut m (fun x0 => some (w_law22_cut x0)) k_l3 l_0 ticks_1 = (b_law22_cut m (fun x0 => some x0) q_l3 l_0 ticks_1).map w_law22_cut := by
  simp only [b_law22_cut, cond_map, bind_map, map_none, map_some, h_l3]
noncomputable def law22_cut (m : Nat) (l_0 : List Event) (ticks_1 : Int) : Option (List Event) := b_law22_cut m (fun x0 => some x0) (fun ticks_1 i_6 l_0 out_5 => law22_cut_l3 m m ticks_1 i_6 l_0 out_5) l_0 ticks_1
theorem law22_cut_fun (m : Nat) (l_0 : List Event) (ticks_1 : Int) : funK Try.prog Ψ0 keep m 1 29 [(dRow 35).e l_0, (dInt .i64).e ticks_1] = (law22_cut m l_0 ticks_1).map w_law22_cut := by
  rw [law22_cut_pre]
  exact b_law22_cut_map m (fun ticks_1 i_6 l_0 out_5 => L_law22_cut_l3_eq m m ticks_1 i_6 l_0 out_5) l_0 ticks_1
noncomputable def K_law22_cut (m : Nat) : KnownF C := mkK (dCons (dRow 35) (dCons (dInt .i64) dNil)) (fun a => law22_cut m a.1 a.2.1) w_law22_cut
theorem K_law22_cut_ok (m : Nat) : KnownAt C Try.prog 29 fun l => (K_law22_cut m).run _ l some :=
  mkK_known good fit Ψ0_ok (keep := keep) (m := m) (d := 1) fun a => law22_cut_fun m a.1 a.2.1
/-! ### signalbench/signalbenchlaw22.UartPieces -/
noncomputable def Ψ_law22_UartPieces (m : Nat) : Known C := fun f => match f with
  | 9 => some (K_law22_small m)
  | 28 => some (K_law22_chained m)
  | 10 => some (K_law22_awake m)
  | 29 => some (K_law22_cut m)
  | 19 => some (K_uart_Decode m)
  | 15 => some (K_ref07_Same m)
  | _ => none
theorem Ψ_law22_UartPieces_ok (m : Nat) : KnownOk C Try.prog (Ψ_law22_UartPieces m) := by
  intro f φ h
  unfold Ψ_law22_UartPieces at h
  split at h
  · injection h with h; subst h; exact K_law22_small_ok m
  · injection h with h; subst h; exact K_law22_chained_ok m
  · injection h with h; subst h; exact K_law22_awake_ok m
  · injection h with h; subst h; exact K_law22_cut_ok m
  · injection h with h; subst h; exact K_uart_Decode_ok m
  · injection h with h; subst h; exact K_ref07_Same_ok m
  · cases h
def w_law22_UartPieces (b : Bool) : List (RV C) := [dBool.e b]
noncomputable def b_law22_UartPieces {R : Type} (m : Nat) (ret : Bool → Option R) (c_0 : Uart) (l_1 : List Event) (ticks_2 : Int) : Option R :=
 (law22_small m l_1).bind fun r0 =>
 bif !r0 then
 ((law22_awake m).bind fun r1 =>
 ret r1)
 else
 (law22_chained m l_1).bind fun r2 =>
 bif !r2 then
 ((law22_awake m).bind fun r3 =>
 ret r3)
 else
 (law22_cut m l_1 ticks_2).bind fun r4 =>
 (uart_Decode m c_0 r4).bind fun r5 =>
 (uart_Decode m c_0 l_1).bind fun r6 =>
 (ref07_Same m r5 r6).bind fun r7 =>
 bif r7 then
 ((law22_awake m).bind fun r8 =>
 ret r8)
 else
 ret false
theorem law22_UartPieces_pre (m : Nat) (c_0 : Uart) (l_1 : List Event) (ticks_2 : Int) : funK Try.prog (Ψ_law22_UartPieces m) keep m 1 7 [(dS of_Uart cells_Uart of_Uart_ok).e c_0, (dRow 35).e l_1, (dInt .i64).e ticks_2] = b_law22_UartPieces m (fun x0 => some (w_law22_UartPieces x0)) c_0 l_1 ticks_2 := by kernel_rfl
theorem b_law22_UartPieces_map (m : Nat) (c_0 : Uart) (l_1 : List Event) (ticks_2 : Int) : b_law22_UartPieces m (fun x0 => some (w_law22_UartPieces x0)) c_0 l_1 ticks_2 = (b_law22_UartPieces m (fun x0 => some x0) c_0 l_1 ticks_2).map w_law22_UartPieces := by
  simp only [b_law22_UartPieces, cond_map, bind_map, map_none, map_some]
noncomputable def law22_UartPieces (m : Nat) (c_0 : Uart) (l_1 : List Event) (ticks_2 : Int) : Option (Bool) := b_law22_UartPieces m (fun x0 => some x0) c_0 l_1 ticks_2
theorem law22_UartPieces_fun (m : Nat) (c_0 : Uart) (l_1 : List Event) (ticks_2 : Int) : funK Try.prog (Ψ_law22_UartPieces m) keep m 1 7 [(dS of_Uart cells_Uart of_Uart_ok).e c_0, (dRow 35).e l_1, (dInt .i64).e ticks_2] = (law22_UartPieces m c_0 l_1 ticks_2).map w_law22_UartPieces := by
  rw [law22_UartPieces_pre]
  exact b_law22_UartPieces_map m c_0 l_1 ticks_2
noncomputable def K_law22_UartPieces (m : Nat) : KnownF C := mkK (dCons (dS of_Uart cells_Uart of_Uart_ok) (dCons (dRow 35) (dCons (dInt .i64) dNil))) (fun a => law22_UartPieces m a.1 a.2.1 a.2.2.1) w_law22_UartPieces
theorem K_law22_UartPieces_ok (m : Nat) : KnownAt C Try.prog 7 fun l => (K_law22_UartPieces m).run _ l some :=
  mkK_known good fit (Ψ_law22_UartPieces_ok m) (keep := keep) (m := m) (d := 1) fun a => law22_UartPieces_fun m a.1 a.2.1 a.2.2.1
/-! ### signalbench/signalbenchlaw22.UartIgnores -/
noncomputable def Ψ_law22_UartIgnores (m : Nat) : Known C := fun f => match f with
  | 9 => some (K_law22_small m)
  | 10 => some (K_law22_awake m)
  | 19 => some (K_uart_Decode m)
  | 15 => some (K_ref07_Same m)
  | _ => none
theorem Ψ_law22_UartIgnores_ok (m : Nat) : KnownOk C Try.prog (Ψ_law22_UartIgnores m) := by
  intro f φ h
  unfold Ψ_law22_UartIgnores at h
  split at h
  · injection h with h; subst h; exact K_law22_small_ok m
  · injection h with h; subst h; exact K_law22_awake_ok m
  · injection h with h; subst h; exact K_uart_Decode_ok m
  · injection h with h; subst h; exact K_ref07_Same_ok m
  · cases h
def w_law22_UartIgnores (b : Bool) : List (RV C) := [dBool.e b]
noncomputable def Q_law22_UartIgnores_5 (m : Nat) : St C → (Exit → St C → Option (List (RV C))) → Option (List (RV C)) := fun σ k => codeK Try.prog (Ψ_law22_UartIgnores m) (callK Try.prog (Ψ_law22_UartIgnores m) keep m 0) (keep 8) m (subC body8 [.r, .r, .r, .l, .r, .b, .o]) σ k
noncomputable def KL_law22_UartIgnores_5 (m : Nat) : Exit → St C → Option (List (RV C)) := contK Try.prog (Ψ_law22_UartIgnores m) (callK Try.prog (Ψ_law22_UartIgnores m) keep m 0) (keep 8) m body8 [.r, .r, .r, .l, .r, .b, .o] (leaveK Try.prog Try.f8.results.toList (finK Try.prog Try.f8.resultTypes.toList))
noncomputable def L_law22_UartIgnores_l5 (m n : Nat) (i_8 : Int) (l_1 : List Event) (c1 : Uart) (c2 : Event) (m_7 : List Event) : Option (List (RV C)) := iterK (Q_law22_UartIgnores_5 m) (St.norm (keep 8 5)) n ({ T := [.dead, .fl (.one (.sl 0)), .dead, .fl (.one (.ptr 1 0)), .dead, .fl (.one (.ptr 2 0)), .dead, .fl (.one (.sl 3)), .fl (.one (.int .i64 i_8))] ++ List.replicate 65 .dead, F := [[]], H := [.row 35 false l_1, .box 25 (cells_Uart c1), .box 35 (cells_Event c2), .row 35 true m_7] } : St C) (KL_law22_UartIgnores_5 m)
noncomputable def b_law22_UartIgnores_l5 {R : Type} (m : Nat) (ret : Bool → Option R) (k_l5 : Int → List Event → Uart → Event → List Event → Option R) (i_8 : Int) (l_1 : List Event) (c1 : Uart) (c2 : Event) (m_7 : List Event) : Option R :=
 bif decide (i_8 < (l_1.length : Int)) then
 bif decide (0 ≤ i_8) then
 bif decide (i_8 < (l_1.length : Int)) then
 bif decide ((m_7.length + 2) * 64 ≤ 140737488355328) then
 k_l5 (IntKind.i64.wrap (i_8 + 1)) l_1 c1 c2 (m_7 ++ [c2, l_1.getD i_8.toNat dflt_Event])
 else
 none
 else
 none
 else
 none
 else
 bif decide ((m_7.length + 1) * 64 ≤ 140737488355328) then
 ((uart_Decode m c1 (m_7 ++ [c2])).bind fun r0 =>
 (uart_Decode m c1 l_1).bind fun r1 =>
 (ref07_Same m r0 r1).bind fun r2 =>
 bif r2 then
 ((law22_awake m).bind fun r3 =>
 ret r3)
 else
 ret false)
 else
 none
theorem L_law22_UartIgnores_l5_step (m n : Nat) (i_8 : Int) (l_1 : List Event) (c1 : Uart) (c2 : Event) (m_7 : List Event) : L_law22_UartIgnores_l5 m (n + 1) i_8 l_1 c1 c2 m_7 = b_law22_UartIgnores_l5 m (fun x0 => some (w_law22_UartIgnores x0)) (fun i_8 l_1 c1 c2 m_7 => L_law22_UartIgnores_l5 m n i_8 l_1 c1 c2 m_7) i_8 l_1 c1 c2 m_7 := by kernel_rfl
theorem b_law22_UartIgnores_l5_map (m : Nat) {k_l5 : Int → List Event → Uart → Event → List Event → Option (List (RV C))} {q_l5 : Int → List Event → Uart → Event → List Event → Option (Bool)} (h_l5 : ∀ i_8 l_1 c1 c2 m_7, k_l5 i_8 l_1 c1 c2 m_7 = (q_l5 i_8 l_1 c1 c2 m_7).map w_law22_UartIgnores) (i_8 : Int) (l_1 : List Event) (c1 : Uart) (c2 : Event) (m_7 : List Event) : b_law22_UartIgnores_l5 m (fun x0 => some (w_law22_UartIgnores x0)) k_l5 i_8 l_1 c1 c2 m_7 = (b_law22_UartIgnores_l5 m (fun x0 => some x0) q_l5 i_8 l_1 c1 c2 m_7).map w_law22_UartIgnores := by
  simp only [b_law22_UartIgnores_l5, cond_map, bind_map, map_none, map_some, h_l5]
noncomputable def law22_UartIgnores_l5 (m : Nat) : Nat → Int → List Event → Uart → Event → List Event → Option (Bool)
  | 0, _, _, _, _, _ => none
  | n + 1, i_8, l_1, c1, c2, m_7 => b_law22_UartIgnores_l5 m (fun x0 => some x0) (fun i_8 l_1 c1 c2 m_7 => law22_UartIgnores_l5 m n i_8 l_1 c1 c2 m_7) i_8 l_1 c1 c2 m_7
theorem L_law22_UartIgnores_l5_eq (m : Nat) : ∀ (n : Nat) (i_8 : Int) (l_1 : List Event) (c1 : Uart) (c2 : Event) (m_7 : List Event), L_law22_UartIgnores_l5 m n i_8 l_1 c1 c2 m_7 = (law22_UartIgnores_l5 m n i_8 l_1 c1 c2 m_7).map w_law22_UartIgnores
  | 0, i_8, l_1, c1, c2, m_7 => by kernel_rfl
  | n + 1, i_8, l_1, c1, c2, m_7 => by
    rw [L_law22_UartIgnores_l5_step]
    exact b_law22_UartIgnores_l5_map m (fun i_8 l_1 c1 c2 m_7 => L_law22_UartIgnores_l5_eq m n i_8 l_1 c1 c2 m_7) i_8 l_1 c1 c2 m_7
noncomputable def b_law22_UartIgnores {R : Type} (m : Nat) (ret : Bool → Option R) (k_l5 : Int → List Event → Uart → Event → List Event → Option R) (c_0 : Uart) (l_1 : List Event) (x_2 : Event) : Option R :=
 (law22_small m l_1).bind fun r0 =>
 bif !r0 then
 ((law22_awake m).bind fun r1 =>
 ret r1)
 else
 bif decide ((x_2.Data.size : Int) > 20) then
 ((law22_awake m).bind fun r2 =>
 ret r2)
 else
 bif x_2.Kind == 1 then
 (bif x_2.Fault == 0 then
 (bif decide (x_2.From < x_2.To) then
 (bif decide (x_2.Value ≥ 0) then
 (bif decide (x_2.Value ≤ 1) then
 ((law22_awake m).bind fun r3 =>
 ret r3)
 else
 k_l5 0 l_1 c_0 x_2 [])
 else
 k_l5 0 l_1 c_0 x_2 [])
 else
 k_l5 0 l_1 c_0 x_2 [])
 else
 k_l5 0 l_1 c_0 x_2 [])
 else
 k_l5 0 l_1 c_0 x_2 []
theorem law22_UartIgnores_pre (m : Nat) (c_0 : Uart) (l_1 : List Event) (x_2 : Event) : funK Try.prog (Ψ_law22_UartIgnores m) keep m 1 8 [(dS of_Uart cells_Uart of_Uart_ok).e c_0, (dRow 35).e l_1, (dS of_Event cells_Event of_Event_ok).e x_2] = b_law22_UartIgnores m (fun x0 => some (w_law22_UartIgnores x0)) (fun i_8 l_1 c1 c2 m_7 => L_law22_UartIgnores_l5 m m i_8 l_1 c1 c2 m_7) c_0 l_1 x_2 := by kernel_rfl
theorem b_law22_UartIgnores_map (m : Nat) {k_l5 : Int → List Event → Uart → Event → List Event → Option (List (RV C))} {q_l5 : Int → List Event → Uart → Event → List Event → Option (Bool)} (h_l5 : ∀ i_8 l_1 c1 c2 m_7, k_l5 i_8 l_1 c1 c2 m_7 = (q_l5 i_8 l_1 c1 c2 m_7).map w_law22_UartIgnores) (c_0 : Uart) (l_1 : List Event) (x_2 : Event) : b_law22_UartIgnores m (fun x0 => some (w_law22_UartIgnores x0)) k_l5 c_0 l_1 x_2 = (b_law22_UartIgnores m (fun x0 => some x0) q_l5 c_0 l_1 x_2).map w_law22_UartIgnores := by
  simp only [b_law22_UartIgnores, cond_map, bind_map, map_none, map_some, h_l5]
noncomputable def law22_UartIgnores (m : Nat) (c_0 : Uart) (l_1 : List Event) (x_2 : Event) : Option (Bool) := b_law22_UartIgnores m (fun x0 => some x0) (fun i_8 l_1 c1 c2 m_7 => law22_UartIgnores_l5 m m i_8 l_1 c1 c2 m_7) c_0 l_1 x_2
theorem law22_UartIgnores_fun (m : Nat) (c_0 : Uart) (l_1 : List Event) (x_2 : Event) : funK Try.prog (Ψ_law22_UartIgnores m) keep m 1 8 [(dS of_Uart cells_Uart of_Uart_ok).e c_0, (dRow 35).e l_1, (dS of_Event cells_Event of_Event_ok).e x_2] = (law22_UartIgnores m c_0 l_1 x_2).map w_law22_UartIgnores := by
  rw [law22_UartIgnores_pre]
  exact b_law22_UartIgnores_map m (fun i_8 l_1 c1 c2 m_7 => L_law22_UartIgnores_l5_eq m m i_8 l_1 c1 c2 m_7) c_0 l_1 x_2
noncomputable def K_law22_UartIgnores (m : Nat) : KnownF C := mkK (dCons (dS of_Uart cells_Uart of_Uart_ok) (dCons (dRow 35) (dCons (dS of_Event cells_Event of_Event_ok) dNil))) (fun a => law22_UartIgnores m a.1 a.2.1 a.2.2.1) w_law22_UartIgnores
theorem K_law22_UartIgnores_ok (m : Nat) : KnownAt C Try.prog 8 fun l => (K_law22_UartIgnores m).run _ l some :=
  mkK_known good fit (Ψ_law22_UartIgnores_ok m) (keep := keep) (m := m) (d := 1) fun a => law22_UartIgnores_fun m a.1 a.2.1 a.2.2.1
end Go.Abs.K
