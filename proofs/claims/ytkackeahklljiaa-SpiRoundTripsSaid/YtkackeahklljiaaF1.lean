/- Plain functions for the functions of the seat, printed by a program of this claim's own, with their proofs. -/
import Derived.Test.YtkackeahklljiaaB
set_option linter.unusedVariables false
set_option linter.unusedSimpArgs false
set_option maxRecDepth 100000
namespace Go.Abs.K
open Go Go.Abs Go.Proofs
/-! ### signalbench/spi.Check -/
def w_spi_Check (b : Int) : List (RV C) := [(dInt .i64).e b]
noncomputable def b_spi_Check {R : Type} (m : Nat) (ret : Int → Option R) (c_0 : Spi) : Option R :=
 bif decide (c_0.T < 1) then
 ret 2
 else
 bif decide (c_0.T > 1048576) then
 ret 2
 else
 bif decide (c_0.Mode < 0) then
 ret 2
 else
 bif decide (c_0.Mode > 3) then
 ret 2
 else
 bif decide (c_0.Bits < 1) then
 ret 2
 else
 bif decide (c_0.Bits > 8) then
 ret 2
 else
 ret 0
theorem spi_Check_pre (m : Nat) (c_0 : Spi) : funK Try.prog Ψ0 keep m 1 15 [(dS of_Spi cells_Spi of_Spi_ok).e c_0] = b_spi_Check m (fun x0 => some (w_spi_Check x0)) c_0 := by kernel_rfl
theorem b_spi_Check_map (m : Nat) (c_0 : Spi) : b_spi_Check m (fun x0 => some (w_spi_Check x0)) c_0 = (b_spi_Check m (fun x0 => some x0) c_0).map w_spi_Check := by
  simp only [b_spi_Check, cond_map, bind_map, map_none, map_some]
noncomputable def spi_Check (m : Nat) (c_0 : Spi) : Option (Int) := b_spi_Check m (fun x0 => some x0) c_0
theorem spi_Check_fun (m : Nat) (c_0 : Spi) : funK Try.prog Ψ0 keep m 1 15 [(dS of_Spi cells_Spi of_Spi_ok).e c_0] = (spi_Check m c_0).map w_spi_Check := by
  rw [spi_Check_pre]
  exact b_spi_Check_map m c_0
noncomputable def K_spi_Check (m : Nat) : KnownF C := mkK (dCons (dS of_Spi cells_Spi of_Spi_ok) dNil) (fun a => spi_Check m a.1) w_spi_Check
theorem K_spi_Check_ok (m : Nat) : KnownAt C Try.prog 15 fun l => (K_spi_Check m).run _ l some :=
  mkK_known good fit Ψ0_ok (keep := keep) (m := m) (d := 1) fun a => spi_Check_fun m a.1
/-! ### signalbench/spi.checkItem -/
def w_spi_checkItem (b : Int) : List (RV C) := [(dInt .i64).e b]
noncomputable def Q_spi_checkItem_6 (m : Nat) : St C → (Exit → St C → Option (List (RV C))) → Option (List (RV C)) := fun σ k => codeK Try.prog Ψ0 (callK Try.prog Ψ0 keep m 0) (keep 35) m (subC body35 [.r, .r, .r, .l, .r, .b, .o]) σ k
noncomputable def KL_spi_checkItem_6 (m : Nat) : Exit → St C → Option (List (RV C)) := contK Try.prog Ψ0 (callK Try.prog Ψ0 keep m 0) (keep 35) m body35 [.r, .r, .r, .l, .r, .b, .o] (leaveK Try.prog Try.f35.results.toList (finK Try.prog Try.f35.resultTypes.toList))
noncomputable def L_spi_checkItem_l6 (m n : Nat) (t20 : Int) (t21 : Int) (c0 : Spi) (c1 : Item) : Option (List (RV C)) := iterK (Q_spi_checkItem_6 m) (St.norm (keep 35 6)) n ({ T := [.dead, .dead, .fl (.one (.ptr 0 0)), .fl (.one (.ptr 1 0)), .dead, .dead, .dead, .dead, .dead, .dead, .dead, .dead, .dead, .dead, .dead, .dead, .dead, .dead, .dead, .dead, .fl (.one (.int .i64 t20)), .fl (.one (.int .i64 t21))] ++ List.replicate 41 .dead, F := [[]], H := [.box 23 (cells_Spi c0), .box 47 (cells_Item c1)] } : St C) (KL_spi_checkItem_6 m)
noncomputable def b_spi_checkItem_l6 {R : Type} (m : Nat) (ret : Int → Option R) (k_l6 : Int → Int → Spi → Item → Option R) (t20 : Int) (t21 : Int) (c0 : Spi) (c1 : Item) : Option R :=
 bif decide (t21 < t20) then
 bif decide (0 ≤ t21) then
 bif decide (t21 < (c1.Data.size : Int)) then
 bif decide (c0.Bits < 0) then
 none
 else
 bif (IntKind.i64.wrap (byteAt c1.Data t21)).fdiv (2 ^ min c0.Bits.toNat 64) != 0 then
 ret 2
 else
 k_l6 t20 (IntKind.i64.wrap (t21 + 1)) c0 c1
 else
 none
 else
 none
 else
 bif c1.Fault != 0 then
 bif c1.Fault != 8 then
 ret 1
 else
 bif c1.Fault == 8 then
 bif c1.Data.toList == (bs []).toList then
 ret 17
 else
 bif c0.Bits == 1 then
 ret 17
 else
 bif c1.Value != 0 then
 ret 1
 else
 bif c1.Aux != 0 then
 ret 1
 else
 ret 0
 else
 bif c1.Value != 0 then
 ret 1
 else
 bif c1.Aux != 0 then
 ret 1
 else
 ret 0
 else
 bif c1.Fault == 8 then
 bif c1.Data.toList == (bs []).toList then
 ret 17
 else
 bif c0.Bits == 1 then
 ret 17
 else
 bif c1.Value != 0 then
 ret 1
 else
 bif c1.Aux != 0 then
 ret 1
 else
 ret 0
 else
 bif c1.Value != 0 then
 ret 1
 else
 bif c1.Aux != 0 then
 ret 1
 else
 ret 0
theorem L_spi_checkItem_l6_step (m n : Nat) (t20 : Int) (t21 : Int) (c0 : Spi) (c1 : Item) : L_spi_checkItem_l6 m (n + 1) t20 t21 c0 c1 = b_spi_checkItem_l6 m (fun x0 => some (w_spi_checkItem x0)) (fun t20 t21 c0 c1 => L_spi_checkItem_l6 m n t20 t21 c0 c1) t20 t21 c0 c1 := by kernel_rfl
theorem b_spi_checkItem_l6_map (m : Nat) {k_l6 : Int → Int → Spi → Item → Option (List (RV C))} {q_l6 : Int → Int → Spi → Item → Option (Int)} (h_l6 : ∀ t20 t21 c0 c1, k_l6 t20 t21 c0 c1 = (q_l6 t20 t21 c0 c1).map w_spi_checkItem) (t20 : Int) (t21 : Int) (c0 : Spi) (c1 : Item) : b_spi_checkItem_l6 m (fun x0 => some (w_spi_checkItem x0)) k_l6 t20 t21 c0 c1 = (b_spi_checkItem_l6 m (fun x0 => some x0) q_l6 t20 t21 c0 c1).map w_spi_checkItem := by
  simp only [b_spi_checkItem_l6, cond_map, bind_map, map_none, map_some, h_l6]
noncomputable def spi_checkItem_l6 (m : Nat) : Nat → Int → Int → Spi → Item → Option (Int)
  | 0, _, _, _, _ => none
  | n + 1, t20, t21, c0, c1 => b_spi_checkItem_l6 m (fun x0 => some x0) (fun t20 t21 c0 c1 => spi_checkItem_l6 m n t20 t21 c0 c1) t20 t21 c0 c1
theorem L_spi_checkItem_l6_eq (m : Nat) : ∀ (n : Nat) (t20 : Int) (t21 : Int) (c0 : Spi) (c1 : Item), L_spi_checkItem_l6 m n t20 t21 c0 c1 = (spi_checkItem_l6 m n t20 t21 c0 c1).map w_spi_checkItem
  | 0, t20, t21, c0, c1 => by kernel_rfl
  | n + 1, t20, t21, c0, c1 => by
    rw [L_spi_checkItem_l6_step]
    exact b_spi_checkItem_l6_map m (fun t20 t21 c0 c1 => L_spi_checkItem_l6_eq m n t20 t21 c0 c1) t20 t21 c0 c1
noncomputable def b_spi_checkItem {R : Type} (m : Nat) (ret : Int → Option R) (k_l6 : Int → Int → Spi → Item → Option R) (c_0 : Spi) (x_1 : Item) : Option R :=
 bif decide (x_1.Gap < 0) then
 ret 1
 else
 bif decide (x_1.Gap > 1048576) then
 ret 1
 else
 bif decide ((x_1.Data.size : Int) > 4096) then
 ret 6
 else
 k_l6 (x_1.Data.size : Int) 0 c_0 x_1
theorem spi_checkItem_pre (m : Nat) (c_0 : Spi) (x_1 : Item) : funK Try.prog Ψ0 keep m 1 35 [(dS of_Spi cells_Spi of_Spi_ok).e c_0, (dS of_Item cells_Item of_Item_ok).e x_1] = b_spi_checkItem m (fun x0 => some (w_spi_checkItem x0)) (fun t20 t21 c0 c1 => L_spi_checkItem_l6 m m t20 t21 c0 c1) c_0 x_1 := by kernel_rfl
theorem b_spi_checkItem_map (m : Nat) {k_l6 : Int → Int → Spi → Item → Option (List (RV C))} {q_l6 : Int → Int → Spi → Item → Option (Int)} (h_l6 : ∀ t20 t21 c0 c1, k_l6 t20 t21 c0 c1 = (q_l6 t20 t21 c0 c1).map w_spi_checkItem) (c_0 : Spi) (x_1 : Item) : b_spi_checkItem m (fun x0 => some (w_spi_checkItem x0)) k_l6 c_0 x_1 = (b_spi_checkItem m (fun x0 => some x0) q_l6 c_0 x_1).map w_spi_checkItem := by
  simp only [b_spi_checkItem, cond_map, bind_map, map_none, map_some, h_l6]
noncomputable def spi_checkItem (m : Nat) (c_0 : Spi) (x_1 : Item) : Option (Int) := b_spi_checkItem m (fun x0 => some x0) (fun t20 t21 c0 c1 => spi_checkItem_l6 m m t20 t21 c0 c1) c_0 x_1
theorem spi_checkItem_fun (m : Nat) (c_0 : Spi) (x_1 : Item) : funK Try.prog Ψ0 keep m 1 35 [(dS of_Spi cells_Spi of_Spi_ok).e c_0, (dS of_Item cells_Item of_Item_ok).e x_1] = (spi_checkItem m c_0 x_1).map w_spi_checkItem := by
  rw [spi_checkItem_pre]
  exact b_spi_checkItem_map m (fun t20 t21 c0 c1 => L_spi_checkItem_l6_eq m m t20 t21 c0 c1) c_0 x_1
noncomputable def K_spi_checkItem (m : Nat) : KnownF C := mkK (dCons (dS of_Spi cells_Spi of_Spi_ok) (dCons (dS of_Item cells_Item of_Item_ok) dNil)) (fun a => spi_checkItem m a.1 a.2.1) w_spi_checkItem
theorem K_spi_checkItem_ok (m : Nat) : KnownAt C Try.prog 35 fun l => (K_spi_checkItem m).run _ l some :=
  mkK_known good fit Ψ0_ok (keep := keep) (m := m) (d := 1) fun a => spi_checkItem_fun m a.1 a.2.1
/-! ### (*signalbench/spi.sender).send -/
def w_spi_sender_send (b : List Run × Int) : List (RV C) := [(dRow 54).e b.1, (dInt .i64).e b.2]
noncomputable def b_spi_sender_send {R : Type} (m : Nat) (ret : List Run → Int → Option R) (w_0_runs : List Run) (w_0_total : Int) (level_1 : Int) (ticks_2 : Int) : Option R :=
 bif decide ((w_0_runs.length : Int) > 0) then
 bif decide (0 ≤ IntKind.i64.wrap ((w_0_runs.length : Int) - 1)) then
 bif decide (IntKind.i64.wrap ((w_0_runs.length : Int) - 1) < (w_0_runs.length : Int)) then
 bif (w_0_runs.getD (IntKind.i64.wrap ((w_0_runs.length : Int) - 1)).toNat dflt_Run).Level == level_1 then
 bif decide (0 ≤ IntKind.i64.wrap ((w_0_runs.length : Int) - 1)) then
 bif decide (IntKind.i64.wrap ((w_0_runs.length : Int) - 1) < (w_0_runs.length : Int)) then
 bif decide (0 ≤ IntKind.i64.wrap ((w_0_runs.length : Int) - 1)) then
 bif decide (IntKind.i64.wrap ((w_0_runs.length : Int) - 1) < (w_0_runs.length : Int)) then
 ret (w_0_runs.set (IntKind.i64.wrap ((w_0_runs.length : Int) - 1)).toNat (Run.mk (w_0_runs.getD (IntKind.i64.wrap ((w_0_runs.length : Int) - 1)).toNat dflt_Run).Level (IntKind.i64.wrap ((w_0_runs.getD (IntKind.i64.wrap ((w_0_runs.length : Int) - 1)).toNat dflt_Run).Ticks + ticks_2)))) (IntKind.i64.wrap (w_0_total + ticks_2))
 else
 none
 else
 none
 else
 none
 else
 none
 else
 bif decide ((w_0_runs.length : Int) ≤ 262144) then
 bif decide ((w_0_runs.length + 1) * 16 ≤ 140737488355328) then
 ret (w_0_runs ++ [Run.mk level_1 ticks_2]) (IntKind.i64.wrap (w_0_total + ticks_2))
 else
 none
 else
 ret w_0_runs (IntKind.i64.wrap (w_0_total + ticks_2))
 else
 none
 else
 none
 else
 bif decide ((w_0_runs.length : Int) ≤ 262144) then
 bif decide ((w_0_runs.length + 1) * 16 ≤ 140737488355328) then
 ret (w_0_runs ++ [Run.mk level_1 ticks_2]) (IntKind.i64.wrap (w_0_total + ticks_2))
 else
 none
 else
 ret w_0_runs (IntKind.i64.wrap (w_0_total + ticks_2))
theorem spi_sender_send_pre (m : Nat) (w_0_runs : List Run) (w_0_total : Int) (level_1 : Int) (ticks_2 : Int) : funE Try.prog Ψ0 keep m 1 37 [.box 67 [41, 3], .no, .no] [(dRow 54).e w_0_runs, (dInt .i64).e w_0_total, (dInt .i64).e level_1, (dInt .i64).e ticks_2] = b_spi_sender_send m (fun x0 x1 => some (w_spi_sender_send (x0, x1))) w_0_runs w_0_total level_1 ticks_2 := by kernel_rfl
theorem b_spi_sender_send_map (m : Nat) (w_0_runs : List Run) (w_0_total : Int) (level_1 : Int) (ticks_2 : Int) : b_spi_sender_send m (fun x0 x1 => some (w_spi_sender_send (x0, x1))) w_0_runs w_0_total level_1 ticks_2 = (b_spi_sender_send m (fun x0 x1 => some (x0, x1)) w_0_runs w_0_total level_1 ticks_2).map w_spi_sender_send := by
  simp only [b_spi_sender_send, cond_map, bind_map, map_none, map_some]
noncomputable def spi_sender_send (m : Nat) (w_0_runs : List Run) (w_0_total : Int) (level_1 : Int) (ticks_2 : Int) : Option (List Run × Int) := b_spi_sender_send m (fun x0 x1 => some (x0, x1)) w_0_runs w_0_total level_1 ticks_2
theorem spi_sender_send_fun (m : Nat) (w_0_runs : List Run) (w_0_total : Int) (level_1 : Int) (ticks_2 : Int) : funE Try.prog Ψ0 keep m 1 37 [.box 67 [41, 3], .no, .no] [(dRow 54).e w_0_runs, (dInt .i64).e w_0_total, (dInt .i64).e level_1, (dInt .i64).e ticks_2] = (spi_sender_send m w_0_runs w_0_total level_1 ticks_2).map w_spi_sender_send := by
  rw [spi_sender_send_pre]
  exact b_spi_sender_send_map m w_0_runs w_0_total level_1 ticks_2
noncomputable def K_spi_sender_send (m : Nat) : KnownF C := mkE [.box 67 [41, 3], .no, .no] (dCons (dRow 54) (dCons (dInt .i64) (dCons (dInt .i64) (dCons (dInt .i64) dNil)))) (fun a => spi_sender_send m a.1 a.2.1 a.2.2.1 a.2.2.2.1) w_spi_sender_send
theorem K_spi_sender_send_ok (m : Nat) : KnownAtE C Try.prog 37 [.box 67 [41, 3], .no, .no] fun l => (K_spi_sender_send m).run _ l some :=
  mkE_known good fit Ψ0_ok (keep := keep) (m := m) (d := 1) fun a => spi_sender_send_fun m a.1 a.2.1 a.2.2.1 a.2.2.2.1
/-! ### (*signalbench/spi.sender).item -/
noncomputable def Ψ_spi_sender_item (m : Nat) : Known C := fun f => match f with
  | 37 => some (K_spi_sender_send m)
  | _ => none
theorem Ψ_spi_sender_item_ok (m : Nat) : KnownOk C Try.prog (Ψ_spi_sender_item m) := by
  intro f φ h
  unfold Ψ_spi_sender_item at h
  split at h
  · injection h with h; subst h; exact K_spi_sender_send_ok m
  · cases h
def w_spi_sender_item (b : List Run × Int) : List (RV C) := [(dRow 54).e b.1, (dInt .i64).e b.2]
noncomputable def Q_spi_sender_item_10 (m : Nat) : St C → (Exit → St C → Option (List (RV C))) → Option (List (RV C)) := fun σ k => codeK Try.prog (Ψ_spi_sender_item m) (callK Try.prog (Ψ_spi_sender_item m) keep m 0) (keep 36) m (subC body36 [.r, .r, .r, .r, .r, .r, .r, .l, .r, .b, .o]) σ k
noncomputable def KL_spi_sender_item_10 (m : Nat) : Exit → St C → Option (List (RV C)) := contK Try.prog (Ψ_spi_sender_item m) (callK Try.prog (Ψ_spi_sender_item m) keep m 0) (keep 36) m body36 [.r, .r, .r, .r, .r, .r, .r, .l, .r, .b, .o] (leaveK Try.prog Try.f36.results.toList (finE Try.prog [.box 67 [41, 3], .no, .no] Try.f36.resultTypes.toList))
noncomputable def L_spi_sender_item_l10 (m n : Nat) (rest_6 : Int) (before_7 : Int) (t49 : Int) (t50 : Int) (c0_1 : Int) (r1 : List Run) (c2 : Spi) (c3 : Item) : Option (List (RV C)) := iterK (Q_spi_sender_item_10 m) (St.norm (keep 36 10)) n ({ T := [.fl (.one (.ptr 0 0)), .dead, .dead, .dead, .fl (.one (.ptr 2 0)), .fl (.one (.ptr 3 0)), .fl (.one (.int .i64 rest_6)), .fl (.one (.int .i64 before_7)), .dead, .dead, .dead, .dead, .dead, .dead, .dead, .dead, .dead, .dead, .dead, .dead, .dead, .dead, .dead, .dead, .dead, .dead, .dead, .dead, .dead, .dead, .dead, .dead, .dead, .dead, .dead, .dead, .dead, .dead, .dead, .dead, .dead, .dead, .dead, .dead, .dead, .dead, .dead, .dead, .dead, .fl (.one (.int .i64 t49)), .fl (.one (.int .i64 t50))] ++ List.replicate 46 .dead, F := [[.fl (.one (.ptr 0 0)), .dead, .dead]], H := [.box 67 ([.sl 1, .int .i64 c0_1]), .row 54 true r1, .box 23 (cells_Spi c2), .box 47 (cells_Item c3)] } : St C) (KL_spi_sender_item_10 m)
noncomputable def b_spi_sender_item_l10 {R : Type} (m : Nat) (ret : List Run → Int → Option R) (k_l10 : Int → Int → Int → Int → Int → List Run → Spi → Item → Option R) (rest_6 : Int) (before_7 : Int) (t49 : Int) (t50 : Int) (c0_1 : Int) (r1 : List Run) (c2 : Spi) (c3 : Item) : Option R :=
 bif decide (t50 < t49) then
 (bif decide (c2.Bits = 0) then
 none
 else
 bif c2.Msb then
 (bif decide (c2.Bits = 0) then
 none
 else
 bif decide (0 ≤ IntKind.i64.wrap (t50.tdiv c2.Bits)) then
 (bif decide (IntKind.i64.wrap (t50.tdiv c2.Bits) < (c3.Data.size : Int)) then
 (bif decide (IntKind.i64.wrap (IntKind.i64.wrap (c2.Bits - 1) - t50.tmod c2.Bits) < 0) then
 none
 else
 (spi_sender_send m r1 c0_1 (IntKind.i64.wrap (((BitVec.ofInt 64 (IntKind.i64.wrap (IntKind.i64.wrap (((BitVec.ofInt 64 ((IntKind.i64.wrap (byteAt c3.Data (IntKind.i64.wrap (t50.tdiv c2.Bits)))).fdiv (2 ^ min (IntKind.i64.wrap (IntKind.i64.wrap (c2.Bits - 1) - t50.tmod c2.Bits)).toNat 64)) &&& BitVec.ofInt 64 1).toNat : Int)) * 2)) ||| BitVec.ofInt 64 before_7).toNat : Int))) c2.T).bind fun r0 =>
 (spi_sender_send m r0.fst r0.snd (IntKind.i64.wrap (IntKind.i64.wrap (((BitVec.ofInt 64 (IntKind.i64.wrap (IntKind.i64.wrap (((BitVec.ofInt 64 ((IntKind.i64.wrap (byteAt c3.Data (IntKind.i64.wrap (t50.tdiv c2.Bits)))).fdiv (2 ^ min (IntKind.i64.wrap (IntKind.i64.wrap (c2.Bits - 1) - t50.tmod c2.Bits)).toNat 64)) &&& BitVec.ofInt 64 1).toNat : Int)) * 2)) ||| BitVec.ofInt 64 1).toNat : Int)) - before_7)) c2.T).bind fun r1 =>
 k_l10 rest_6 before_7 t49 (IntKind.i64.wrap (t50 + 1)) r1.snd r1.fst c2 c3)
 else
 none)
 else
 none)
 else
 bif decide (c2.Bits = 0) then
 none
 else
 bif decide (0 ≤ IntKind.i64.wrap (t50.tdiv c2.Bits)) then
 (bif decide (IntKind.i64.wrap (t50.tdiv c2.Bits) < (c3.Data.size : Int)) then
 (bif decide (t50.tmod c2.Bits < 0) then
 none
 else
 (spi_sender_send m r1 c0_1 (IntKind.i64.wrap (((BitVec.ofInt 64 (IntKind.i64.wrap (IntKind.i64.wrap (((BitVec.ofInt 64 ((IntKind.i64.wrap (byteAt c3.Data (IntKind.i64.wrap (t50.tdiv c2.Bits)))).fdiv (2 ^ min (t50.tmod c2.Bits).toNat 64)) &&& BitVec.ofInt 64 1).toNat : Int)) * 2)) ||| BitVec.ofInt 64 before_7).toNat : Int))) c2.T).bind fun r2 =>
 (spi_sender_send m r2.fst r2.snd (IntKind.i64.wrap (IntKind.i64.wrap (((BitVec.ofInt 64 (IntKind.i64.wrap (IntKind.i64.wrap (((BitVec.ofInt 64 ((IntKind.i64.wrap (byteAt c3.Data (IntKind.i64.wrap (t50.tdiv c2.Bits)))).fdiv (2 ^ min (t50.tmod c2.Bits).toNat 64)) &&& BitVec.ofInt 64 1).toNat : Int)) * 2)) ||| BitVec.ofInt 64 1).toNat : Int)) - before_7)) c2.T).bind fun r3 =>
 k_l10 rest_6 before_7 t49 (IntKind.i64.wrap (t50 + 1)) r3.snd r3.fst c2 c3)
 else
 none)
 else
 none)
 else
 (spi_sender_send m r1 c0_1 rest_6 c2.T).bind fun r4 =>
 ret r4.fst r4.snd
theorem L_spi_sender_item_l10_step (m n : Nat) (rest_6 : Int) (before_7 : Int) (t49 : Int) (t50 : Int) (c0_1 : Int) (r1 : List Run) (c2 : Spi) (c3 : Item) : L_spi_sender_item_l10 m (n + 1) rest_6 before_7 t49 t50 c0_1 r1 c2 c3 = b_spi_sender_item_l10 m (fun x0 x1 => some (w_spi_sender_item (x0, x1))) (fun rest_6 before_7 t49 t50 c0_1 r1 c2 c3 => L_spi_sender_item_l10 m n rest_6 before_7 t49 t50 c0_1 r1 c2 c3) rest_6 before_7 t49 t50 c0_1 r1 c2 c3 := by kernel_rfl
theorem b_spi_sender_item_l10_map (m : Nat) {k_l10 : Int → Int → Int → Int → Int → List Run → Spi → Item → Option (List (RV C))} {q_l10 : Int → Int → Int → Int → Int → List Run → Spi → Item → Option (List Run × Int)} (h_l10 : ∀ rest_6 before_7 t49 t50 c0_1 r1 c2 c3, k_l10 rest_6 before_7 t49 t50 c0_1 r1 c2 c3 = (q_l10 rest_6 before_7 t49 t50 c0_1 r1 c2 c3).map w_spi_sender_item) (rest_6 : Int) (before_7 : Int) (t49 : Int) (t50 : Int) (c0_1 : Int) (r1 : List Run) (c2 : Spi) (c3 : Item) : b_spi_sender_item_l10 m (fun x0 x1 => some (w_spi_sender_item (x0, x1))) k_l10 rest_6 before_7 t49 t50 c0_1 r1 c2 c3 = (b_spi_sender_item_l10 m (fun x0 x1 => some (x0, x1)) q_l10 rest_6 before_7 t49 t50 c0_1 r1 c2 c3).map w_spi_sender_item := by
  simp only [b_spi_sender_item_l10, cond_map, bind_map, map_none, map_some, h_l10]
noncomputable def spi_sender_item_l10 (m : Nat) : Nat → Int → Int → Int → Int → Int → List Run → Spi → Item → Option (List Run × Int)
  | 0, _, _, _, _, _, _, _, _ => none
  | n + 1, rest_6, before_7, t49, t50, c0_1, r1, c2, c3 => b_spi_sender_item_l10 m (fun x0 x1 => some (x0, x1)) (fun rest_6 before_7 t49 t50 c0_1 r1 c2 c3 => spi_sender_item_l10 m n rest_6 before_7 t49 t50 c0_1 r1 c2 c3) rest_6 before_7 t49 t50 c0_1 r1 c2 c3
theorem L_spi_sender_item_l10_eq (m : Nat) : ∀ (n : Nat) (rest_6 : Int) (before_7 : Int) (t49 : Int) (t50 : Int) (c0_1 : Int) (r1 : List Run) (c2 : Spi) (c3 : Item), L_spi_sender_item_l10 m n rest_6 before_7 t49 t50 c0_1 r1 c2 c3 = (spi_sender_item_l10 m n rest_6 before_7 t49 t50 c0_1 r1 c2 c3).map w_spi_sender_item
  | 0, rest_6, before_7, t49, t50, c0_1, r1, c2, c3 => by kernel_rfl
  | n + 1, rest_6, before_7, t49, t50, c0_1, r1, c2, c3 => by
    rw [L_spi_sender_item_l10_step]
    exact b_spi_sender_item_l10_map m (fun rest_6 before_7 t49 t50 c0_1 r1 c2 c3 => L_spi_sender_item_l10_eq m n rest_6 before_7 t49 t50 c0_1 r1 c2 c3) rest_6 before_7 t49 t50 c0_1 r1 c2 c3
noncomputable def b_spi_sender_item {R : Type} (m : Nat) (ret : List Run → Int → Option R) (k_l10 : Int → Int → Int → Int → Int → List Run → Spi → Item → Option R) (w_0_runs : List Run) (w_0_total : Int) (c_1 : Spi) (x_2 : Item) : Option R :=
 bif c_1.Mode == 0 then
 ((spi_sender_send m w_0_runs w_0_total (IntKind.i64.wrap (((BitVec.ofInt 64 4 ||| BitVec.ofInt 64 (IntKind.i64.wrap (c_1.Mode.tdiv 2))).toNat : Int))) (IntKind.i64.wrap (IntKind.i64.wrap (2 * c_1.T) + x_2.Gap))).bind fun r0 =>
 (spi_sender_send m r0.fst r0.snd (IntKind.i64.wrap (c_1.Mode.tdiv 2)) c_1.T).bind fun r1 =>
 bif x_2.Fault == 8 then
 k_l10 (IntKind.i64.wrap (c_1.Mode.tdiv 2)) 0 (IntKind.i64.wrap (IntKind.i64.wrap ((x_2.Data.size : Int) * c_1.Bits) - 1)) 0 r1.snd r1.fst c_1 x_2
 else
 k_l10 (IntKind.i64.wrap (c_1.Mode.tdiv 2)) 0 (IntKind.i64.wrap ((x_2.Data.size : Int) * c_1.Bits)) 0 r1.snd r1.fst c_1 x_2)
 else
 bif c_1.Mode == 3 then
 ((spi_sender_send m w_0_runs w_0_total (IntKind.i64.wrap (((BitVec.ofInt 64 4 ||| BitVec.ofInt 64 (IntKind.i64.wrap (c_1.Mode.tdiv 2))).toNat : Int))) (IntKind.i64.wrap (IntKind.i64.wrap (2 * c_1.T) + x_2.Gap))).bind fun r2 =>
 (spi_sender_send m r2.fst r2.snd (IntKind.i64.wrap (c_1.Mode.tdiv 2)) c_1.T).bind fun r3 =>
 bif x_2.Fault == 8 then
 k_l10 (IntKind.i64.wrap (c_1.Mode.tdiv 2)) 0 (IntKind.i64.wrap (IntKind.i64.wrap ((x_2.Data.size : Int) * c_1.Bits) - 1)) 0 r3.snd r3.fst c_1 x_2
 else
 k_l10 (IntKind.i64.wrap (c_1.Mode.tdiv 2)) 0 (IntKind.i64.wrap ((x_2.Data.size : Int) * c_1.Bits)) 0 r3.snd r3.fst c_1 x_2)
 else
 (spi_sender_send m w_0_runs w_0_total (IntKind.i64.wrap (((BitVec.ofInt 64 4 ||| BitVec.ofInt 64 (IntKind.i64.wrap (c_1.Mode.tdiv 2))).toNat : Int))) (IntKind.i64.wrap (IntKind.i64.wrap (2 * c_1.T) + x_2.Gap))).bind fun r4 =>
 (spi_sender_send m r4.fst r4.snd (IntKind.i64.wrap (c_1.Mode.tdiv 2)) c_1.T).bind fun r5 =>
 bif x_2.Fault == 8 then
 k_l10 (IntKind.i64.wrap (c_1.Mode.tdiv 2)) 1 (IntKind.i64.wrap (IntKind.i64.wrap ((x_2.Data.size : Int) * c_1.Bits) - 1)) 0 r5.snd r5.fst c_1 x_2
 else
 k_l10 (IntKind.i64.wrap (c_1.Mode.tdiv 2)) 1 (IntKind.i64.wrap ((x_2.Data.size : Int) * c_1.Bits)) 0 r5.snd r5.fst c_1 x_2
theorem spi_sender_item_pre (m : Nat) (w_0_runs : List Run) (w_0_total : Int) (c_1 : Spi) (x_2 : Item) : funE Try.prog (Ψ_spi_sender_item m) keep m 1 36 [.box 67 [41, 3], .no, .no] [(dRow 54).e w_0_runs, (dInt .i64).e w_0_total, (dS of_Spi cells_Spi of_Spi_ok).e c_1, (dS of_Item cells_Item of_Item_ok).e x_2] = b_spi_sender_item m (fun x0 x1 => some (w_spi_sender_item (x0, x1))) (fun rest_6 before_7 t49 t50 c0_1 r1 c2 c3 => L_spi_sender_item_l10 m m rest_6 before_7 t49 t50 c0_1 r1 c2 c3) w_0_runs w_0_total c_1 x_2 := by kernel_rfl
theorem b_spi_sender_item_map (m : Nat) {k_l10 : Int → Int → Int → Int → Int → List Run → Spi → Item → Option (List (RV C))} {q_l10 : Int → Int → Int → Int → Int → List Run → Spi → Item → Option (List Run × Int)} (h_l10 : ∀ rest_6 before_7 t49 t50 c0_1 r1 c2 c3, k_l10 rest_6 before_7 t49 t50 c0_1 r1 c2 c3 = (q_l10 rest_6 before_7 t49 t50 c0_1 r1 c2 c3).map w_spi_sender_item) (w_0_runs : List Run) (w_0_total : Int) (c_1 : Spi) (x_2 : Item) : b_spi_sender_item m (fun x0 x1 => some (w_spi_sender_item (x0, x1))) k_l10 w_0_runs w_0_total c_1 x_2 = (b_spi_sender_item m (fun x0 x1 => some (x0, x1)) q_l10 w_0_runs w_0_total c_1 x_2).map w_spi_sender_item := by
  simp only [b_spi_sender_item, cond_map, bind_map, map_none, map_some, h_l10]
noncomputable def spi_sender_item (m : Nat) (w_0_runs : List Run) (w_0_total : Int) (c_1 : Spi) (x_2 : Item) : Option (List Run × Int) := b_spi_sender_item m (fun x0 x1 => some (x0, x1)) (fun rest_6 before_7 t49 t50 c0_1 r1 c2 c3 => spi_sender_item_l10 m m rest_6 before_7 t49 t50 c0_1 r1 c2 c3) w_0_runs w_0_total c_1 x_2
theorem spi_sender_item_fun (m : Nat) (w_0_runs : List Run) (w_0_total : Int) (c_1 : Spi) (x_2 : Item) : funE Try.prog (Ψ_spi_sender_item m) keep m 1 36 [.box 67 [41, 3], .no, .no] [(dRow 54).e w_0_runs, (dInt .i64).e w_0_total, (dS of_Spi cells_Spi of_Spi_ok).e c_1, (dS of_Item cells_Item of_Item_ok).e x_2] = (spi_sender_item m w_0_runs w_0_total c_1 x_2).map w_spi_sender_item := by
  rw [spi_sender_item_pre]
  exact b_spi_sender_item_map m (fun rest_6 before_7 t49 t50 c0_1 r1 c2 c3 => L_spi_sender_item_l10_eq m m rest_6 before_7 t49 t50 c0_1 r1 c2 c3) w_0_runs w_0_total c_1 x_2
noncomputable def K_spi_sender_item (m : Nat) : KnownF C := mkE [.box 67 [41, 3], .no, .no] (dCons (dRow 54) (dCons (dInt .i64) (dCons (dS of_Spi cells_Spi of_Spi_ok) (dCons (dS of_Item cells_Item of_Item_ok) dNil)))) (fun a => spi_sender_item m a.1 a.2.1 a.2.2.1 a.2.2.2.1) w_spi_sender_item
theorem K_spi_sender_item_ok (m : Nat) : KnownAtE C Try.prog 36 [.box 67 [41, 3], .no, .no] fun l => (K_spi_sender_item m).run _ l some :=
  mkE_known good fit (Ψ_spi_sender_item_ok m) (keep := keep) (m := m) (d := 1) fun a => spi_sender_item_fun m a.1 a.2.1 a.2.2.1 a.2.2.2.1
/-! ### signalbench/spi.Encode -/
noncomputable def Ψ_spi_Encode (m : Nat) : Known C := fun f => match f with
  | 15 => some (K_spi_Check m)
  | 35 => some (K_spi_checkItem m)
  | 36 => some (K_spi_sender_item m)
  | 37 => some (K_spi_sender_send m)
  | _ => none
theorem Ψ_spi_Encode_ok (m : Nat) : KnownOk C Try.prog (Ψ_spi_Encode m) := by
  intro f φ h
  unfold Ψ_spi_Encode at h
  split at h
  · injection h with h; subst h; exact K_spi_Check_ok m
  · injection h with h; subst h; exact K_spi_checkItem_ok m
  · injection h with h; subst h; exact K_spi_sender_item_ok m
  · injection h with h; subst h; exact K_spi_sender_send_ok m
  · cases h
def w_spi_Encode (b : List Run × Int) : List (RV C) := [(dRow 54).e b.1, (dInt .i64).e b.2]
noncomputable def Q_spi_Encode_7 (m : Nat) : St C → (Exit → St C → Option (List (RV C))) → Option (List (RV C)) := fun σ k => codeK Try.prog (Ψ_spi_Encode m) (callK Try.prog (Ψ_spi_Encode m) keep m 0) (keep 22) m (subC body22 [.r, .r, .r, .l, .r, .b, .o]) σ k
noncomputable def KL_spi_Encode_7 (m : Nat) : Exit → St C → Option (List (RV C)) := contK Try.prog (Ψ_spi_Encode m) (callK Try.prog (Ψ_spi_Encode m) keep m 0) (keep 22) m body22 [.r, .r, .r, .l, .r, .b, .o] (leaveK Try.prog Try.f22.results.toList (finK Try.prog Try.f22.resultTypes.toList))
noncomputable def Q_spi_Encode_15 (m : Nat) : St C → (Exit → St C → Option (List (RV C))) → Option (List (RV C)) := fun σ k => codeK Try.prog (Ψ_spi_Encode m) (callK Try.prog (Ψ_spi_Encode m) keep m 0) (keep 22) m (subC body22 [.r, .r, .r, .r, .r, .l, .r, .b, .o]) σ k
noncomputable def KL_spi_Encode_15 (m : Nat) : Exit → St C → Option (List (RV C)) := contK Try.prog (Ψ_spi_Encode m) (callK Try.prog (Ψ_spi_Encode m) keep m 0) (keep 22) m body22 [.r, .r, .r, .r, .r, .l, .r, .b, .o] (leaveK Try.prog Try.f22.results.toList (finK Try.prog Try.f22.resultTypes.toList))
noncomputable def L_spi_Encode_l7 (m n : Nat) (t22 : Int) (t23 : Int) (l_1 : List Item) (c1 : Spi) : Option (List (RV C)) := iterK (Q_spi_Encode_7 m) (St.norm (keep 22 7)) n ({ T := [.dead, .fl (.one (.sl 0)), .fl (.one (.ptr 1 0)), .dead, .dead, .dead, .dead, .dead, .dead, .dead, .dead, .dead, .dead, .dead, .dead, .dead, .dead, .dead, .dead, .dead, .dead, .fl (.one (.sl 0)), .fl (.one (.int .i64 t22)), .fl (.one (.int .i64 t23))] ++ List.replicate 37 .dead, F := [[]], H := [.row 47 false l_1, .box 23 (cells_Spi c1)] } : St C) (KL_spi_Encode_7 m)
noncomputable def L_spi_Encode_l15 (m n : Nat) (t35 : Int) (t36 : Int) (c0 : Spi) (c1_1 : Int) (t34 : List Item) : Option (List (RV C)) := iterK (Q_spi_Encode_15 m) (St.norm (keep 22 15)) n ({ T := [.dead, .dead, .fl (.one (.ptr 0 0)), .dead, .dead, .dead, .dead, .dead, .dead, .dead, .fl (.one (.ptr 1 0)), .dead, .dead, .dead, .dead, .dead, .dead, .dead, .dead, .dead, .dead, .dead, .dead, .dead, .dead, .dead, .dead, .dead, .dead, .dead, .dead, .dead, .dead, .dead, .fl (.one (.sl 2)), .fl (.one (.int .i64 t35)), .fl (.one (.int .i64 t36))] ++ List.replicate 24 .dead, F := [[]], H := [.box 23 (cells_Spi c0), .box 67 ([.nsl, .int .i64 c1_1]), .row 47 false t34] } : St C) (KL_spi_Encode_15 m)
noncomputable def L_spi_Encode_l15s1 (m n : Nat) (t35 : Int) (t36 : Int) (c0 : Spi) (c1_1 : Int) (r2 : List Run) (t34 : List Item) : Option (List (RV C)) := iterK (Q_spi_Encode_15 m) (St.norm (keep 22 15)) n ({ T := [.dead, .dead, .fl (.one (.ptr 0 0)), .dead, .dead, .dead, .dead, .dead, .dead, .dead, .fl (.one (.ptr 1 0)), .dead, .dead, .dead, .dead, .dead, .dead, .dead, .dead, .dead, .dead, .dead, .dead, .dead, .dead, .dead, .dead, .dead, .dead, .dead, .dead, .dead, .dead, .dead, .fl (.one (.sl 3)), .fl (.one (.int .i64 t35)), .fl (.one (.int .i64 t36))] ++ List.replicate 24 .dead, F := [[]], H := [.box 23 (cells_Spi c0), .box 67 ([.sl 2, .int .i64 c1_1]), .row 54 true r2, .row 47 false t34] } : St C) (KL_spi_Encode_15 m)
noncomputable def b_spi_Encode_l15s1 {R : Type} (m : Nat) (ret : List Run → Int → Option R) (k_l15s1 : Int → Int → Spi → Int → List Run → List Item → Option R) (t35 : Int) (t36 : Int) (c0 : Spi) (c1_1 : Int) (r2 : List Run) (t34 : List Item) : Option R :=
 bif decide (t36 < t35) then
 (bif decide (0 ≤ t36) then
 (bif decide (t36 < (t34.length : Int)) then
 ((spi_sender_item m r2 c1_1 c0 (t34.getD t36.toNat dflt_Item)).bind fun r0 =>
 k_l15s1 t35 (IntKind.i64.wrap (t36 + 1)) c0 r0.snd r0.fst t34)
 else
 none)
 else
 none)
 else
 (spi_sender_send m r2 c1_1 (IntKind.i64.wrap (((BitVec.ofInt 64 4 ||| BitVec.ofInt 64 (IntKind.i64.wrap (c0.Mode.tdiv 2))).toNat : Int))) (IntKind.i64.wrap (2 * c0.T))).bind fun r1 =>
 bif decide ((r1.fst.length : Int) > 262144) then
 ret [] 6
 else
 bif decide (r1.snd > 1099511627776) then
 ret [] 2
 else
 ret r1.fst 0
theorem L_spi_Encode_l15s1_step (m n : Nat) (t35 : Int) (t36 : Int) (c0 : Spi) (c1_1 : Int) (r2 : List Run) (t34 : List Item) : L_spi_Encode_l15s1 m (n + 1) t35 t36 c0 c1_1 r2 t34 = b_spi_Encode_l15s1 m (fun x0 x1 => some (w_spi_Encode (x0, x1))) (fun t35 t36 c0 c1_1 r2 t34 => L_spi_Encode_l15s1 m n t35 t36 c0 c1_1 r2 t34) t35 t36 c0 c1_1 r2 t34 := by kernel_rfl
theorem b_spi_Encode_l15s1_map (m : Nat) {k_l15s1 : Int → Int → Spi → Int → List Run → List Item → Option (List (RV C))} {q_l15s1 : Int → Int → Spi → Int → List Run → List Item → Option (List Run × Int)} (h_l15s1 : ∀ t35 t36 c0 c1_1 r2 t34, k_l15s1 t35 t36 c0 c1_1 r2 t34 = (q_l15s1 t35 t36 c0 c1_1 r2 t34).map w_spi_Encode) (t35 : Int) (t36 : Int) (c0 : Spi) (c1_1 : Int) (r2 : List Run) (t34 : List Item) : b_spi_Encode_l15s1 m (fun x0 x1 => some (w_spi_Encode (x0, x1))) k_l15s1 t35 t36 c0 c1_1 r2 t34 = (b_spi_Encode_l15s1 m (fun x0 x1 => some (x0, x1)) q_l15s1 t35 t36 c0 c1_1 r2 t34).map w_spi_Encode := by
  simp only [b_spi_Encode_l15s1, cond_map, bind_map, map_none, map_some, h_l15s1]
noncomputable def spi_Encode_l15s1 (m : Nat) : Nat → Int → Int → Spi → Int → List Run → List Item → Option (List Run × Int)
  | 0, _, _, _, _, _, _ => none
  | n + 1, t35, t36, c0, c1_1, r2, t34 => b_spi_Encode_l15s1 m (fun x0 x1 => some (x0, x1)) (fun t35 t36 c0 c1_1 r2 t34 => spi_Encode_l15s1 m n t35 t36 c0 c1_1 r2 t34) t35 t36 c0 c1_1 r2 t34
theorem L_spi_Encode_l15s1_eq (m : Nat) : ∀ (n : Nat) (t35 : Int) (t36 : Int) (c0 : Spi) (c1_1 : Int) (r2 : List Run) (t34 : List Item), L_spi_Encode_l15s1 m n t35 t36 c0 c1_1 r2 t34 = (spi_Encode_l15s1 m n t35 t36 c0 c1_1 r2 t34).map w_spi_Encode
  | 0, t35, t36, c0, c1_1, r2, t34 => by kernel_rfl
  | n + 1, t35, t36, c0, c1_1, r2, t34 => by
    rw [L_spi_Encode_l15s1_step]
    exact b_spi_Encode_l15s1_map m (fun t35 t36 c0 c1_1 r2 t34 => L_spi_Encode_l15s1_eq m n t35 t36 c0 c1_1 r2 t34) t35 t36 c0 c1_1 r2 t34
noncomputable def b_spi_Encode_l15 {R : Type} (m : Nat) (ret : List Run → Int → Option R) (k_l15s1 : Int → Int → Spi → Int → List Run → List Item → Option R) (t35 : Int) (t36 : Int) (c0 : Spi) (c1_1 : Int) (t34 : List Item) : Option R :=
 bif decide (t36 < t35) then
 (bif decide (0 ≤ t36) then
 (bif decide (t36 < (t34.length : Int)) then
 ((spi_sender_item m [] c1_1 c0 (t34.getD t36.toNat dflt_Item)).bind fun r0 =>
 k_l15s1 t35 (IntKind.i64.wrap (t36 + 1)) c0 r0.snd r0.fst t34)
 else
 none)
 else
 none)
 else
 bif decide (IntKind.i64.wrap (c1_1 + IntKind.i64.wrap (2 * c0.T)) > 1099511627776) then
 ret [] 2
 else
 ret ([] ++ [Run.mk (IntKind.i64.wrap (((BitVec.ofInt 64 4 ||| BitVec.ofInt 64 (IntKind.i64.wrap (c0.Mode.tdiv 2))).toNat : Int))) (IntKind.i64.wrap (2 * c0.T))]) 0
theorem L_spi_Encode_l15_step (m n : Nat) (t35 : Int) (t36 : Int) (c0 : Spi) (c1_1 : Int) (t34 : List Item) : L_spi_Encode_l15 m (n + 1) t35 t36 c0 c1_1 t34 = b_spi_Encode_l15 m (fun x0 x1 => some (w_spi_Encode (x0, x1))) (fun t35 t36 c0 c1_1 r2 t34 => L_spi_Encode_l15s1 m n t35 t36 c0 c1_1 r2 t34) t35 t36 c0 c1_1 t34 := by kernel_rfl
theorem b_spi_Encode_l15_map (m : Nat) {k_l15s1 : Int → Int → Spi → Int → List Run → List Item → Option (List (RV C))} {q_l15s1 : Int → Int → Spi → Int → List Run → List Item → Option (List Run × Int)} (h_l15s1 : ∀ t35 t36 c0 c1_1 r2 t34, k_l15s1 t35 t36 c0 c1_1 r2 t34 = (q_l15s1 t35 t36 c0 c1_1 r2 t34).map w_spi_Encode) (t35 : Int) (t36 : Int) (c0 : Spi) (c1_1 : Int) (t34 : List Item) : b_spi_Encode_l15 m (fun x0 x1 => some (w_spi_Encode (x0, x1))) k_l15s1 t35 t36 c0 c1_1 t34 = (b_spi_Encode_l15 m (fun x0 x1 => some (x0, x1)) q_l15s1 t35 t36 c0 c1_1 t34).map w_spi_Encode := by
  simp only [b_spi_Encode_l15, cond_map, bind_map, map_none, map_some, h_l15s1]
noncomputable def spi_Encode_l15 (m : Nat) : Nat → Int → Int → Spi → Int → List Item → Option (List Run × Int)
  | 0, _, _, _, _, _ => none
  | n + 1, t35, t36, c0, c1_1, t34 => b_spi_Encode_l15 m (fun x0 x1 => some (x0, x1)) (fun t35 t36 c0 c1_1 r2 t34 => spi_Encode_l15s1 m n t35 t36 c0 c1_1 r2 t34) t35 t36 c0 c1_1 t34
theorem L_spi_Encode_l15_eq (m : Nat) : ∀ (n : Nat) (t35 : Int) (t36 : Int) (c0 : Spi) (c1_1 : Int) (t34 : List Item), L_spi_Encode_l15 m n t35 t36 c0 c1_1 t34 = (spi_Encode_l15 m n t35 t36 c0 c1_1 t34).map w_spi_Encode
  | 0, t35, t36, c0, c1_1, t34 => by kernel_rfl
  | n + 1, t35, t36, c0, c1_1, t34 => by
    rw [L_spi_Encode_l15_step]
    exact b_spi_Encode_l15_map m (fun t35 t36 c0 c1_1 r2 t34 => L_spi_Encode_l15s1_eq m n t35 t36 c0 c1_1 r2 t34) t35 t36 c0 c1_1 t34
noncomputable def b_spi_Encode_l7 {R : Type} (m : Nat) (ret : List Run → Int → Option R) (k_l7 : Int → Int → List Item → Spi → Option R) (k_l15 : Int → Int → Spi → Int → List Item → Option R) (t22 : Int) (t23 : Int) (l_1 : List Item) (c1 : Spi) : Option R :=
 bif decide (t23 < t22) then
 (bif decide (0 ≤ t23) then
 (bif decide (t23 < (l_1.length : Int)) then
 ((spi_checkItem m c1 (l_1.getD t23.toNat dflt_Item)).bind fun r0 =>
 bif r0 != 0 then
 ret [] r0
 else
 k_l7 t22 (IntKind.i64.wrap (t23 + 1)) l_1 c1)
 else
 none)
 else
 none)
 else
 k_l15 (l_1.length : Int) 0 c1 0 l_1
theorem L_spi_Encode_l7_step (m n : Nat) (t22 : Int) (t23 : Int) (l_1 : List Item) (c1 : Spi) : L_spi_Encode_l7 m (n + 1) t22 t23 l_1 c1 = b_spi_Encode_l7 m (fun x0 x1 => some (w_spi_Encode (x0, x1))) (fun t22 t23 l_1 c1 => L_spi_Encode_l7 m n t22 t23 l_1 c1) (fun t35 t36 c0 c1_1 t34 => L_spi_Encode_l15 m m t35 t36 c0 c1_1 t34) t22 t23 l_1 c1 := by kernel_rfl
theorem b_spi_Encode_l7_map (m : Nat) {k_l7 : Int → Int → List Item → Spi → Option (List (RV C))} {q_l7 : Int → Int → List Item → Spi → Option (List Run × Int)} (h_l7 : ∀ t22 t23 l_1 c1, k_l7 t22 t23 l_1 c1 = (q_l7 t22 t23 l_1 c1).map w_spi_Encode) {k_l15 : Int → Int → Spi → Int → List Item → Option (List (RV C))} {q_l15 : Int → Int → Spi → Int → List Item → Option (List Run × Int)} (h_l15 : ∀ t35 t36 c0 c1_1 t34, k_l15 t35 t36 c0 c1_1 t34 = (q_l15 t35 t36 c0 c1_1 t34).map w_spi_Encode) (t22 : Int) (t23 : Int) (l_1 : List Item) (c1 : Spi) : b_spi_Encode_l7 m (fun x0 x1 => some (w_spi_Encode (x0, x1))) k_l7 k_l15 t22 t23 l_1 c1 = (b_spi_Encode_l7 m (fun x0 x1 => some (x0, x1)) q_l7 q_l15 t22 t23 l_1 c1).map w_spi_Encode := by
  simp only [b_spi_Encode_l7, cond_map, bind_map, map_none, map_some, h_l7, h_l15]
noncomputable def spi_Encode_l7 (m : Nat) : Nat → Int → Int → List Item → Spi → Option (List Run × Int)
  | 0, _, _, _, _ => none
  | n + 1, t22, t23, l_1, c1 => b_spi_Encode_l7 m (fun x0 x1 => some (x0, x1)) (fun t22 t23 l_1 c1 => spi_Encode_l7 m n t22 t23 l_1 c1) (fun t35 t36 c0 c1_1 t34 => spi_Encode_l15 m m t35 t36 c0 c1_1 t34) t22 t23 l_1 c1
theorem L_spi_Encode_l7_eq (m : Nat) : ∀ (n : Nat) (t22 : Int) (t23 : Int) (l_1 : List Item) (c1 : Spi), L_spi_Encode_l7 m n t22 t23 l_1 c1 = (spi_Encode_l7 m n t22 t23 l_1 c1).map w_spi_Encode
  | 0, t22, t23, l_1, c1 => by kernel_rfl
  | n + 1, t22, t23, l_1, c1 => by
    rw [L_spi_Encode_l7_step]
    exact b_spi_Encode_l7_map m (fun t22 t23 l_1 c1 => L_spi_Encode_l7_eq m n t22 t23 l_1 c1) (fun t35 t36 c0 c1_1 t34 => L_spi_Encode_l15_eq m m t35 t36 c0 c1_1 t34) t22 t23 l_1 c1
noncomputable def b_spi_Encode {R : Type} (m : Nat) (ret : List Run → Int → Option R) (k_l7 : Int → Int → List Item → Spi → Option R) (c_0 : Spi) (l_1 : List Item) : Option R :=
 (spi_Check m c_0).bind fun r0 =>
 bif r0 != 0 then
 ret [] r0
 else
 bif decide ((l_1.length : Int) > 1024) then
 ret [] 6
 else
 k_l7 (l_1.length : Int) 0 l_1 c_0
theorem spi_Encode_pre (m : Nat) (c_0 : Spi) (l_1 : List Item) : funK Try.prog (Ψ_spi_Encode m) keep m 1 22 [(dS of_Spi cells_Spi of_Spi_ok).e c_0, (dRow 47).e l_1] = b_spi_Encode m (fun x0 x1 => some (w_spi_Encode (x0, x1))) (fun t22 t23 l_1 c1 => L_spi_Encode_l7 m m t22 t23 l_1 c1) c_0 l_1 := by kernel_rfl
theorem b_spi_Encode_map (m : Nat) {k_l7 : Int → Int → List Item → Spi → Option (List (RV C))} {q_l7 : Int → Int → List Item → Spi → Option (List Run × Int)} (h_l7 : ∀ t22 t23 l_1 c1, k_l7 t22 t23 l_1 c1 = (q_l7 t22 t23 l_1 c1).map w_spi_Encode) (c_0 : Spi) (l_1 : List Item) : b_spi_Encode m (fun x0 x1 => some (w_spi_Encode (x0, x1))) k_l7 c_0 l_1 = (b_spi_Encode m (fun x0 x1 => some (x0, x1)) q_l7 c_0 l_1).map w_spi_Encode := by
  simp only [b_spi_Encode, cond_map, bind_map, map_none, map_some, h_l7]
noncomputable def spi_Encode (m : Nat) (c_0 : Spi) (l_1 : List Item) : Option (List Run × Int) := b_spi_Encode m (fun x0 x1 => some (x0, x1)) (fun t22 t23 l_1 c1 => spi_Encode_l7 m m t22 t23 l_1 c1) c_0 l_1
theorem spi_Encode_fun (m : Nat) (c_0 : Spi) (l_1 : List Item) : funK Try.prog (Ψ_spi_Encode m) keep m 1 22 [(dS of_Spi cells_Spi of_Spi_ok).e c_0, (dRow 47).e l_1] = (spi_Encode m c_0 l_1).map w_spi_Encode := by
  rw [spi_Encode_pre]
  exact b_spi_Encode_map m (fun t22 t23 l_1 c1 => L_spi_Encode_l7_eq m m t22 t23 l_1 c1) c_0 l_1
noncomputable def K_spi_Encode (m : Nat) : KnownF C := mkK (dCons (dS of_Spi cells_Spi of_Spi_ok) (dCons (dRow 47) dNil)) (fun a => spi_Encode m a.1 a.2.1) w_spi_Encode
theorem K_spi_Encode_ok (m : Nat) : KnownAt C Try.prog 22 fun l => (K_spi_Encode m).run _ l some :=
  mkK_known good fit (Ψ_spi_Encode_ok m) (keep := keep) (m := m) (d := 1) fun a => spi_Encode_fun m a.1 a.2.1
/-! ### signalbench/signalbenchlaw24.events -/
def w_law24_events (b : List Event × Bool) : List (RV C) := [(dRow 32).e b.1, dBool.e b.2]
noncomputable def Q_law24_events_4 (m : Nat) : St C → (Exit → St C → Option (List (RV C))) → Option (List (RV C)) := fun σ k => codeK Try.prog Ψ0 (callK Try.prog Ψ0 keep m 0) (keep 23) m (subC body23 [.r, .r, .r, .l, .r, .b, .o]) σ k
noncomputable def KL_law24_events_4 (m : Nat) : Exit → St C → Option (List (RV C)) := contK Try.prog Ψ0 (callK Try.prog Ψ0 keep m 0) (keep 23) m body23 [.r, .r, .r, .l, .r, .b, .o] (leaveK Try.prog Try.f23.results.toList (finK Try.prog Try.f23.resultTypes.toList))
noncomputable def L_law24_events_l4 (m n : Nat) (at_5 : Int) (i_6 : Int) (l_0 : List Run) (out_4 : List Event) : Option (List (RV C)) := iterK (Q_law24_events_4 m) (St.norm (keep 23 4)) n ({ T := [.fl (.one (.sl 0)), .dead, .dead, .dead, .fl (.one (.sl 1)), .fl (.one (.int .i64 at_5)), .fl (.one (.int .i64 i_6))] ++ List.replicate 49 .dead, F := [[]], H := [.row 54 false l_0, .row 32 true out_4] } : St C) (KL_law24_events_4 m)
noncomputable def b_law24_events_l4 {R : Type} (m : Nat) (ret : List Event → Bool → Option R) (k_l4 : Int → Int → List Run → List Event → Option R) (at_5 : Int) (i_6 : Int) (l_0 : List Run) (out_4 : List Event) : Option R :=
 bif decide (i_6 < (l_0.length : Int)) then
 bif decide (0 ≤ i_6) then
 bif decide (i_6 < (l_0.length : Int)) then
 bif decide ((l_0.getD i_6.toNat dflt_Run).Ticks < 1) then
 ret out_4 false
 else
 bif decide (0 ≤ i_6) then
 bif decide (i_6 < (l_0.length : Int)) then
 bif decide ((l_0.getD i_6.toNat dflt_Run).Ticks > IntKind.i64.wrap (1099511627776 - at_5)) then
 ret out_4 false
 else
 bif decide (0 ≤ i_6) then
 bif decide (i_6 < (l_0.length : Int)) then
 bif decide (0 ≤ i_6) then
 bif decide (i_6 < (l_0.length : Int)) then
 bif decide ((out_4.length + 1) * 64 ≤ 140737488355328) then
 bif decide (0 ≤ i_6) then
 bif decide (i_6 < (l_0.length : Int)) then
 k_l4 (IntKind.i64.wrap (at_5 + (l_0.getD i_6.toNat dflt_Run).Ticks)) (IntKind.i64.wrap (i_6 + 1)) l_0 (out_4 ++ [Event.mk 1 at_5 (IntKind.i64.wrap (at_5 + (l_0.getD i_6.toNat dflt_Run).Ticks)) (l_0.getD i_6.toNat dflt_Run).Level 0 (bs []) 0])
 else
 none
 else
 none
 else
 none
 else
 none
 else
 none
 else
 none
 else
 none
 else
 none
 else
 none
 else
 none
 else
 none
 else
 ret out_4 true
theorem L_law24_events_l4_step (m n : Nat) (at_5 : Int) (i_6 : Int) (l_0 : List Run) (out_4 : List Event) : L_law24_events_l4 m (n + 1) at_5 i_6 l_0 out_4 = b_law24_events_l4 m (fun x0 x1 => some (w_law24_events (x0, x1))) (fun at_5 i_6 l_0 out_4 => L_law24_events_l4 m n at_5 i_6 l_0 out_4) at_5 i_6 l_0 out_4 := by kernel_rfl
theorem b_law24_events_l4_map (m : Nat) {k_l4 : Int → Int → List Run → List Event → Option (List (RV C))} {q_l4 : Int → Int → List Run → List Event → Option (List Event × Bool)} (h_l4 : ∀ at_5 i_6 l_0 out_4, k_l4 at_5 i_6 l_0 out_4 = (q_l4 at_5 i_6 l_0 out_4).map w_law24_events) (at_5 : Int) (i_6 : Int) (l_0 : List Run) (out_4 : List Event) : b_law24_events_l4 m (fun x0 x1 => some (w_law24_events (x0, x1))) k_l4 at_5 i_6 l_0 out_4 = (b_law24_events_l4 m (fun x0 x1 => some (x0, x1)) q_l4 at_5 i_6 l_0 out_4).map w_law24_events := by
  simp only [b_law24_events_l4, cond_map, bind_map, map_none, map_some, h_l4]
noncomputable def law24_events_l4 (m : Nat) : Nat → Int → Int → List Run → List Event → Option (List Event × Bool)
  | 0, _, _, _, _ => none
  | n + 1, at_5, i_6, l_0, out_4 => b_law24_events_l4 m (fun x0 x1 => some (x0, x1)) (fun at_5 i_6 l_0 out_4 => law24_events_l4 m n at_5 i_6 l_0 out_4) at_5 i_6 l_0 out_4
theorem L_law24_events_l4_eq (m : Nat) : ∀ (n : Nat) (at_5 : Int) (i_6 : Int) (l_0 : List Run) (out_4 : List Event), L_law24_events_l4 m n at_5 i_6 l_0 out_4 = (law24_events_l4 m n at_5 i_6 l_0 out_4).map w_law24_events
  | 0, at_5, i_6, l_0, out_4 => by kernel_rfl
  | n + 1, at_5, i_6, l_0, out_4 => by
    rw [L_law24_events_l4_step]
    exact b_law24_events_l4_map m (fun at_5 i_6 l_0 out_4 => L_law24_events_l4_eq m n at_5 i_6 l_0 out_4) at_5 i_6 l_0 out_4
noncomputable def b_law24_events {R : Type} (m : Nat) (ret : List Event → Bool → Option R) (k_l4 : Int → Int → List Run → List Event → Option R) (l_0 : List Run) : Option R :=
 k_l4 0 0 l_0 []
theorem law24_events_pre (m : Nat) (l_0 : List Run) : funK Try.prog Ψ0 keep m 1 23 [(dRow 54).e l_0] = b_law24_events m (fun x0 x1 => some (w_law24_events (x0, x1))) (fun at_5 i_6 l_0 out_4 => L_law24_events_l4 m m at_5 i_6 l_0 out_4) l_0 := by kernel_rfl
theorem b_law24_events_map (m : Nat) {k_l4 : Int → Int → List Run → List Event → Option (List (RV C))} {q_l4 : Int → Int → List Run → List Event → Option (List Event × Bool)} (h_l4 : ∀ at_5 i_6 l_0 out_4, k_l4 at_5 i_6 l_0 out_4 = (q_l4 at_5 i_6 l_0 out_4).map w_law24_events) (l_0 : List Run) : b_law24_events m (fun x0 x1 => some (w_law24_events (x0, x1))) k_l4 l_0 = (b_law24_events m (fun x0 x1 => some (x0, x1)) q_l4 l_0).map w_law24_events := by
  simp only [b_law24_events, cond_map, bind_map, map_none, map_some, h_l4]
noncomputable def law24_events (m : Nat) (l_0 : List Run) : Option (List Event × Bool) := b_law24_events m (fun x0 x1 => some (x0, x1)) (fun at_5 i_6 l_0 out_4 => law24_events_l4 m m at_5 i_6 l_0 out_4) l_0
theorem law24_events_fun (m : Nat) (l_0 : List Run) : funK Try.prog Ψ0 keep m 1 23 [(dRow 54).e l_0] = (law24_events m l_0).map w_law24_events := by
  rw [law24_events_pre]
  exact b_law24_events_map m (fun at_5 i_6 l_0 out_4 => L_law24_events_l4_eq m m at_5 i_6 l_0 out_4) l_0
noncomputable def K_law24_events (m : Nat) : KnownF C := mkK (dCons (dRow 54) dNil) (fun a => law24_events m a.1) w_law24_events
theorem K_law24_events_ok (m : Nat) : KnownAt C Try.prog 23 fun l => (K_law24_events m).run _ l some :=
  mkK_known good fit Ψ0_ok (keep := keep) (m := m) (d := 1) fun a => law24_events_fun m a.1
/-! ### signalbench/spi.Start -/
def w_spi_Start (b : State) : List (RV C) := [(dS of_State cells_State of_State_ok).e b]
noncomputable def b_spi_Start {R : Type} (m : Nat) (ret : State → Option R) (c_0 : Spi) : Option R :=
 ret (State.mk 0 0 0 0 0 0 0 (bs []))
theorem spi_Start_pre (m : Nat) (c_0 : Spi) : funK Try.prog Ψ0 keep m 1 10 [(dS of_Spi cells_Spi of_Spi_ok).e c_0] = b_spi_Start m (fun x0 => some (w_spi_Start x0)) c_0 := by kernel_rfl
theorem b_spi_Start_map (m : Nat) (c_0 : Spi) : b_spi_Start m (fun x0 => some (w_spi_Start x0)) c_0 = (b_spi_Start m (fun x0 => some x0) c_0).map w_spi_Start := by
  simp only [b_spi_Start, cond_map, bind_map, map_none, map_some]
noncomputable def spi_Start (m : Nat) (c_0 : Spi) : Option (State) := b_spi_Start m (fun x0 => some x0) c_0
theorem spi_Start_fun (m : Nat) (c_0 : Spi) : funK Try.prog Ψ0 keep m 1 10 [(dS of_Spi cells_Spi of_Spi_ok).e c_0] = (spi_Start m c_0).map w_spi_Start := by
  rw [spi_Start_pre]
  exact b_spi_Start_map m c_0
noncomputable def K_spi_Start (m : Nat) : KnownF C := mkK (dCons (dS of_Spi cells_Spi of_Spi_ok) dNil) (fun a => spi_Start m a.1) w_spi_Start
theorem K_spi_Start_ok (m : Nat) : KnownAt C Try.prog 10 fun l => (K_spi_Start m).run _ l some :=
  mkK_known good fit Ψ0_ok (keep := keep) (m := m) (d := 1) fun a => spi_Start_fun m a.1
/-! ### signalbench/event.Valid -/
def w_event_Valid (b : Bool) : List (RV C) := [dBool.e b]
noncomputable def b_event_Valid {R : Type} (m : Nat) (ret : Bool → Option R) (e_0 : Event) : Option R :=
 bif decide (e_0.Kind < 1) then
 ret false
 else
 bif decide (e_0.Kind > 8) then
 ret false
 else
 bif decide (e_0.From < 0) then
 ret false
 else
 bif decide (e_0.From > e_0.To) then
 ret false
 else
 bif decide (e_0.To > 1099511627776) then
 ret false
 else
 bif decide (e_0.Value < -9007199254740992) then
 ret false
 else
 bif decide (e_0.Value > 9007199254740992) then
 ret false
 else
 bif decide (e_0.Aux < -9007199254740992) then
 ret false
 else
 bif decide (e_0.Aux > 9007199254740992) then
 ret false
 else
 bif decide ((e_0.Data.size : Int) ≤ 4096) then
 bif decide (e_0.Fault ≥ 0) then
 ret (decide (e_0.Fault ≤ 12))
 else
 ret false
 else
 ret false
theorem event_Valid_pre (m : Nat) (e_0 : Event) : funK Try.prog Ψ0 keep m 1 42 [(dS of_Event cells_Event of_Event_ok).e e_0] = b_event_Valid m (fun x0 => some (w_event_Valid x0)) e_0 := by kernel_rfl
theorem b_event_Valid_map (m : Nat) (e_0 : Event) : b_event_Valid m (fun x0 => some (w_event_Valid x0)) e_0 = (b_event_Valid m (fun x0 => some x0) e_0).map w_event_Valid := by
  simp only [b_event_Valid, cond_map, bind_map, map_none, map_some]
noncomputable def event_Valid (m : Nat) (e_0 : Event) : Option (Bool) := b_event_Valid m (fun x0 => some x0) e_0
theorem event_Valid_fun (m : Nat) (e_0 : Event) : funK Try.prog Ψ0 keep m 1 42 [(dS of_Event cells_Event of_Event_ok).e e_0] = (event_Valid m e_0).map w_event_Valid := by
  rw [event_Valid_pre]
  exact b_event_Valid_map m e_0
noncomputable def K_event_Valid (m : Nat) : KnownF C := mkK (dCons (dS of_Event cells_Event of_Event_ok) dNil) (fun a => event_Valid m a.1) w_event_Valid
theorem K_event_Valid_ok (m : Nat) : KnownAt C Try.prog 42 fun l => (K_event_Valid m).run _ l some :=
  mkK_known good fit Ψ0_ok (keep := keep) (m := m) (d := 1) fun a => event_Valid_fun m a.1
/-! ### signalbench/spi.accepts -/
noncomputable def Ψ_spi_accepts (m : Nat) : Known C := fun f => match f with
  | 42 => some (K_event_Valid m)
  | _ => none
theorem Ψ_spi_accepts_ok (m : Nat) : KnownOk C Try.prog (Ψ_spi_accepts m) := by
  intro f φ h
  unfold Ψ_spi_accepts at h
  split at h
  · injection h with h; subst h; exact K_event_Valid_ok m
  · cases h
def w_spi_accepts (b : Bool) : List (RV C) := [dBool.e b]
noncomputable def b_spi_accepts {R : Type} (m : Nat) (ret : Bool → Option R) (s_0 : State) (e_1 : Event) : Option R :=
 (event_Valid m e_1).bind fun r0 =>
 bif !r0 then
 ret false
 else
 bif e_1.Kind != 1 then
 ret false
 else
 bif e_1.Fault != 0 then
 ret false
 else
 bif e_1.From == e_1.To then
 ret false
 else
 bif IntKind.i64.wrap (((BitVec.ofInt 64 e_1.Value &&& ~~~BitVec.ofInt 64 7).toNat : Int)) != 0 then
 ret false
 else
 bif s_0.Phase == 0 then
 ret true
 else
 ret (e_1.From == s_0.At)
theorem spi_accepts_pre (m : Nat) (s_0 : State) (e_1 : Event) : funK Try.prog (Ψ_spi_accepts m) keep m 1 29 [(dS of_State cells_State of_State_ok).e s_0, (dS of_Event cells_Event of_Event_ok).e e_1] = b_spi_accepts m (fun x0 => some (w_spi_accepts x0)) s_0 e_1 := by kernel_rfl
theorem b_spi_accepts_map (m : Nat) (s_0 : State) (e_1 : Event) : b_spi_accepts m (fun x0 => some (w_spi_accepts x0)) s_0 e_1 = (b_spi_accepts m (fun x0 => some x0) s_0 e_1).map w_spi_accepts := by
  simp only [b_spi_accepts, cond_map, bind_map, map_none, map_some]
noncomputable def spi_accepts (m : Nat) (s_0 : State) (e_1 : Event) : Option (Bool) := b_spi_accepts m (fun x0 => some x0) s_0 e_1
theorem spi_accepts_fun (m : Nat) (s_0 : State) (e_1 : Event) : funK Try.prog (Ψ_spi_accepts m) keep m 1 29 [(dS of_State cells_State of_State_ok).e s_0, (dS of_Event cells_Event of_Event_ok).e e_1] = (spi_accepts m s_0 e_1).map w_spi_accepts := by
  rw [spi_accepts_pre]
  exact b_spi_accepts_map m s_0 e_1
noncomputable def K_spi_accepts (m : Nat) : KnownF C := mkK (dCons (dS of_State cells_State of_State_ok) (dCons (dS of_Event cells_Event of_Event_ok) dNil)) (fun a => spi_accepts m a.1 a.2.1) w_spi_accepts
theorem K_spi_accepts_ok (m : Nat) : KnownAt C Try.prog 29 fun l => (K_spi_accepts m).run _ l some :=
  mkK_known good fit (Ψ_spi_accepts_ok m) (keep := keep) (m := m) (d := 1) fun a => spi_accepts_fun m a.1 a.2.1
/-! ### (signalbench/spi.edge).rise -/
def w_spi_edge_rise (b : Bool) : List (RV C) := [dBool.e b]
noncomputable def b_spi_edge_rise {R : Type} (m : Nat) (ret : Bool → Option R) (x_0 : Spi_edge) : Option R :=
 bif IntKind.i64.wrap (((BitVec.ofInt 64 x_0.old_ &&& BitVec.ofInt 64 1).toNat : Int)) == 0 then
 ret (IntKind.i64.wrap (((BitVec.ofInt 64 x_0.now_ &&& BitVec.ofInt 64 1).toNat : Int)) != 0)
 else
 ret false
theorem spi_edge_rise_pre (m : Nat) (x_0 : Spi_edge) : funK Try.prog Ψ0 keep m 1 43 [(dS of_Spi_edge cells_Spi_edge of_Spi_edge_ok).e x_0] = b_spi_edge_rise m (fun x0 => some (w_spi_edge_rise x0)) x_0 := by kernel_rfl
theorem b_spi_edge_rise_map (m : Nat) (x_0 : Spi_edge) : b_spi_edge_rise m (fun x0 => some (w_spi_edge_rise x0)) x_0 = (b_spi_edge_rise m (fun x0 => some x0) x_0).map w_spi_edge_rise := by
  simp only [b_spi_edge_rise, cond_map, bind_map, map_none, map_some]
noncomputable def spi_edge_rise (m : Nat) (x_0 : Spi_edge) : Option (Bool) := b_spi_edge_rise m (fun x0 => some x0) x_0
theorem spi_edge_rise_fun (m : Nat) (x_0 : Spi_edge) : funK Try.prog Ψ0 keep m 1 43 [(dS of_Spi_edge cells_Spi_edge of_Spi_edge_ok).e x_0] = (spi_edge_rise m x_0).map w_spi_edge_rise := by
  rw [spi_edge_rise_pre]
  exact b_spi_edge_rise_map m x_0
noncomputable def K_spi_edge_rise (m : Nat) : KnownF C := mkK (dCons (dS of_Spi_edge cells_Spi_edge of_Spi_edge_ok) dNil) (fun a => spi_edge_rise m a.1) w_spi_edge_rise
theorem K_spi_edge_rise_ok (m : Nat) : KnownAt C Try.prog 43 fun l => (K_spi_edge_rise m).run _ l some :=
  mkK_known good fit Ψ0_ok (keep := keep) (m := m) (d := 1) fun a => spi_edge_rise_fun m a.1
/-! ### (signalbench/spi.edge).fall -/
def w_spi_edge_fall (b : Bool) : List (RV C) := [dBool.e b]
noncomputable def b_spi_edge_fall {R : Type} (m : Nat) (ret : Bool → Option R) (x_0 : Spi_edge) : Option R :=
 bif IntKind.i64.wrap (((BitVec.ofInt 64 x_0.old_ &&& BitVec.ofInt 64 1).toNat : Int)) != 0 then
 ret (IntKind.i64.wrap (((BitVec.ofInt 64 x_0.now_ &&& BitVec.ofInt 64 1).toNat : Int)) == 0)
 else
 ret false
theorem spi_edge_fall_pre (m : Nat) (x_0 : Spi_edge) : funK Try.prog Ψ0 keep m 1 44 [(dS of_Spi_edge cells_Spi_edge of_Spi_edge_ok).e x_0] = b_spi_edge_fall m (fun x0 => some (w_spi_edge_fall x0)) x_0 := by kernel_rfl
theorem b_spi_edge_fall_map (m : Nat) (x_0 : Spi_edge) : b_spi_edge_fall m (fun x0 => some (w_spi_edge_fall x0)) x_0 = (b_spi_edge_fall m (fun x0 => some x0) x_0).map w_spi_edge_fall := by
  simp only [b_spi_edge_fall, cond_map, bind_map, map_none, map_some]
noncomputable def spi_edge_fall (m : Nat) (x_0 : Spi_edge) : Option (Bool) := b_spi_edge_fall m (fun x0 => some x0) x_0
theorem spi_edge_fall_fun (m : Nat) (x_0 : Spi_edge) : funK Try.prog Ψ0 keep m 1 44 [(dS of_Spi_edge cells_Spi_edge of_Spi_edge_ok).e x_0] = (spi_edge_fall m x_0).map w_spi_edge_fall := by
  rw [spi_edge_fall_pre]
  exact b_spi_edge_fall_map m x_0
noncomputable def K_spi_edge_fall (m : Nat) : KnownF C := mkK (dCons (dS of_Spi_edge cells_Spi_edge of_Spi_edge_ok) dNil) (fun a => spi_edge_fall m a.1) w_spi_edge_fall
theorem K_spi_edge_fall_ok (m : Nat) : KnownAt C Try.prog 44 fun l => (K_spi_edge_fall m).run _ l some :=
  mkK_known good fit Ψ0_ok (keep := keep) (m := m) (d := 1) fun a => spi_edge_fall_fun m a.1
/-! ### signalbench/spi.active -/
noncomputable def Ψ_spi_active (m : Nat) : Known C := fun f => match f with
  | 43 => some (K_spi_edge_rise m)
  | 44 => some (K_spi_edge_fall m)
  | _ => none
theorem Ψ_spi_active_ok (m : Nat) : KnownOk C Try.prog (Ψ_spi_active m) := by
  intro f φ h
  unfold Ψ_spi_active at h
  split at h
  · injection h with h; subst h; exact K_spi_edge_rise_ok m
  · injection h with h; subst h; exact K_spi_edge_fall_ok m
  · cases h
def w_spi_active (b : Int) : List (RV C) := [(dInt .u64).e b]
noncomputable def b_spi_active {R : Type} (m : Nat) (ret : Int → Option R) (mode_0 : Int) : Option R :=
 bif mode_0 == 0 then
 ret 43
 else
 bif mode_0 == 3 then
 ret 43
 else
 ret 44
theorem spi_active_pre (m : Nat) (mode_0 : Int) : funF Try.prog (Ψ_spi_active m) keep m 1 30 [(dInt .i64).e mode_0] = b_spi_active m (fun x0 => some (w_spi_active x0)) mode_0 := by kernel_rfl
theorem b_spi_active_map (m : Nat) (mode_0 : Int) : b_spi_active m (fun x0 => some (w_spi_active x0)) mode_0 = (b_spi_active m (fun x0 => some x0) mode_0).map w_spi_active := by
  simp only [b_spi_active, cond_map, bind_map, map_none, map_some]
noncomputable def spi_active (m : Nat) (mode_0 : Int) : Option (Int) := b_spi_active m (fun x0 => some x0) mode_0
theorem spi_active_fun (m : Nat) (mode_0 : Int) : funF Try.prog (Ψ_spi_active m) keep m 1 30 [(dInt .i64).e mode_0] = (spi_active m mode_0).map w_spi_active := by
  rw [spi_active_pre]
  exact b_spi_active_map m mode_0
noncomputable def K_spi_active (m : Nat) : KnownF C := mkF [43, 44] (dCons (dInt .i64) dNil) (fun a => spi_active m a.1) w_spi_active
theorem K_spi_active_ok (m : Nat) : KnownAtF C Try.prog 30 fun l => (K_spi_active m).run _ l some :=
  mkF_known good fit (Ψ_spi_active_ok m) (keep := keep) (m := m) (d := 1) fun a => spi_active_fun m a.1
/-! ### signalbench/spi.shift -/
def w_spi_shift (b : State) : List (RV C) := [(dS of_State cells_State of_State_ok).e b]
noncomputable def b_spi_shift {R : Type} (m : Nat) (ret : State → Option R) (c_0 : Spi) (s_1 : State) (bit_2 : Int) : Option R :=
 bif c_0.Msb then
 bif decide (IntKind.i64.wrap (s_1.Count + 1) < c_0.Bits) then
 ret { s_1 with Count := IntKind.i64.wrap (s_1.Count + 1), Acc := IntKind.i64.wrap (((BitVec.ofInt 64 (IntKind.i64.wrap (s_1.Acc * 2)) ||| BitVec.ofInt 64 bit_2).toNat : Int)) }
 else
 bif decide ((s_1.Data.size : Int) < 4096) then
 bif decide (((s_1.Data.size + (toBytes [IntKind.u8.wrap (IntKind.i64.wrap (((BitVec.ofInt 64 (IntKind.i64.wrap (s_1.Acc * 2)) ||| BitVec.ofInt 64 bit_2).toNat : Int)))]).size) : Int) > 9223372036854775807) then
 none
 else
 ret { s_1 with Count := 0, Acc := 0, Data := s_1.Data ++ toBytes [IntKind.u8.wrap (IntKind.i64.wrap (((BitVec.ofInt 64 (IntKind.i64.wrap (s_1.Acc * 2)) ||| BitVec.ofInt 64 bit_2).toNat : Int)))] }
 else
 ret { s_1 with Count := 0, Acc := 0, Aux := 1 }
 else
 bif decide (s_1.Count < 0) then
 none
 else
 bif decide (IntKind.i64.wrap (s_1.Count + 1) < c_0.Bits) then
 ret { s_1 with Count := IntKind.i64.wrap (s_1.Count + 1), Acc := IntKind.i64.wrap (((BitVec.ofInt 64 s_1.Acc ||| BitVec.ofInt 64 (IntKind.i64.wrap (bit_2 * 2 ^ min s_1.Count.toNat 64))).toNat : Int)) }
 else
 bif decide ((s_1.Data.size : Int) < 4096) then
 bif decide (((s_1.Data.size + (toBytes [IntKind.u8.wrap (IntKind.i64.wrap (((BitVec.ofInt 64 s_1.Acc ||| BitVec.ofInt 64 (IntKind.i64.wrap (bit_2 * 2 ^ min s_1.Count.toNat 64))).toNat : Int)))]).size) : Int) > 9223372036854775807) then
 none
 else
 ret { s_1 with Count := 0, Acc := 0, Data := s_1.Data ++ toBytes [IntKind.u8.wrap (IntKind.i64.wrap (((BitVec.ofInt 64 s_1.Acc ||| BitVec.ofInt 64 (IntKind.i64.wrap (bit_2 * 2 ^ min s_1.Count.toNat 64))).toNat : Int)))] }
 else
 ret { s_1 with Count := 0, Acc := 0, Aux := 1 }
theorem spi_shift_pre (m : Nat) (c_0 : Spi) (s_1 : State) (bit_2 : Int) : funK Try.prog Ψ0 keep m 1 31 [(dS of_Spi cells_Spi of_Spi_ok).e c_0, (dS of_State cells_State of_State_ok).e s_1, (dInt .i64).e bit_2] = b_spi_shift m (fun x0 => some (w_spi_shift x0)) c_0 s_1 bit_2 := by kernel_rfl
theorem b_spi_shift_map (m : Nat) (c_0 : Spi) (s_1 : State) (bit_2 : Int) : b_spi_shift m (fun x0 => some (w_spi_shift x0)) c_0 s_1 bit_2 = (b_spi_shift m (fun x0 => some x0) c_0 s_1 bit_2).map w_spi_shift := by
  simp only [b_spi_shift, cond_map, bind_map, map_none, map_some]
noncomputable def spi_shift (m : Nat) (c_0 : Spi) (s_1 : State) (bit_2 : Int) : Option (State) := b_spi_shift m (fun x0 => some x0) c_0 s_1 bit_2
theorem spi_shift_fun (m : Nat) (c_0 : Spi) (s_1 : State) (bit_2 : Int) : funK Try.prog Ψ0 keep m 1 31 [(dS of_Spi cells_Spi of_Spi_ok).e c_0, (dS of_State cells_State of_State_ok).e s_1, (dInt .i64).e bit_2] = (spi_shift m c_0 s_1 bit_2).map w_spi_shift := by
  rw [spi_shift_pre]
  exact b_spi_shift_map m c_0 s_1 bit_2
noncomputable def K_spi_shift (m : Nat) : KnownF C := mkK (dCons (dS of_Spi cells_Spi of_Spi_ok) (dCons (dS of_State cells_State of_State_ok) (dCons (dInt .i64) dNil))) (fun a => spi_shift m a.1 a.2.1 a.2.2.1) w_spi_shift
theorem K_spi_shift_ok (m : Nat) : KnownAt C Try.prog 31 fun l => (K_spi_shift m).run _ l some :=
  mkK_known good fit Ψ0_ok (keep := keep) (m := m) (d := 1) fun a => spi_shift_fun m a.1 a.2.1 a.2.2.1
/-! ### signalbench/spi.Step -/
noncomputable def Ψ_spi_Step (m : Nat) : Known C := fun f => match f with
  | 15 => some (K_spi_Check m)
  | 29 => some (K_spi_accepts m)
  | 30 => some (K_spi_active m)
  | 31 => some (K_spi_shift m)
  | 43 => some (K_spi_edge_rise m)
  | 44 => some (K_spi_edge_fall m)
  | _ => none
theorem Ψ_spi_Step_ok (m : Nat) : KnownOk C Try.prog (Ψ_spi_Step m) := by
  intro f φ h
  unfold Ψ_spi_Step at h
  split at h
  · injection h with h; subst h; exact K_spi_Check_ok m
  · injection h with h; subst h; exact K_spi_accepts_ok m
  · injection h with h; subst h; exact K_spi_active_ok m
  · injection h with h; subst h; exact K_spi_shift_ok m
  · injection h with h; subst h; exact K_spi_edge_rise_ok m
  · injection h with h; subst h; exact K_spi_edge_fall_ok m
  · cases h
def w_spi_Step (b : State × List Event) : List (RV C) := [(dS of_State cells_State of_State_ok).e b.1, (dRow 32).e b.2]
noncomputable def b_spi_Step {R : Type} (m : Nat) (ret : State → List Event → Option R) (c_0 : Spi) (s_1 : State) (e_2 : Event) : Option R :=
 (spi_Check m c_0).bind fun r0 =>
 bif r0 != 0 then
 ret s_1 []
 else
 (spi_accepts m s_1 e_2).bind fun r1 =>
 bif !r1 then
 ret s_1 []
 else
 bif s_1.Phase == 0 then
 bif IntKind.i64.wrap (((BitVec.ofInt 64 e_2.Value &&& BitVec.ofInt 64 4).toNat : Int)) != 0 then
 bif IntKind.i64.wrap (((BitVec.ofInt 64 e_2.Value &&& BitVec.ofInt 64 4).toNat : Int)) == 0 then
 ret (State.mk 2 e_2.To e_2.From 0 0 0 e_2.Value (bs [])) []
 else
 bif IntKind.i64.wrap (((BitVec.ofInt 64 e_2.Value &&& BitVec.ofInt 64 4).toNat : Int)) == 0 then
 bif IntKind.i64.wrap (((BitVec.ofInt 64 e_2.Value &&& BitVec.ofInt 64 4).toNat : Int)) != 0 then
 ret { s_1 with Phase := 1, At := e_2.To, Prev := e_2.Value } []
 else
 ret { s_1 with Phase := 1, At := e_2.To, Prev := e_2.Value } []
 else
 ret { s_1 with Phase := 1, At := e_2.To, Prev := e_2.Value } []
 else
 bif IntKind.i64.wrap (((BitVec.ofInt 64 e_2.Value &&& BitVec.ofInt 64 4).toNat : Int)) == 0 then
 bif IntKind.i64.wrap (((BitVec.ofInt 64 e_2.Value &&& BitVec.ofInt 64 4).toNat : Int)) != 0 then
 ret { s_1 with Phase := 1, At := e_2.To, Prev := e_2.Value } []
 else
 ret { s_1 with Phase := 1, At := e_2.To, Prev := e_2.Value } []
 else
 ret { s_1 with Phase := 1, At := e_2.To, Prev := e_2.Value } []
 else
 bif IntKind.i64.wrap (((BitVec.ofInt 64 s_1.Prev &&& BitVec.ofInt 64 4).toNat : Int)) != 0 then
 (bif IntKind.i64.wrap (((BitVec.ofInt 64 e_2.Value &&& BitVec.ofInt 64 4).toNat : Int)) == 0 then
 ret (State.mk 2 e_2.To e_2.From 0 0 0 e_2.Value (bs [])) []
 else
 bif IntKind.i64.wrap (((BitVec.ofInt 64 s_1.Prev &&& BitVec.ofInt 64 4).toNat : Int)) == 0 then
 (bif IntKind.i64.wrap (((BitVec.ofInt 64 e_2.Value &&& BitVec.ofInt 64 4).toNat : Int)) != 0 then
 bif s_1.Phase == 2 then
 bif decide (s_1.Count > 0) then
 ret { s_1 with Phase := 1, At := e_2.To, Prev := e_2.Value } ([Event.mk 5 s_1.From e_2.From 0 0 s_1.Data 8])
 else
 bif s_1.Aux == 1 then
 ret { s_1 with Phase := 1, At := e_2.To, Prev := e_2.Value } ([Event.mk 5 s_1.From e_2.From 0 0 s_1.Data 8])
 else
 ret { s_1 with Phase := 1, At := e_2.To, Prev := e_2.Value } ([Event.mk 5 s_1.From e_2.From 0 0 s_1.Data 0])
 else
 ret { s_1 with Phase := 1, At := e_2.To, Prev := e_2.Value } []
 else
 bif s_1.Phase == 2 then
 ((spi_active m c_0.Mode).bind fun r2 =>
 bif decide (r2 = 43) then
 ((spi_edge_rise m (Spi_edge.mk s_1.Prev e_2.Value)).bind fun r3 =>
 bif r3 then
 ((spi_shift m c_0 (State.mk s_1.Phase e_2.To s_1.From s_1.Count s_1.Acc s_1.Aux e_2.Value s_1.Data) (IntKind.i64.wrap ((IntKind.i64.wrap (((BitVec.ofInt 64 e_2.Value &&& BitVec.ofInt 64 2).toNat : Int))).tdiv 2))).bind fun r4 =>
 ret r4 [])
 else
 ret { s_1 with At := e_2.To, Prev := e_2.Value } [])
 else
 bif decide (r2 = 44) then
 ((spi_edge_fall m (Spi_edge.mk s_1.Prev e_2.Value)).bind fun r5 =>
 bif r5 then
 ((spi_shift m c_0 (State.mk s_1.Phase e_2.To s_1.From s_1.Count s_1.Acc s_1.Aux e_2.Value s_1.Data) (IntKind.i64.wrap ((IntKind.i64.wrap (((BitVec.ofInt 64 e_2.Value &&& BitVec.ofInt 64 2).toNat : Int))).tdiv 2))).bind fun r6 =>
 ret r6 [])
 else
 ret { s_1 with At := e_2.To, Prev := e_2.Value } [])
 else
 none)
 else
 ret { s_1 with At := e_2.To, Prev := e_2.Value } [])
 else
 bif s_1.Phase == 2 then
 ((spi_active m c_0.Mode).bind fun r7 =>
 bif decide (r7 = 43) then
 ((spi_edge_rise m (Spi_edge.mk s_1.Prev e_2.Value)).bind fun r8 =>
 bif r8 then
 ((spi_shift m c_0 (State.mk s_1.Phase e_2.To s_1.From s_1.Count s_1.Acc s_1.Aux e_2.Value s_1.Data) (IntKind.i64.wrap ((IntKind.i64.wrap (((BitVec.ofInt 64 e_2.Value &&& BitVec.ofInt 64 2).toNat : Int))).tdiv 2))).bind fun r9 =>
 ret r9 [])
 else
 ret { s_1 with At := e_2.To, Prev := e_2.Value } [])
 else
 bif decide (r7 = 44) then
 ((spi_edge_fall m (Spi_edge.mk s_1.Prev e_2.Value)).bind fun r10 =>
 bif r10 then
 ((spi_shift m c_0 (State.mk s_1.Phase e_2.To s_1.From s_1.Count s_1.Acc s_1.Aux e_2.Value s_1.Data) (IntKind.i64.wrap ((IntKind.i64.wrap (((BitVec.ofInt 64 e_2.Value &&& BitVec.ofInt 64 2).toNat : Int))).tdiv 2))).bind fun r11 =>
 ret r11 [])
 else
 ret { s_1 with At := e_2.To, Prev := e_2.Value } [])
 else
 none)
 else
 ret { s_1 with At := e_2.To, Prev := e_2.Value } [])
 else
 bif IntKind.i64.wrap (((BitVec.ofInt 64 s_1.Prev &&& BitVec.ofInt 64 4).toNat : Int)) == 0 then
 (bif IntKind.i64.wrap (((BitVec.ofInt 64 e_2.Value &&& BitVec.ofInt 64 4).toNat : Int)) != 0 then
 bif s_1.Phase == 2 then
 bif decide (s_1.Count > 0) then
 ret { s_1 with Phase := 1, At := e_2.To, Prev := e_2.Value } ([Event.mk 5 s_1.From e_2.From 0 0 s_1.Data 8])
 else
 bif s_1.Aux == 1 then
 ret { s_1 with Phase := 1, At := e_2.To, Prev := e_2.Value } ([Event.mk 5 s_1.From e_2.From 0 0 s_1.Data 8])
 else
 ret { s_1 with Phase := 1, At := e_2.To, Prev := e_2.Value } ([Event.mk 5 s_1.From e_2.From 0 0 s_1.Data 0])
 else
 ret { s_1 with Phase := 1, At := e_2.To, Prev := e_2.Value } []
 else
 bif s_1.Phase == 2 then
 ((spi_active m c_0.Mode).bind fun r12 =>
 bif decide (r12 = 43) then
 ((spi_edge_rise m (Spi_edge.mk s_1.Prev e_2.Value)).bind fun r13 =>
 bif r13 then
 ((spi_shift m c_0 (State.mk s_1.Phase e_2.To s_1.From s_1.Count s_1.Acc s_1.Aux e_2.Value s_1.Data) (IntKind.i64.wrap ((IntKind.i64.wrap (((BitVec.ofInt 64 e_2.Value &&& BitVec.ofInt 64 2).toNat : Int))).tdiv 2))).bind fun r14 =>
 ret r14 [])
 else
 ret { s_1 with At := e_2.To, Prev := e_2.Value } [])
 else
 bif decide (r12 = 44) then
 ((spi_edge_fall m (Spi_edge.mk s_1.Prev e_2.Value)).bind fun r15 =>
 bif r15 then
 ((spi_shift m c_0 (State.mk s_1.Phase e_2.To s_1.From s_1.Count s_1.Acc s_1.Aux e_2.Value s_1.Data) (IntKind.i64.wrap ((IntKind.i64.wrap (((BitVec.ofInt 64 e_2.Value &&& BitVec.ofInt 64 2).toNat : Int))).tdiv 2))).bind fun r16 =>
 ret r16 [])
 else
 ret { s_1 with At := e_2.To, Prev := e_2.Value } [])
 else
 none)
 else
 ret { s_1 with At := e_2.To, Prev := e_2.Value } [])
 else
 bif s_1.Phase == 2 then
 ((spi_active m c_0.Mode).bind fun r17 =>
 bif decide (r17 = 43) then
 ((spi_edge_rise m (Spi_edge.mk s_1.Prev e_2.Value)).bind fun r18 =>
 bif r18 then
 ((spi_shift m c_0 (State.mk s_1.Phase e_2.To s_1.From s_1.Count s_1.Acc s_1.Aux e_2.Value s_1.Data) (IntKind.i64.wrap ((IntKind.i64.wrap (((BitVec.ofInt 64 e_2.Value &&& BitVec.ofInt 64 2).toNat : Int))).tdiv 2))).bind fun r19 =>
 ret r19 [])
 else
 ret { s_1 with At := e_2.To, Prev := e_2.Value } [])
 else
 bif decide (r17 = 44) then
 ((spi_edge_fall m (Spi_edge.mk s_1.Prev e_2.Value)).bind fun r20 =>
 bif r20 then
 ((spi_shift m c_0 (State.mk s_1.Phase e_2.To s_1.From s_1.Count s_1.Acc s_1.Aux e_2.Value s_1.Data) (IntKind.i64.wrap ((IntKind.i64.wrap (((BitVec.ofInt 64 e_2.Value &&& BitVec.ofInt 64 2).toNat : Int))).tdiv 2))).bind fun r21 =>
 ret r21 [])
 else
 ret { s_1 with At := e_2.To, Prev := e_2.Value } [])
 else
 none)
 else
 ret { s_1 with At := e_2.To, Prev := e_2.Value } []
theorem spi_Step_pre (m : Nat) (c_0 : Spi) (s_1 : State) (e_2 : Event) : funK Try.prog (Ψ_spi_Step m) keep m 1 12 [(dS of_Spi cells_Spi of_Spi_ok).e c_0, (dS of_State cells_State of_State_ok).e s_1, (dS of_Event cells_Event of_Event_ok).e e_2] = b_spi_Step m (fun x0 x1 => some (w_spi_Step (x0, x1))) c_0 s_1 e_2 := by kernel_rfl
theorem b_spi_Step_map (m : Nat) (c_0 : Spi) (s_1 : State) (e_2 : Event) : b_spi_Step m (fun x0 x1 => some (w_spi_Step (x0, x1))) c_0 s_1 e_2 = (b_spi_Step m (fun x0 x1 => some (x0, x1)) c_0 s_1 e_2).map w_spi_Step := by
  simp only [b_spi_Step, cond_map, bind_map, map_none, map_some]
noncomputable def spi_Step (m : Nat) (c_0 : Spi) (s_1 : State) (e_2 : Event) : Option (State × List Event) := b_spi_Step m (fun x0 x1 => some (x0, x1)) c_0 s_1 e_2
theorem spi_Step_fun (m : Nat) (c_0 : Spi) (s_1 : State) (e_2 : Event) : funK Try.prog (Ψ_spi_Step m) keep m 1 12 [(dS of_Spi cells_Spi of_Spi_ok).e c_0, (dS of_State cells_State of_State_ok).e s_1, (dS of_Event cells_Event of_Event_ok).e e_2] = (spi_Step m c_0 s_1 e_2).map w_spi_Step := by
  rw [spi_Step_pre]
  exact b_spi_Step_map m c_0 s_1 e_2
noncomputable def K_spi_Step (m : Nat) : KnownF C := mkK (dCons (dS of_Spi cells_Spi of_Spi_ok) (dCons (dS of_State cells_State of_State_ok) (dCons (dS of_Event cells_Event of_Event_ok) dNil))) (fun a => spi_Step m a.1 a.2.1 a.2.2.1) w_spi_Step
theorem K_spi_Step_ok (m : Nat) : KnownAt C Try.prog 12 fun l => (K_spi_Step m).run _ l some :=
  mkK_known good fit (Ψ_spi_Step_ok m) (keep := keep) (m := m) (d := 1) fun a => spi_Step_fun m a.1 a.2.1 a.2.2.1
/-! ### signalbench/spi.End -/
noncomputable def Ψ_spi_End (m : Nat) : Known C := fun f => match f with
  | 15 => some (K_spi_Check m)
  | _ => none
theorem Ψ_spi_End_ok (m : Nat) : KnownOk C Try.prog (Ψ_spi_End m) := by
  intro f φ h
  unfold Ψ_spi_End at h
  split at h
  · injection h with h; subst h; exact K_spi_Check_ok m
  · cases h
def w_spi_End (b : List Event) : List (RV C) := [(dRow 32).e b]
noncomputable def b_spi_End {R : Type} (m : Nat) (ret : List Event → Option R) (c_0 : Spi) (s_1 : State) : Option R :=
 (spi_Check m c_0).bind fun r0 =>
 bif r0 != 0 then
 ret []
 else
 bif s_1.Phase != 2 then
 ret []
 else
 ret ([Event.mk 5 s_1.From s_1.At 0 0 (bs []) 7])
theorem spi_End_pre (m : Nat) (c_0 : Spi) (s_1 : State) : funK Try.prog (Ψ_spi_End m) keep m 1 17 [(dS of_Spi cells_Spi of_Spi_ok).e c_0, (dS of_State cells_State of_State_ok).e s_1] = b_spi_End m (fun x0 => some (w_spi_End x0)) c_0 s_1 := by kernel_rfl
theorem b_spi_End_map (m : Nat) (c_0 : Spi) (s_1 : State) : b_spi_End m (fun x0 => some (w_spi_End x0)) c_0 s_1 = (b_spi_End m (fun x0 => some x0) c_0 s_1).map w_spi_End := by
  simp only [b_spi_End, cond_map, bind_map, map_none, map_some]
noncomputable def spi_End (m : Nat) (c_0 : Spi) (s_1 : State) : Option (List Event) := b_spi_End m (fun x0 => some x0) c_0 s_1
theorem spi_End_fun (m : Nat) (c_0 : Spi) (s_1 : State) : funK Try.prog (Ψ_spi_End m) keep m 1 17 [(dS of_Spi cells_Spi of_Spi_ok).e c_0, (dS of_State cells_State of_State_ok).e s_1] = (spi_End m c_0 s_1).map w_spi_End := by
  rw [spi_End_pre]
  exact b_spi_End_map m c_0 s_1
noncomputable def K_spi_End (m : Nat) : KnownF C := mkK (dCons (dS of_Spi cells_Spi of_Spi_ok) (dCons (dS of_State cells_State of_State_ok) dNil)) (fun a => spi_End m a.1 a.2.1) w_spi_End
theorem K_spi_End_ok (m : Nat) : KnownAt C Try.prog 17 fun l => (K_spi_End m).run _ l some :=
  mkK_known good fit (Ψ_spi_End_ok m) (keep := keep) (m := m) (d := 1) fun a => spi_End_fun m a.1 a.2.1
/-! ### signalbench/spi.Decode -/
noncomputable def Ψ_spi_Decode (m : Nat) : Known C := fun f => match f with
  | 10 => some (K_spi_Start m)
  | 12 => some (K_spi_Step m)
  | 17 => some (K_spi_End m)
  | _ => none
theorem Ψ_spi_Decode_ok (m : Nat) : KnownOk C Try.prog (Ψ_spi_Decode m) := by
  intro f φ h
  unfold Ψ_spi_Decode at h
  split at h
  · injection h with h; subst h; exact K_spi_Start_ok m
  · injection h with h; subst h; exact K_spi_Step_ok m
  · injection h with h; subst h; exact K_spi_End_ok m
  · cases h
def w_spi_Decode (b : List Event) : List (RV C) := [(dRow 32).e b]
noncomputable def Q_spi_Decode_4 (m : Nat) : St C → (Exit → St C → Option (List (RV C))) → Option (List (RV C)) := fun σ k => codeK Try.prog (Ψ_spi_Decode m) (callK Try.prog (Ψ_spi_Decode m) keep m 0) (keep 19) m (subC body19 [.r, .r, .r, .l, .r, .b, .o]) σ k
noncomputable def KL_spi_Decode_4 (m : Nat) : Exit → St C → Option (List (RV C)) := contK Try.prog (Ψ_spi_Decode m) (callK Try.prog (Ψ_spi_Decode m) keep m 0) (keep 19) m body19 [.r, .r, .r, .l, .r, .b, .o] (leaveK Try.prog Try.f19.results.toList (finK Try.prog Try.f19.resultTypes.toList))
noncomputable def L_spi_Decode_l4 (m n : Nat) (t14 : Int) (t15 : Int) (c0 : Spi) (c1 : State) (out_6 : List Event) (t13 : List Event) : Option (List (RV C)) := iterK (Q_spi_Decode_4 m) (St.norm (keep 19 4)) n ({ T := [.dead, .dead, .fl (.one (.ptr 0 0)), .dead, .dead, .fl (.one (.ptr 1 0)), .fl (.one (.sl 2)), .dead, .dead, .dead, .dead, .dead, .dead, .fl (.one (.sl 3)), .fl (.one (.int .i64 t14)), .fl (.one (.int .i64 t15))] ++ List.replicate 20 .dead, F := [[]], H := [.box 23 (cells_Spi c0), .box 27 (cells_State c1), .row 32 true out_6, .row 32 false t13] } : St C) (KL_spi_Decode_4 m)
noncomputable def b_spi_Decode_l4 {R : Type} (m : Nat) (ret : List Event → Option R) (k_l4 : Int → Int → Spi → State → List Event → List Event → Option R) (t14 : Int) (t15 : Int) (c0 : Spi) (c1 : State) (out_6 : List Event) (t13 : List Event) : Option R :=
 bif decide (t15 < t14) then
 (bif decide (0 ≤ t15) then
 (bif decide (t15 < (t13.length : Int)) then
 ((spi_Step m c0 c1 (t13.getD t15.toNat dflt_Event)).bind fun r0 =>
 bif decide ((out_6.length + r0.snd.length) * 64 ≤ 140737488355328) then
 k_l4 t14 (IntKind.i64.wrap (t15 + 1)) c0 r0.fst (out_6 ++ r0.snd) t13
 else
 none)
 else
 none)
 else
 none)
 else
 (spi_End m c0 c1).bind fun r1 =>
 bif decide ((out_6.length + r1.length) * 64 ≤ 140737488355328) then
 ret (out_6 ++ r1)
 else
 none
theorem L_spi_Decode_l4_step (m n : Nat) (t14 : Int) (t15 : Int) (c0 : Spi) (c1 : State) (out_6 : List Event) (t13 : List Event) : L_spi_Decode_l4 m (n + 1) t14 t15 c0 c1 out_6 t13 = b_spi_Decode_l4 m (fun x0 => some (w_spi_Decode x0)) (fun t14 t15 c0 c1 out_6 t13 => L_spi_Decode_l4 m n t14 t15 c0 c1 out_6 t13) t14 t15 c0 c1 out_6 t13 := by kernel_rfl
theorem b_spi_Decode_l4_map (m : Nat) {k_l4 : Int → Int → Spi → State → List Event → List Event → Option (List (RV C))} {q_l4 : Int → Int → Spi → State → List Event → List Event → Option (List Event)} (h_l4 : ∀ t14 t15 c0 c1 out_6 t13, k_l4 t14 t15 c0 c1 out_6 t13 = (q_l4 t14 t15 c0 c1 out_6 t13).map w_spi_Decode) (t14 : Int) (t15 : Int) (c0 : Spi) (c1 : State) (out_6 : List Event) (t13 : List Event) : b_spi_Decode_l4 m (fun x0 => some (w_spi_Decode x0)) k_l4 t14 t15 c0 c1 out_6 t13 = (b_spi_Decode_l4 m (fun x0 => some x0) q_l4 t14 t15 c0 c1 out_6 t13).map w_spi_Decode := by
  simp only [b_spi_Decode_l4, cond_map, bind_map, map_none, map_some, h_l4]
noncomputable def spi_Decode_l4 (m : Nat) : Nat → Int → Int → Spi → State → List Event → List Event → Option (List Event)
  | 0, _, _, _, _, _, _ => none
  | n + 1, t14, t15, c0, c1, out_6, t13 => b_spi_Decode_l4 m (fun x0 => some x0) (fun t14 t15 c0 c1 out_6 t13 => spi_Decode_l4 m n t14 t15 c0 c1 out_6 t13) t14 t15 c0 c1 out_6 t13
theorem L_spi_Decode_l4_eq (m : Nat) : ∀ (n : Nat) (t14 : Int) (t15 : Int) (c0 : Spi) (c1 : State) (out_6 : List Event) (t13 : List Event), L_spi_Decode_l4 m n t14 t15 c0 c1 out_6 t13 = (spi_Decode_l4 m n t14 t15 c0 c1 out_6 t13).map w_spi_Decode
  | 0, t14, t15, c0, c1, out_6, t13 => by kernel_rfl
  | n + 1, t14, t15, c0, c1, out_6, t13 => by
    rw [L_spi_Decode_l4_step]
    exact b_spi_Decode_l4_map m (fun t14 t15 c0 c1 out_6 t13 => L_spi_Decode_l4_eq m n t14 t15 c0 c1 out_6 t13) t14 t15 c0 c1 out_6 t13
noncomputable def b_spi_Decode {R : Type} (m : Nat) (ret : List Event → Option R) (k_l4 : Int → Int → Spi → State → List Event → List Event → Option R) (c_0 : Spi) (l_1 : List Event) : Option R :=
 k_l4 (l_1.length : Int) 0 c_0 (State.mk 0 0 0 0 0 0 0 (bs [])) [] l_1
theorem spi_Decode_pre (m : Nat) (c_0 : Spi) (l_1 : List Event) : funK Try.prog (Ψ_spi_Decode m) keep m 1 19 [(dS of_Spi cells_Spi of_Spi_ok).e c_0, (dRow 32).e l_1] = b_spi_Decode m (fun x0 => some (w_spi_Decode x0)) (fun t14 t15 c0 c1 out_6 t13 => L_spi_Decode_l4 m m t14 t15 c0 c1 out_6 t13) c_0 l_1 := by kernel_rfl
theorem b_spi_Decode_map (m : Nat) {k_l4 : Int → Int → Spi → State → List Event → List Event → Option (List (RV C))} {q_l4 : Int → Int → Spi → State → List Event → List Event → Option (List Event)} (h_l4 : ∀ t14 t15 c0 c1 out_6 t13, k_l4 t14 t15 c0 c1 out_6 t13 = (q_l4 t14 t15 c0 c1 out_6 t13).map w_spi_Decode) (c_0 : Spi) (l_1 : List Event) : b_spi_Decode m (fun x0 => some (w_spi_Decode x0)) k_l4 c_0 l_1 = (b_spi_Decode m (fun x0 => some x0) q_l4 c_0 l_1).map w_spi_Decode := by
  simp only [b_spi_Decode, cond_map, bind_map, map_none, map_some, h_l4]
noncomputable def spi_Decode (m : Nat) (c_0 : Spi) (l_1 : List Event) : Option (List Event) := b_spi_Decode m (fun x0 => some x0) (fun t14 t15 c0 c1 out_6 t13 => spi_Decode_l4 m m t14 t15 c0 c1 out_6 t13) c_0 l_1
theorem spi_Decode_fun (m : Nat) (c_0 : Spi) (l_1 : List Event) : funK Try.prog (Ψ_spi_Decode m) keep m 1 19 [(dS of_Spi cells_Spi of_Spi_ok).e c_0, (dRow 32).e l_1] = (spi_Decode m c_0 l_1).map w_spi_Decode := by
  rw [spi_Decode_pre]
  exact b_spi_Decode_map m (fun t14 t15 c0 c1 out_6 t13 => L_spi_Decode_l4_eq m m t14 t15 c0 c1 out_6 t13) c_0 l_1
noncomputable def K_spi_Decode (m : Nat) : KnownF C := mkK (dCons (dS of_Spi cells_Spi of_Spi_ok) (dCons (dRow 32) dNil)) (fun a => spi_Decode m a.1 a.2.1) w_spi_Decode
theorem K_spi_Decode_ok (m : Nat) : KnownAt C Try.prog 19 fun l => (K_spi_Decode m).run _ l some :=
  mkK_known good fit (Ψ_spi_Decode_ok m) (keep := keep) (m := m) (d := 1) fun a => spi_Decode_fun m a.1 a.2.1
/-! ### signalbench/signalbenchlaw24.lives -/
noncomputable def Ψ_law24_lives (m : Nat) : Known C := fun f => match f with
  | 22 => some (K_spi_Encode m)
  | 15 => some (K_spi_Check m)
  | 23 => some (K_law24_events m)
  | 19 => some (K_spi_Decode m)
  | _ => none
theorem Ψ_law24_lives_ok (m : Nat) : KnownOk C Try.prog (Ψ_law24_lives m) := by
  intro f φ h
  unfold Ψ_law24_lives at h
  split at h
  · injection h with h; subst h; exact K_spi_Encode_ok m
  · injection h with h; subst h; exact K_spi_Check_ok m
  · injection h with h; subst h; exact K_law24_events_ok m
  · injection h with h; subst h; exact K_spi_Decode_ok m
  · cases h
def w_law24_lives (b : Bool) : List (RV C) := [dBool.e b]
noncomputable def b_law24_lives {R : Type} (m : Nat) (ret : Bool → Option R) : Option R :=
 (spi_Encode m (Spi.mk 1 0 2 true) [Item.mk 0 0 0 (bs [2]) 0]).bind fun r0 =>
 bif r0.snd != 0 then
 ret false
 else
 bif (r0.fst.length : Int) != 8 then
 ret false
 else
 bif decide (2 < (r0.fst.length : Int)) then
 (bif !((r0.fst.getD 2 dflt_Run).Level == 2 && ((r0.fst.getD 2 dflt_Run).Ticks == 1 && true)) then
 ret false
 else
 bif decide (7 < (r0.fst.length : Int)) then
 (bif !((r0.fst.getD 7 dflt_Run).Level == 4 && ((r0.fst.getD 7 dflt_Run).Ticks == 2 && true)) then
 ret false
 else
 (law24_events m r0.fst).bind fun r1 =>
 (spi_Decode m (Spi.mk 1 0 2 true) r1.fst).bind fun r2 =>
 bif r1.snd then
 bif (r2.length : Int) == 1 then
 bif decide (0 < (r2.length : Int)) then
 ret ((r2.getD 0 dflt_Event).Kind == 5 && ((r2.getD 0 dflt_Event).From == 2 && ((r2.getD 0 dflt_Event).To == 8 && ((r2.getD 0 dflt_Event).Value == 0 && ((r2.getD 0 dflt_Event).Aux == 0 && ((r2.getD 0 dflt_Event).Data == bs [2] && ((r2.getD 0 dflt_Event).Fault == 0 && true)))))))
 else
 none
 else
 ret false
 else
 ret false)
 else
 none)
 else
 none
theorem law24_lives_pre (m : Nat) : funK Try.prog (Ψ_law24_lives m) keep m 1 9 [] = b_law24_lives m (fun x0 => some (w_law24_lives x0)) := by kernel_rfl
theorem b_law24_lives_map (m : Nat) : b_law24_lives m (fun x0 => some (w_law24_lives x0)) = (b_law24_lives m (fun x0 => some x0)).map w_law24_lives := by
  simp only [b_law24_lives, cond_map, bind_map, map_none, map_some]
noncomputable def law24_lives (m : Nat) : Option (Bool) := b_law24_lives m (fun x0 => some x0)
theorem law24_lives_fun (m : Nat) : funK Try.prog (Ψ_law24_lives m) keep m 1 9 [] = (law24_lives m).map w_law24_lives := by
  rw [law24_lives_pre]
  exact b_law24_lives_map m
noncomputable def K_law24_lives (m : Nat) : KnownF C := mkK dNil (fun a => law24_lives m) w_law24_lives
theorem K_law24_lives_ok (m : Nat) : KnownAt C Try.prog 9 fun l => (K_law24_lives m).run _ l some :=
  mkK_known good fit (Ψ_law24_lives_ok m) (keep := keep) (m := m) (d := 1) fun a => law24_lives_fun m
/-! ### signalbench/signalbenchref24.Start -/
def w_ref24_Start (b : State) : List (RV C) := [(dS of_State cells_State of_State_ok).e b]
noncomputable def b_ref24_Start {R : Type} (m : Nat) (ret : State → Option R) (c_0 : Spi) : Option R :=
 ret (State.mk 0 0 0 0 0 0 0 (bs []))
theorem ref24_Start_pre (m : Nat) (c_0 : Spi) : funK Try.prog Ψ0 keep m 1 11 [(dS of_Spi cells_Spi of_Spi_ok).e c_0] = b_ref24_Start m (fun x0 => some (w_ref24_Start x0)) c_0 := by kernel_rfl
theorem b_ref24_Start_map (m : Nat) (c_0 : Spi) : b_ref24_Start m (fun x0 => some (w_ref24_Start x0)) c_0 = (b_ref24_Start m (fun x0 => some x0) c_0).map w_ref24_Start := by
  simp only [b_ref24_Start, cond_map, bind_map, map_none, map_some]
noncomputable def ref24_Start (m : Nat) (c_0 : Spi) : Option (State) := b_ref24_Start m (fun x0 => some x0) c_0
theorem ref24_Start_fun (m : Nat) (c_0 : Spi) : funK Try.prog Ψ0 keep m 1 11 [(dS of_Spi cells_Spi of_Spi_ok).e c_0] = (ref24_Start m c_0).map w_ref24_Start := by
  rw [ref24_Start_pre]
  exact b_ref24_Start_map m c_0
noncomputable def K_ref24_Start (m : Nat) : KnownF C := mkK (dCons (dS of_Spi cells_Spi of_Spi_ok) dNil) (fun a => ref24_Start m a.1) w_ref24_Start
theorem K_ref24_Start_ok (m : Nat) : KnownAt C Try.prog 11 fun l => (K_ref24_Start m).run _ l some :=
  mkK_known good fit Ψ0_ok (keep := keep) (m := m) (d := 1) fun a => ref24_Start_fun m a.1
/-! ### signalbench/signalbenchref24.Check -/
def w_ref24_Check (b : Int) : List (RV C) := [(dInt .i64).e b]
noncomputable def b_ref24_Check {R : Type} (m : Nat) (ret : Int → Option R) (c_0 : Spi) : Option R :=
 bif decide (c_0.T < 1) then
 ret 2
 else
 bif decide (c_0.T > 1048576) then
 ret 2
 else
 bif decide (c_0.Mode < 0) then
 ret 2
 else
 bif decide (c_0.Mode > 3) then
 ret 2
 else
 bif decide (c_0.Bits < 1) then
 ret 2
 else
 bif decide (c_0.Bits > 8) then
 ret 2
 else
 ret 0
theorem ref24_Check_pre (m : Nat) (c_0 : Spi) : funK Try.prog Ψ0 keep m 1 16 [(dS of_Spi cells_Spi of_Spi_ok).e c_0] = b_ref24_Check m (fun x0 => some (w_ref24_Check x0)) c_0 := by kernel_rfl
theorem b_ref24_Check_map (m : Nat) (c_0 : Spi) : b_ref24_Check m (fun x0 => some (w_ref24_Check x0)) c_0 = (b_ref24_Check m (fun x0 => some x0) c_0).map w_ref24_Check := by
  simp only [b_ref24_Check, cond_map, bind_map, map_none, map_some]
noncomputable def ref24_Check (m : Nat) (c_0 : Spi) : Option (Int) := b_ref24_Check m (fun x0 => some x0) c_0
theorem ref24_Check_fun (m : Nat) (c_0 : Spi) : funK Try.prog Ψ0 keep m 1 16 [(dS of_Spi cells_Spi of_Spi_ok).e c_0] = (ref24_Check m c_0).map w_ref24_Check := by
  rw [ref24_Check_pre]
  exact b_ref24_Check_map m c_0
noncomputable def K_ref24_Check (m : Nat) : KnownF C := mkK (dCons (dS of_Spi cells_Spi of_Spi_ok) dNil) (fun a => ref24_Check m a.1) w_ref24_Check
theorem K_ref24_Check_ok (m : Nat) : KnownAt C Try.prog 16 fun l => (K_ref24_Check m).run _ l some :=
  mkK_known good fit Ψ0_ok (keep := keep) (m := m) (d := 1) fun a => ref24_Check_fun m a.1
/-! ### signalbench/signalbenchref07.Valid -/
def w_ref07_Valid (b : Bool) : List (RV C) := [dBool.e b]
noncomputable def b_ref07_Valid {R : Type} (m : Nat) (ret : Bool → Option R) (e_0 : Event) : Option R :=
 bif decide (e_0.Kind < 1) then
 ret false
 else
 bif decide (e_0.Kind > 8) then
 ret false
 else
 bif decide (e_0.From < 0) then
 ret false
 else
 bif decide (e_0.From > e_0.To) then
 ret false
 else
 bif decide (e_0.To > 1099511627776) then
 ret false
 else
 bif decide ((e_0.Data.size : Int) > 4096) then
 ret false
 else
 bif decide (e_0.Fault < 0) then
 ret false
 else
 bif decide (e_0.Fault > 12) then
 ret false
 else
 bif decide (e_0.Value ≥ -9007199254740992) then
 bif decide (e_0.Value ≤ 9007199254740992) then
 bif decide (e_0.Aux ≥ -9007199254740992) then
 ret (decide (e_0.Aux ≤ 9007199254740992))
 else
 ret false
 else
 ret false
 else
 ret false
theorem ref07_Valid_pre (m : Nat) (e_0 : Event) : funK Try.prog Ψ0 keep m 1 45 [(dS of_Event cells_Event of_Event_ok).e e_0] = b_ref07_Valid m (fun x0 => some (w_ref07_Valid x0)) e_0 := by kernel_rfl
theorem b_ref07_Valid_map (m : Nat) (e_0 : Event) : b_ref07_Valid m (fun x0 => some (w_ref07_Valid x0)) e_0 = (b_ref07_Valid m (fun x0 => some x0) e_0).map w_ref07_Valid := by
  simp only [b_ref07_Valid, cond_map, bind_map, map_none, map_some]
noncomputable def ref07_Valid (m : Nat) (e_0 : Event) : Option (Bool) := b_ref07_Valid m (fun x0 => some x0) e_0
theorem ref07_Valid_fun (m : Nat) (e_0 : Event) : funK Try.prog Ψ0 keep m 1 45 [(dS of_Event cells_Event of_Event_ok).e e_0] = (ref07_Valid m e_0).map w_ref07_Valid := by
  rw [ref07_Valid_pre]
  exact b_ref07_Valid_map m e_0
noncomputable def K_ref07_Valid (m : Nat) : KnownF C := mkK (dCons (dS of_Event cells_Event of_Event_ok) dNil) (fun a => ref07_Valid m a.1) w_ref07_Valid
theorem K_ref07_Valid_ok (m : Nat) : KnownAt C Try.prog 45 fun l => (K_ref07_Valid m).run _ l some :=
  mkK_known good fit Ψ0_ok (keep := keep) (m := m) (d := 1) fun a => ref07_Valid_fun m a.1
/-! ### signalbench/signalbenchref24.accepted -/
noncomputable def Ψ_ref24_accepted (m : Nat) : Known C := fun f => match f with
  | 45 => some (K_ref07_Valid m)
  | _ => none
theorem Ψ_ref24_accepted_ok (m : Nat) : KnownOk C Try.prog (Ψ_ref24_accepted m) := by
  intro f φ h
  unfold Ψ_ref24_accepted at h
  split at h
  · injection h with h; subst h; exact K_ref07_Valid_ok m
  · cases h
def w_ref24_accepted (b : Bool) : List (RV C) := [dBool.e b]
noncomputable def b_ref24_accepted {R : Type} (m : Nat) (ret : Bool → Option R) (s_0 : State) (e_1 : Event) : Option R :=
 (ref07_Valid m e_1).bind fun r0 =>
 bif !r0 then
 ret false
 else
 bif e_1.Kind != 1 then
 ret false
 else
 bif e_1.Fault != 0 then
 ret false
 else
 bif decide (e_1.From ≥ e_1.To) then
 ret false
 else
 bif decide (e_1.Value < 0) then
 ret false
 else
 bif decide (e_1.Value > 7) then
 ret false
 else
 bif s_0.Phase == 0 then
 ret true
 else
 ret (e_1.From == s_0.At)
theorem ref24_accepted_pre (m : Nat) (s_0 : State) (e_1 : Event) : funK Try.prog (Ψ_ref24_accepted m) keep m 1 32 [(dS of_State cells_State of_State_ok).e s_0, (dS of_Event cells_Event of_Event_ok).e e_1] = b_ref24_accepted m (fun x0 => some (w_ref24_accepted x0)) s_0 e_1 := by kernel_rfl
theorem b_ref24_accepted_map (m : Nat) (s_0 : State) (e_1 : Event) : b_ref24_accepted m (fun x0 => some (w_ref24_accepted x0)) s_0 e_1 = (b_ref24_accepted m (fun x0 => some x0) s_0 e_1).map w_ref24_accepted := by
  simp only [b_ref24_accepted, cond_map, bind_map, map_none, map_some]
noncomputable def ref24_accepted (m : Nat) (s_0 : State) (e_1 : Event) : Option (Bool) := b_ref24_accepted m (fun x0 => some x0) s_0 e_1
theorem ref24_accepted_fun (m : Nat) (s_0 : State) (e_1 : Event) : funK Try.prog (Ψ_ref24_accepted m) keep m 1 32 [(dS of_State cells_State of_State_ok).e s_0, (dS of_Event cells_Event of_Event_ok).e e_1] = (ref24_accepted m s_0 e_1).map w_ref24_accepted := by
  rw [ref24_accepted_pre]
  exact b_ref24_accepted_map m s_0 e_1
noncomputable def K_ref24_accepted (m : Nat) : KnownF C := mkK (dCons (dS of_State cells_State of_State_ok) (dCons (dS of_Event cells_Event of_Event_ok) dNil)) (fun a => ref24_accepted m a.1 a.2.1) w_ref24_accepted
theorem K_ref24_accepted_ok (m : Nat) : KnownAt C Try.prog 32 fun l => (K_ref24_accepted m).run _ l some :=
  mkK_known good fit (Ψ_ref24_accepted_ok m) (keep := keep) (m := m) (d := 1) fun a => ref24_accepted_fun m a.1 a.2.1
/-! ### signalbench/signalbenchref24.active -/
def w_ref24_active (b : Bool) : List (RV C) := [dBool.e b]
noncomputable def b_ref24_active {R : Type} (m : Nat) (ret : Bool → Option R) (c_0 : Spi) (was_1 : Int) (is_2 : Int) : Option R :=
 bif c_0.Mode == 0 then
 bif IntKind.i64.wrap (((BitVec.ofInt 64 was_1 &&& BitVec.ofInt 64 1).toNat : Int)) != IntKind.i64.wrap (((BitVec.ofInt 64 is_2 &&& BitVec.ofInt 64 1).toNat : Int)) then
 ret ((IntKind.i64.wrap (((BitVec.ofInt 64 is_2 &&& BitVec.ofInt 64 1).toNat : Int)) == 1) == true)
 else
 ret false
 else
 bif IntKind.i64.wrap (((BitVec.ofInt 64 was_1 &&& BitVec.ofInt 64 1).toNat : Int)) != IntKind.i64.wrap (((BitVec.ofInt 64 is_2 &&& BitVec.ofInt 64 1).toNat : Int)) then
 ret ((IntKind.i64.wrap (((BitVec.ofInt 64 is_2 &&& BitVec.ofInt 64 1).toNat : Int)) == 1) == (c_0.Mode == 3))
 else
 ret false
theorem ref24_active_pre (m : Nat) (c_0 : Spi) (was_1 : Int) (is_2 : Int) : funK Try.prog Ψ0 keep m 1 33 [(dS of_Spi cells_Spi of_Spi_ok).e c_0, (dInt .i64).e was_1, (dInt .i64).e is_2] = b_ref24_active m (fun x0 => some (w_ref24_active x0)) c_0 was_1 is_2 := by kernel_rfl
theorem b_ref24_active_map (m : Nat) (c_0 : Spi) (was_1 : Int) (is_2 : Int) : b_ref24_active m (fun x0 => some (w_ref24_active x0)) c_0 was_1 is_2 = (b_ref24_active m (fun x0 => some x0) c_0 was_1 is_2).map w_ref24_active := by
  simp only [b_ref24_active, cond_map, bind_map, map_none, map_some]
noncomputable def ref24_active (m : Nat) (c_0 : Spi) (was_1 : Int) (is_2 : Int) : Option (Bool) := b_ref24_active m (fun x0 => some x0) c_0 was_1 is_2
theorem ref24_active_fun (m : Nat) (c_0 : Spi) (was_1 : Int) (is_2 : Int) : funK Try.prog Ψ0 keep m 1 33 [(dS of_Spi cells_Spi of_Spi_ok).e c_0, (dInt .i64).e was_1, (dInt .i64).e is_2] = (ref24_active m c_0 was_1 is_2).map w_ref24_active := by
  rw [ref24_active_pre]
  exact b_ref24_active_map m c_0 was_1 is_2
noncomputable def K_ref24_active (m : Nat) : KnownF C := mkK (dCons (dS of_Spi cells_Spi of_Spi_ok) (dCons (dInt .i64) (dCons (dInt .i64) dNil))) (fun a => ref24_active m a.1 a.2.1 a.2.2.1) w_ref24_active
theorem K_ref24_active_ok (m : Nat) : KnownAt C Try.prog 33 fun l => (K_ref24_active m).run _ l some :=
  mkK_known good fit Ψ0_ok (keep := keep) (m := m) (d := 1) fun a => ref24_active_fun m a.1 a.2.1 a.2.2.1
/-! ### signalbench/signalbenchref03.turn -/
def w_ref03_turn (b : ByteArray) : List (RV C) := [dStr.e b]
noncomputable def Q_ref03_turn_3 (m : Nat) : St C → (Exit → St C → Option (List (RV C))) → Option (List (RV C)) := fun σ k => codeK Try.prog Ψ0 (callK Try.prog Ψ0 keep m 0) (keep 49) m (subC body49 [.r, .r, .l, .r, .b, .o]) σ k
noncomputable def KL_ref03_turn_3 (m : Nat) : Exit → St C → Option (List (RV C)) := contK Try.prog Ψ0 (callK Try.prog Ψ0 keep m 0) (keep 49) m body49 [.r, .r, .l, .r, .b, .o] (leaveK Try.prog Try.f49.results.toList (finK Try.prog Try.f49.resultTypes.toList))
noncomputable def L_ref03_turn_l3 (m n : Nat) (s_0 : ByteArray) (i_4 : Int) (b_3 : List Int) : Option (List (RV C)) := iterK (Q_ref03_turn_3 m) (St.norm (keep 49 3)) n ({ T := [.fl (.one (.str s_0)), .dead, .dead, .fl (.one (.sl 0)), .fl (.one (.int .i64 i_4))] ++ List.replicate 16 .dead, F := [[]], H := [.row 5 true b_3] } : St C) (KL_ref03_turn_3 m)
noncomputable def b_ref03_turn_l3 {R : Type} (m : Nat) (ret : ByteArray → Option R) (k_l3 : ByteArray → Int → List Int → Option R) (s_0 : ByteArray) (i_4 : Int) (b_3 : List Int) : Option R :=
 bif decide (i_4 ≥ 0) then
 bif decide (0 ≤ i_4) then
 bif decide (i_4 < (s_0.size : Int)) then
 bif decide ((b_3.length + 1) * 1 ≤ 140737488355328) then
 k_l3 s_0 (IntKind.i64.wrap (i_4 - 1)) (b_3 ++ [byteAt s_0 i_4])
 else
 none
 else
 none
 else
 none
 else
 ret (toBytes b_3)
theorem L_ref03_turn_l3_step (m n : Nat) (s_0 : ByteArray) (i_4 : Int) (b_3 : List Int) : L_ref03_turn_l3 m (n + 1) s_0 i_4 b_3 = b_ref03_turn_l3 m (fun x0 => some (w_ref03_turn x0)) (fun s_0 i_4 b_3 => L_ref03_turn_l3 m n s_0 i_4 b_3) s_0 i_4 b_3 := by kernel_rfl
theorem b_ref03_turn_l3_map (m : Nat) {k_l3 : ByteArray → Int → List Int → Option (List (RV C))} {q_l3 : ByteArray → Int → List Int → Option (ByteArray)} (h_l3 : ∀ s_0 i_4 b_3, k_l3 s_0 i_4 b_3 = (q_l3 s_0 i_4 b_3).map w_ref03_turn) (s_0 : ByteArray) (i_4 : Int) (b_3 : List Int) : b_ref03_turn_l3 m (fun x0 => some (w_ref03_turn x0)) k_l3 s_0 i_4 b_3 = (b_ref03_turn_l3 m (fun x0 => some x0) q_l3 s_0 i_4 b_3).map w_ref03_turn := by
  simp only [b_ref03_turn_l3, cond_map, bind_map, map_none, map_some, h_l3]
noncomputable def ref03_turn_l3 (m : Nat) : Nat → ByteArray → Int → List Int → Option (ByteArray)
  | 0, _, _, _ => none
  | n + 1, s_0, i_4, b_3 => b_ref03_turn_l3 m (fun x0 => some x0) (fun s_0 i_4 b_3 => ref03_turn_l3 m n s_0 i_4 b_3) s_0 i_4 b_3
theorem L_ref03_turn_l3_eq (m : Nat) : ∀ (n : Nat) (s_0 : ByteArray) (i_4 : Int) (b_3 : List Int), L_ref03_turn_l3 m n s_0 i_4 b_3 = (ref03_turn_l3 m n s_0 i_4 b_3).map w_ref03_turn
  | 0, s_0, i_4, b_3 => by kernel_rfl
  | n + 1, s_0, i_4, b_3 => by
    rw [L_ref03_turn_l3_step]
    exact b_ref03_turn_l3_map m (fun s_0 i_4 b_3 => L_ref03_turn_l3_eq m n s_0 i_4 b_3) s_0 i_4 b_3
noncomputable def b_ref03_turn {R : Type} (m : Nat) (ret : ByteArray → Option R) (k_l3 : ByteArray → Int → List Int → Option R) (s_0 : ByteArray) : Option R :=
 k_l3 s_0 (IntKind.i64.wrap ((s_0.size : Int) - 1)) []
theorem ref03_turn_pre (m : Nat) (s_0 : ByteArray) : funK Try.prog Ψ0 keep m 1 49 [dStr.e s_0] = b_ref03_turn m (fun x0 => some (w_ref03_turn x0)) (fun s_0 i_4 b_3 => L_ref03_turn_l3 m m s_0 i_4 b_3) s_0 := by kernel_rfl
theorem b_ref03_turn_map (m : Nat) {k_l3 : ByteArray → Int → List Int → Option (List (RV C))} {q_l3 : ByteArray → Int → List Int → Option (ByteArray)} (h_l3 : ∀ s_0 i_4 b_3, k_l3 s_0 i_4 b_3 = (q_l3 s_0 i_4 b_3).map w_ref03_turn) (s_0 : ByteArray) : b_ref03_turn m (fun x0 => some (w_ref03_turn x0)) k_l3 s_0 = (b_ref03_turn m (fun x0 => some x0) q_l3 s_0).map w_ref03_turn := by
  simp only [b_ref03_turn, cond_map, bind_map, map_none, map_some, h_l3]
noncomputable def ref03_turn (m : Nat) (s_0 : ByteArray) : Option (ByteArray) := b_ref03_turn m (fun x0 => some x0) (fun s_0 i_4 b_3 => ref03_turn_l3 m m s_0 i_4 b_3) s_0
theorem ref03_turn_fun (m : Nat) (s_0 : ByteArray) : funK Try.prog Ψ0 keep m 1 49 [dStr.e s_0] = (ref03_turn m s_0).map w_ref03_turn := by
  rw [ref03_turn_pre]
  exact b_ref03_turn_map m (fun s_0 i_4 b_3 => L_ref03_turn_l3_eq m m s_0 i_4 b_3) s_0
noncomputable def K_ref03_turn (m : Nat) : KnownF C := mkK (dCons dStr dNil) (fun a => ref03_turn m a.1) w_ref03_turn
theorem K_ref03_turn_ok (m : Nat) : KnownAt C Try.prog 49 fun l => (K_ref03_turn m).run _ l some :=
  mkK_known good fit Ψ0_ok (keep := keep) (m := m) (d := 1) fun a => ref03_turn_fun m a.1
/-! ### signalbench/signalbenchref03.FromInt -/
noncomputable def Ψ_ref03_FromInt (m : Nat) : Known C := fun f => match f with
  | 49 => some (K_ref03_turn m)
  | _ => none
theorem Ψ_ref03_FromInt_ok (m : Nat) : KnownOk C Try.prog (Ψ_ref03_FromInt m) := by
  intro f φ h
  unfold Ψ_ref03_FromInt at h
  split at h
  · injection h with h; subst h; exact K_ref03_turn_ok m
  · cases h
def w_ref03_FromInt (b : ByteArray) : List (RV C) := [dStr.e b]
noncomputable def Q_ref03_FromInt_5 (m : Nat) : St C → (Exit → St C → Option (List (RV C))) → Option (List (RV C)) := fun σ k => codeK Try.prog (Ψ_ref03_FromInt m) (callK Try.prog (Ψ_ref03_FromInt m) keep m 0) (keep 47) m (subC body47 [.r, .r, .r, .l, .r, .b, .o]) σ k
noncomputable def KL_ref03_FromInt_5 (m : Nat) : Exit → St C → Option (List (RV C)) := contK Try.prog (Ψ_ref03_FromInt m) (callK Try.prog (Ψ_ref03_FromInt m) keep m 0) (keep 47) m body47 [.r, .r, .r, .l, .r, .b, .o] (leaveK Try.prog Try.f47.results.toList (finK Try.prog Try.f47.resultTypes.toList))
noncomputable def L_ref03_FromInt_l5 (m n : Nat) (n_0 : Int) (width_1 : Int) (msb_2 : Bool) (i_8 : Int) (b_7 : List Int) : Option (List (RV C)) := iterK (Q_ref03_FromInt_5 m) (St.norm (keep 47 5)) n ({ T := [.fl (.one (.int .i64 n_0)), .fl (.one (.int .i64 width_1)), .fl (.one (.bool msb_2)), .dead, .dead, .dead, .dead, .fl (.one (.sl 0)), .fl (.one (.int .i64 i_8))] ++ List.replicate 29 .dead, F := [[]], H := [.row 5 true b_7] } : St C) (KL_ref03_FromInt_5 m)
noncomputable def b_ref03_FromInt_l5 {R : Type} (m : Nat) (ret : ByteArray → Option R) (k_l5 : Int → Int → Bool → Int → List Int → Option R) (n_0 : Int) (width_1 : Int) (msb_2 : Bool) (i_8 : Int) (b_7 : List Int) : Option R :=
 bif decide (i_8 < width_1) then
 bif decide (i_8 < 0) then
 none
 else
 bif IntKind.i64.wrap (((BitVec.ofInt 64 (n_0.fdiv (2 ^ min i_8.toNat 64)) &&& BitVec.ofInt 64 1).toNat : Int)) == 1 then
 bif decide ((b_7.length + 1) * 1 ≤ 140737488355328) then
 k_l5 n_0 width_1 msb_2 (IntKind.i64.wrap (i_8 + 1)) (b_7 ++ [49])
 else
 none
 else
 bif decide ((b_7.length + 1) * 1 ≤ 140737488355328) then
 k_l5 n_0 width_1 msb_2 (IntKind.i64.wrap (i_8 + 1)) (b_7 ++ [48])
 else
 none
 else
 bif msb_2 then
 ((ref03_turn m (toBytes b_7)).bind fun r0 =>
 ret r0)
 else
 ret (toBytes b_7)
theorem L_ref03_FromInt_l5_step (m n : Nat) (n_0 : Int) (width_1 : Int) (msb_2 : Bool) (i_8 : Int) (b_7 : List Int) : L_ref03_FromInt_l5 m (n + 1) n_0 width_1 msb_2 i_8 b_7 = b_ref03_FromInt_l5 m (fun x0 => some (w_ref03_FromInt x0)) (fun n_0 width_1 msb_2 i_8 b_7 => L_ref03_FromInt_l5 m n n_0 width_1 msb_2 i_8 b_7) n_0 width_1 msb_2 i_8 b_7 := by kernel_rfl
theorem b_ref03_FromInt_l5_map (m : Nat) {k_l5 : Int → Int → Bool → Int → List Int → Option (List (RV C))} {q_l5 : Int → Int → Bool → Int → List Int → Option (ByteArray)} (h_l5 : ∀ n_0 width_1 msb_2 i_8 b_7, k_l5 n_0 width_1 msb_2 i_8 b_7 = (q_l5 n_0 width_1 msb_2 i_8 b_7).map w_ref03_FromInt) (n_0 : Int) (width_1 : Int) (msb_2 : Bool) (i_8 : Int) (b_7 : List Int) : b_ref03_FromInt_l5 m (fun x0 => some (w_ref03_FromInt x0)) k_l5 n_0 width_1 msb_2 i_8 b_7 = (b_ref03_FromInt_l5 m (fun x0 => some x0) q_l5 n_0 width_1 msb_2 i_8 b_7).map w_ref03_FromInt := by
  simp only [b_ref03_FromInt_l5, cond_map, bind_map, map_none, map_some, h_l5]
noncomputable def ref03_FromInt_l5 (m : Nat) : Nat → Int → Int → Bool → Int → List Int → Option (ByteArray)
  | 0, _, _, _, _, _ => none
  | n + 1, n_0, width_1, msb_2, i_8, b_7 => b_ref03_FromInt_l5 m (fun x0 => some x0) (fun n_0 width_1 msb_2 i_8 b_7 => ref03_FromInt_l5 m n n_0 width_1 msb_2 i_8 b_7) n_0 width_1 msb_2 i_8 b_7
theorem L_ref03_FromInt_l5_eq (m : Nat) : ∀ (n : Nat) (n_0 : Int) (width_1 : Int) (msb_2 : Bool) (i_8 : Int) (b_7 : List Int), L_ref03_FromInt_l5 m n n_0 width_1 msb_2 i_8 b_7 = (ref03_FromInt_l5 m n n_0 width_1 msb_2 i_8 b_7).map w_ref03_FromInt
  | 0, n_0, width_1, msb_2, i_8, b_7 => by kernel_rfl
  | n + 1, n_0, width_1, msb_2, i_8, b_7 => by
    rw [L_ref03_FromInt_l5_step]
    exact b_ref03_FromInt_l5_map m (fun n_0 width_1 msb_2 i_8 b_7 => L_ref03_FromInt_l5_eq m n n_0 width_1 msb_2 i_8 b_7) n_0 width_1 msb_2 i_8 b_7
noncomputable def b_ref03_FromInt {R : Type} (m : Nat) (ret : ByteArray → Option R) (k_l5 : Int → Int → Bool → Int → List Int → Option R) (n_0 : Int) (width_1 : Int) (msb_2 : Bool) : Option R :=
 bif decide (width_1 < 0) then
 ret (bs [])
 else
 bif decide (width_1 > 62) then
 ret (bs [])
 else
 k_l5 n_0 width_1 msb_2 0 []
theorem ref03_FromInt_pre (m : Nat) (n_0 : Int) (width_1 : Int) (msb_2 : Bool) : funK Try.prog (Ψ_ref03_FromInt m) keep m 1 47 [(dInt .i64).e n_0, (dInt .i64).e width_1, dBool.e msb_2] = b_ref03_FromInt m (fun x0 => some (w_ref03_FromInt x0)) (fun n_0 width_1 msb_2 i_8 b_7 => L_ref03_FromInt_l5 m m n_0 width_1 msb_2 i_8 b_7) n_0 width_1 msb_2 := by kernel_rfl
theorem b_ref03_FromInt_map (m : Nat) {k_l5 : Int → Int → Bool → Int → List Int → Option (List (RV C))} {q_l5 : Int → Int → Bool → Int → List Int → Option (ByteArray)} (h_l5 : ∀ n_0 width_1 msb_2 i_8 b_7, k_l5 n_0 width_1 msb_2 i_8 b_7 = (q_l5 n_0 width_1 msb_2 i_8 b_7).map w_ref03_FromInt) (n_0 : Int) (width_1 : Int) (msb_2 : Bool) : b_ref03_FromInt m (fun x0 => some (w_ref03_FromInt x0)) k_l5 n_0 width_1 msb_2 = (b_ref03_FromInt m (fun x0 => some x0) q_l5 n_0 width_1 msb_2).map w_ref03_FromInt := by
  simp only [b_ref03_FromInt, cond_map, bind_map, map_none, map_some, h_l5]
noncomputable def ref03_FromInt (m : Nat) (n_0 : Int) (width_1 : Int) (msb_2 : Bool) : Option (ByteArray) := b_ref03_FromInt m (fun x0 => some x0) (fun n_0 width_1 msb_2 i_8 b_7 => ref03_FromInt_l5 m m n_0 width_1 msb_2 i_8 b_7) n_0 width_1 msb_2
theorem ref03_FromInt_fun (m : Nat) (n_0 : Int) (width_1 : Int) (msb_2 : Bool) : funK Try.prog (Ψ_ref03_FromInt m) keep m 1 47 [(dInt .i64).e n_0, (dInt .i64).e width_1, dBool.e msb_2] = (ref03_FromInt m n_0 width_1 msb_2).map w_ref03_FromInt := by
  rw [ref03_FromInt_pre]
  exact b_ref03_FromInt_map m (fun n_0 width_1 msb_2 i_8 b_7 => L_ref03_FromInt_l5_eq m m n_0 width_1 msb_2 i_8 b_7) n_0 width_1 msb_2
noncomputable def K_ref03_FromInt (m : Nat) : KnownF C := mkK (dCons (dInt .i64) (dCons (dInt .i64) (dCons dBool dNil))) (fun a => ref03_FromInt m a.1 a.2.1 a.2.2.1) w_ref03_FromInt
theorem K_ref03_FromInt_ok (m : Nat) : KnownAt C Try.prog 47 fun l => (K_ref03_FromInt m).run _ l some :=
  mkK_known good fit (Ψ_ref03_FromInt_ok m) (keep := keep) (m := m) (d := 1) fun a => ref03_FromInt_fun m a.1 a.2.1 a.2.2.1
/-! ### signalbench/signalbenchref03.Valid -/
def w_ref03_Valid (b : Bool) : List (RV C) := [dBool.e b]
noncomputable def Q_ref03_Valid_4 (m : Nat) : St C → (Exit → St C → Option (List (RV C))) → Option (List (RV C)) := fun σ k => codeK Try.prog Ψ0 (callK Try.prog Ψ0 keep m 0) (keep 50) m (subC body50 [.r, .r, .l, .r, .b, .o]) σ k
noncomputable def KL_ref03_Valid_4 (m : Nat) : Exit → St C → Option (List (RV C)) := contK Try.prog Ψ0 (callK Try.prog Ψ0 keep m 0) (keep 50) m body50 [.r, .r, .l, .r, .b, .o] (leaveK Try.prog Try.f50.results.toList (finK Try.prog Try.f50.resultTypes.toList))
noncomputable def L_ref03_Valid_l4 (m n : Nat) (s_0 : ByteArray) (i_3 : Int) : Option (List (RV C)) := iterK (Q_ref03_Valid_4 m) (St.norm (keep 50 4)) n ({ T := [.fl (.one (.str s_0)), .dead, .dead, .fl (.one (.int .i64 i_3))] ++ List.replicate 19 .dead, F := [[]], H := [] } : St C) (KL_ref03_Valid_4 m)
noncomputable def b_ref03_Valid_l4 {R : Type} (m : Nat) (ret : Bool → Option R) (k_l4 : ByteArray → Int → Option R) (s_0 : ByteArray) (i_3 : Int) : Option R :=
 bif decide (i_3 < (s_0.size : Int)) then
 bif decide (0 ≤ i_3) then
 bif decide (i_3 < (s_0.size : Int)) then
 bif byteAt s_0 i_3 != 48 then
 bif decide (0 ≤ i_3) then
 bif decide (i_3 < (s_0.size : Int)) then
 bif byteAt s_0 i_3 != 49 then
 ret false
 else
 k_l4 s_0 (IntKind.i64.wrap (i_3 + 1))
 else
 none
 else
 none
 else
 k_l4 s_0 (IntKind.i64.wrap (i_3 + 1))
 else
 none
 else
 none
 else
 ret true
theorem L_ref03_Valid_l4_step (m n : Nat) (s_0 : ByteArray) (i_3 : Int) : L_ref03_Valid_l4 m (n + 1) s_0 i_3 = b_ref03_Valid_l4 m (fun x0 => some (w_ref03_Valid x0)) (fun s_0 i_3 => L_ref03_Valid_l4 m n s_0 i_3) s_0 i_3 := by kernel_rfl
theorem b_ref03_Valid_l4_map (m : Nat) {k_l4 : ByteArray → Int → Option (List (RV C))} {q_l4 : ByteArray → Int → Option (Bool)} (h_l4 : ∀ s_0 i_3, k_l4 s_0 i_3 = (q_l4 s_0 i_3).map w_ref03_Valid) (s_0 : ByteArray) (i_3 : Int) : b_ref03_Valid_l4 m (fun x0 => some (w_ref03_Valid x0)) k_l4 s_0 i_3 = (b_ref03_Valid_l4 m (fun x0 => some x0) q_l4 s_0 i_3).map w_ref03_Valid := by
  simp only [b_ref03_Valid_l4, cond_map, bind_map, map_none, map_some, h_l4]
noncomputable def ref03_Valid_l4 (m : Nat) : Nat → ByteArray → Int → Option (Bool)
  | 0, _, _ => none
  | n + 1, s_0, i_3 => b_ref03_Valid_l4 m (fun x0 => some x0) (fun s_0 i_3 => ref03_Valid_l4 m n s_0 i_3) s_0 i_3
theorem L_ref03_Valid_l4_eq (m : Nat) : ∀ (n : Nat) (s_0 : ByteArray) (i_3 : Int), L_ref03_Valid_l4 m n s_0 i_3 = (ref03_Valid_l4 m n s_0 i_3).map w_ref03_Valid
  | 0, s_0, i_3 => by kernel_rfl
  | n + 1, s_0, i_3 => by
    rw [L_ref03_Valid_l4_step]
    exact b_ref03_Valid_l4_map m (fun s_0 i_3 => L_ref03_Valid_l4_eq m n s_0 i_3) s_0 i_3
noncomputable def b_ref03_Valid {R : Type} (m : Nat) (ret : Bool → Option R) (k_l4 : ByteArray → Int → Option R) (s_0 : ByteArray) : Option R :=
 bif decide ((s_0.size : Int) > 65536) then
 ret false
 else
 k_l4 s_0 0
theorem ref03_Valid_pre (m : Nat) (s_0 : ByteArray) : funK Try.prog Ψ0 keep m 1 50 [dStr.e s_0] = b_ref03_Valid m (fun x0 => some (w_ref03_Valid x0)) (fun s_0 i_3 => L_ref03_Valid_l4 m m s_0 i_3) s_0 := by kernel_rfl
theorem b_ref03_Valid_map (m : Nat) {k_l4 : ByteArray → Int → Option (List (RV C))} {q_l4 : ByteArray → Int → Option (Bool)} (h_l4 : ∀ s_0 i_3, k_l4 s_0 i_3 = (q_l4 s_0 i_3).map w_ref03_Valid) (s_0 : ByteArray) : b_ref03_Valid m (fun x0 => some (w_ref03_Valid x0)) k_l4 s_0 = (b_ref03_Valid m (fun x0 => some x0) q_l4 s_0).map w_ref03_Valid := by
  simp only [b_ref03_Valid, cond_map, bind_map, map_none, map_some, h_l4]
noncomputable def ref03_Valid (m : Nat) (s_0 : ByteArray) : Option (Bool) := b_ref03_Valid m (fun x0 => some x0) (fun s_0 i_3 => ref03_Valid_l4 m m s_0 i_3) s_0
theorem ref03_Valid_fun (m : Nat) (s_0 : ByteArray) : funK Try.prog Ψ0 keep m 1 50 [dStr.e s_0] = (ref03_Valid m s_0).map w_ref03_Valid := by
  rw [ref03_Valid_pre]
  exact b_ref03_Valid_map m (fun s_0 i_3 => L_ref03_Valid_l4_eq m m s_0 i_3) s_0
noncomputable def K_ref03_Valid (m : Nat) : KnownF C := mkK (dCons dStr dNil) (fun a => ref03_Valid m a.1) w_ref03_Valid
theorem K_ref03_Valid_ok (m : Nat) : KnownAt C Try.prog 50 fun l => (K_ref03_Valid m).run _ l some :=
  mkK_known good fit Ψ0_ok (keep := keep) (m := m) (d := 1) fun a => ref03_Valid_fun m a.1
/-! ### signalbench/signalbenchref03.Int -/
noncomputable def Ψ_ref03_Int (m : Nat) : Known C := fun f => match f with
  | 50 => some (K_ref03_Valid m)
  | 49 => some (K_ref03_turn m)
  | _ => none
theorem Ψ_ref03_Int_ok (m : Nat) : KnownOk C Try.prog (Ψ_ref03_Int m) := by
  intro f φ h
  unfold Ψ_ref03_Int at h
  split at h
  · injection h with h; subst h; exact K_ref03_Valid_ok m
  · injection h with h; subst h; exact K_ref03_turn_ok m
  · cases h
def w_ref03_Int (b : Int × Int) : List (RV C) := [(dInt .i64).e b.1, (dInt .i64).e b.2]
noncomputable def Q_ref03_Int_9 (m : Nat) : St C → (Exit → St C → Option (List (RV C))) → Option (List (RV C)) := fun σ k => codeK Try.prog (Ψ_ref03_Int m) (callK Try.prog (Ψ_ref03_Int m) keep m 0) (keep 48) m (subC body48 [.r, .r, .r, .r, .r, .l, .r, .b, .o]) σ k
noncomputable def KL_ref03_Int_9 (m : Nat) : Exit → St C → Option (List (RV C)) := contK Try.prog (Ψ_ref03_Int m) (callK Try.prog (Ψ_ref03_Int m) keep m 0) (keep 48) m body48 [.r, .r, .r, .r, .r, .l, .r, .b, .o] (leaveK Try.prog Try.f48.results.toList (finK Try.prog Try.f48.resultTypes.toList))
noncomputable def L_ref03_Int_l9 (m n : Nat) (s_0 : ByteArray) (n_6 : Int) (i_7 : Int) : Option (List (RV C)) := iterK (Q_ref03_Int_9 m) (St.norm (keep 48 9)) n ({ T := [.fl (.one (.str s_0)), .dead, .dead, .dead, .dead, .dead, .fl (.one (.int .i64 n_6)), .fl (.one (.int .i64 i_7))] ++ List.replicate 25 .dead, F := [[]], H := [] } : St C) (KL_ref03_Int_9 m)
noncomputable def b_ref03_Int_l9 {R : Type} (m : Nat) (ret : Int → Int → Option R) (k_l9 : ByteArray → Int → Int → Option R) (s_0 : ByteArray) (n_6 : Int) (i_7 : Int) : Option R :=
 bif decide (i_7 < (s_0.size : Int)) then
 bif decide (0 ≤ i_7) then
 bif decide (i_7 < (s_0.size : Int)) then
 k_l9 s_0 (IntKind.i64.wrap (IntKind.i64.wrap (2 * n_6) + IntKind.i64.wrap (IntKind.u8.wrap (byteAt s_0 i_7 - 48)))) (IntKind.i64.wrap (i_7 + 1))
 else
 none
 else
 none
 else
 ret n_6 0
theorem L_ref03_Int_l9_step (m n : Nat) (s_0 : ByteArray) (n_6 : Int) (i_7 : Int) : L_ref03_Int_l9 m (n + 1) s_0 n_6 i_7 = b_ref03_Int_l9 m (fun x0 x1 => some (w_ref03_Int (x0, x1))) (fun s_0 n_6 i_7 => L_ref03_Int_l9 m n s_0 n_6 i_7) s_0 n_6 i_7 := by kernel_rfl
theorem b_ref03_Int_l9_map (m : Nat) {k_l9 : ByteArray → Int → Int → Option (List (RV C))} {q_l9 : ByteArray → Int → Int → Option (Int × Int)} (h_l9 : ∀ s_0 n_6 i_7, k_l9 s_0 n_6 i_7 = (q_l9 s_0 n_6 i_7).map w_ref03_Int) (s_0 : ByteArray) (n_6 : Int) (i_7 : Int) : b_ref03_Int_l9 m (fun x0 x1 => some (w_ref03_Int (x0, x1))) k_l9 s_0 n_6 i_7 = (b_ref03_Int_l9 m (fun x0 x1 => some (x0, x1)) q_l9 s_0 n_6 i_7).map w_ref03_Int := by
  simp only [b_ref03_Int_l9, cond_map, bind_map, map_none, map_some, h_l9]
noncomputable def ref03_Int_l9 (m : Nat) : Nat → ByteArray → Int → Int → Option (Int × Int)
  | 0, _, _, _ => none
  | n + 1, s_0, n_6, i_7 => b_ref03_Int_l9 m (fun x0 x1 => some (x0, x1)) (fun s_0 n_6 i_7 => ref03_Int_l9 m n s_0 n_6 i_7) s_0 n_6 i_7
theorem L_ref03_Int_l9_eq (m : Nat) : ∀ (n : Nat) (s_0 : ByteArray) (n_6 : Int) (i_7 : Int), L_ref03_Int_l9 m n s_0 n_6 i_7 = (ref03_Int_l9 m n s_0 n_6 i_7).map w_ref03_Int
  | 0, s_0, n_6, i_7 => by kernel_rfl
  | n + 1, s_0, n_6, i_7 => by
    rw [L_ref03_Int_l9_step]
    exact b_ref03_Int_l9_map m (fun s_0 n_6 i_7 => L_ref03_Int_l9_eq m n s_0 n_6 i_7) s_0 n_6 i_7
noncomputable def b_ref03_Int {R : Type} (m : Nat) (ret : Int → Int → Option R) (k_l9 : ByteArray → Int → Int → Option R) (s_0 : ByteArray) (msb_1 : Bool) : Option R :=
 (ref03_Valid m s_0).bind fun r0 =>
 bif !r0 then
 ret 0 4
 else
 bif decide ((s_0.size : Int) > 62) then
 ret 0 6
 else
 bif !msb_1 then
 ((ref03_turn m s_0).bind fun r1 =>
 k_l9 r1 0 0)
 else
 k_l9 s_0 0 0
theorem ref03_Int_pre (m : Nat) (s_0 : ByteArray) (msb_1 : Bool) : funK Try.prog (Ψ_ref03_Int m) keep m 1 48 [dStr.e s_0, dBool.e msb_1] = b_ref03_Int m (fun x0 x1 => some (w_ref03_Int (x0, x1))) (fun s_0 n_6 i_7 => L_ref03_Int_l9 m m s_0 n_6 i_7) s_0 msb_1 := by kernel_rfl
theorem b_ref03_Int_map (m : Nat) {k_l9 : ByteArray → Int → Int → Option (List (RV C))} {q_l9 : ByteArray → Int → Int → Option (Int × Int)} (h_l9 : ∀ s_0 n_6 i_7, k_l9 s_0 n_6 i_7 = (q_l9 s_0 n_6 i_7).map w_ref03_Int) (s_0 : ByteArray) (msb_1 : Bool) : b_ref03_Int m (fun x0 x1 => some (w_ref03_Int (x0, x1))) k_l9 s_0 msb_1 = (b_ref03_Int m (fun x0 x1 => some (x0, x1)) q_l9 s_0 msb_1).map w_ref03_Int := by
  simp only [b_ref03_Int, cond_map, bind_map, map_none, map_some, h_l9]
noncomputable def ref03_Int (m : Nat) (s_0 : ByteArray) (msb_1 : Bool) : Option (Int × Int) := b_ref03_Int m (fun x0 x1 => some (x0, x1)) (fun s_0 n_6 i_7 => ref03_Int_l9 m m s_0 n_6 i_7) s_0 msb_1
theorem ref03_Int_fun (m : Nat) (s_0 : ByteArray) (msb_1 : Bool) : funK Try.prog (Ψ_ref03_Int m) keep m 1 48 [dStr.e s_0, dBool.e msb_1] = (ref03_Int m s_0 msb_1).map w_ref03_Int := by
  rw [ref03_Int_pre]
  exact b_ref03_Int_map m (fun s_0 n_6 i_7 => L_ref03_Int_l9_eq m m s_0 n_6 i_7) s_0 msb_1
noncomputable def K_ref03_Int (m : Nat) : KnownF C := mkK (dCons dStr (dCons dBool dNil)) (fun a => ref03_Int m a.1 a.2.1) w_ref03_Int
theorem K_ref03_Int_ok (m : Nat) : KnownAt C Try.prog 48 fun l => (K_ref03_Int m).run _ l some :=
  mkK_known good fit (Ψ_ref03_Int_ok m) (keep := keep) (m := m) (d := 1) fun a => ref03_Int_fun m a.1 a.2.1
/-! ### signalbench/signalbenchref24.order -/
noncomputable def Ψ_ref24_order (m : Nat) : Known C := fun f => match f with
  | 47 => some (K_ref03_FromInt m)
  | 48 => some (K_ref03_Int m)
  | _ => none
theorem Ψ_ref24_order_ok (m : Nat) : KnownOk C Try.prog (Ψ_ref24_order m) := by
  intro f φ h
  unfold Ψ_ref24_order at h
  split at h
  · injection h with h; subst h; exact K_ref03_FromInt_ok m
  · injection h with h; subst h; exact K_ref03_Int_ok m
  · cases h
def w_ref24_order (b : Int) : List (RV C) := [(dInt .u8).e b]
noncomputable def b_ref24_order {R : Type} (m : Nat) (ret : Int → Option R) (c_0 : Spi) (bits_1 : Int) : Option R :=
 (ref03_FromInt m bits_1 c_0.Bits true).bind fun r0 =>
 (ref03_Int m r0 c_0.Msb).bind fun r1 =>
 ret (IntKind.u8.wrap r1.fst)
theorem ref24_order_pre (m : Nat) (c_0 : Spi) (bits_1 : Int) : funK Try.prog (Ψ_ref24_order m) keep m 1 46 [(dS of_Spi cells_Spi of_Spi_ok).e c_0, (dInt .i64).e bits_1] = b_ref24_order m (fun x0 => some (w_ref24_order x0)) c_0 bits_1 := by kernel_rfl
theorem b_ref24_order_map (m : Nat) (c_0 : Spi) (bits_1 : Int) : b_ref24_order m (fun x0 => some (w_ref24_order x0)) c_0 bits_1 = (b_ref24_order m (fun x0 => some x0) c_0 bits_1).map w_ref24_order := by
  simp only [b_ref24_order, cond_map, bind_map, map_none, map_some]
noncomputable def ref24_order (m : Nat) (c_0 : Spi) (bits_1 : Int) : Option (Int) := b_ref24_order m (fun x0 => some x0) c_0 bits_1
theorem ref24_order_fun (m : Nat) (c_0 : Spi) (bits_1 : Int) : funK Try.prog (Ψ_ref24_order m) keep m 1 46 [(dS of_Spi cells_Spi of_Spi_ok).e c_0, (dInt .i64).e bits_1] = (ref24_order m c_0 bits_1).map w_ref24_order := by
  rw [ref24_order_pre]
  exact b_ref24_order_map m c_0 bits_1
noncomputable def K_ref24_order (m : Nat) : KnownF C := mkK (dCons (dS of_Spi cells_Spi of_Spi_ok) (dCons (dInt .i64) dNil)) (fun a => ref24_order m a.1 a.2.1) w_ref24_order
theorem K_ref24_order_ok (m : Nat) : KnownAt C Try.prog 46 fun l => (K_ref24_order m).run _ l some :=
  mkK_known good fit (Ψ_ref24_order_ok m) (keep := keep) (m := m) (d := 1) fun a => ref24_order_fun m a.1 a.2.1
/-! ### signalbench/signalbenchref24.bit -/
noncomputable def Ψ_ref24_bit (m : Nat) : Known C := fun f => match f with
  | 46 => some (K_ref24_order m)
  | _ => none
theorem Ψ_ref24_bit_ok (m : Nat) : KnownOk C Try.prog (Ψ_ref24_bit m) := by
  intro f φ h
  unfold Ψ_ref24_bit at h
  split at h
  · injection h with h; subst h; exact K_ref24_order_ok m
  · cases h
def w_ref24_bit (b : State) : List (RV C) := [(dS of_State cells_State of_State_ok).e b]
noncomputable def b_ref24_bit {R : Type} (m : Nat) (ret : State → Option R) (c_0 : Spi) (s_1 : State) (v_2 : Int) : Option R :=
 bif decide (c_0.Bits < 0) then
 none
 else
 bif (IntKind.i64.wrap (IntKind.i64.wrap (2 * s_1.Acc) + v_2)).fdiv (2 ^ min c_0.Bits.toNat 64) == 0 then
 ret { s_1 with Acc := IntKind.i64.wrap (IntKind.i64.wrap (2 * s_1.Acc) + v_2) }
 else
 bif decide ((s_1.Data.size : Int) < 4096) then
 (bif decide (c_0.Bits < 0) then
 none
 else
 (ref24_order m c_0 (IntKind.i64.wrap (((BitVec.ofInt 64 (IntKind.i64.wrap (IntKind.i64.wrap (2 * s_1.Acc) + v_2)) &&& BitVec.ofInt 64 (IntKind.i64.wrap (IntKind.i64.wrap (1 * 2 ^ min c_0.Bits.toNat 64) - 1))).toNat : Int)))).bind fun r0 =>
 bif decide (((s_1.Data.size + (toBytes [r0]).size) : Int) > 9223372036854775807) then
 none
 else
 ret { s_1 with Acc := 1, Data := s_1.Data ++ toBytes [r0] })
 else
 ret { s_1 with Count := 1, Acc := 1 }
theorem ref24_bit_pre (m : Nat) (c_0 : Spi) (s_1 : State) (v_2 : Int) : funK Try.prog (Ψ_ref24_bit m) keep m 1 34 [(dS of_Spi cells_Spi of_Spi_ok).e c_0, (dS of_State cells_State of_State_ok).e s_1, (dInt .i64).e v_2] = b_ref24_bit m (fun x0 => some (w_ref24_bit x0)) c_0 s_1 v_2 := by kernel_rfl
theorem b_ref24_bit_map (m : Nat) (c_0 : Spi) (s_1 : State) (v_2 : Int) : b_ref24_bit m (fun x0 => some (w_ref24_bit x0)) c_0 s_1 v_2 = (b_ref24_bit m (fun x0 => some x0) c_0 s_1 v_2).map w_ref24_bit := by
  simp only [b_ref24_bit, cond_map, bind_map, map_none, map_some]
noncomputable def ref24_bit (m : Nat) (c_0 : Spi) (s_1 : State) (v_2 : Int) : Option (State) := b_ref24_bit m (fun x0 => some x0) c_0 s_1 v_2
theorem ref24_bit_fun (m : Nat) (c_0 : Spi) (s_1 : State) (v_2 : Int) : funK Try.prog (Ψ_ref24_bit m) keep m 1 34 [(dS of_Spi cells_Spi of_Spi_ok).e c_0, (dS of_State cells_State of_State_ok).e s_1, (dInt .i64).e v_2] = (ref24_bit m c_0 s_1 v_2).map w_ref24_bit := by
  rw [ref24_bit_pre]
  exact b_ref24_bit_map m c_0 s_1 v_2
noncomputable def K_ref24_bit (m : Nat) : KnownF C := mkK (dCons (dS of_Spi cells_Spi of_Spi_ok) (dCons (dS of_State cells_State of_State_ok) (dCons (dInt .i64) dNil))) (fun a => ref24_bit m a.1 a.2.1 a.2.2.1) w_ref24_bit
theorem K_ref24_bit_ok (m : Nat) : KnownAt C Try.prog 34 fun l => (K_ref24_bit m).run _ l some :=
  mkK_known good fit (Ψ_ref24_bit_ok m) (keep := keep) (m := m) (d := 1) fun a => ref24_bit_fun m a.1 a.2.1 a.2.2.1
/-! ### signalbench/signalbenchref24.Step -/
noncomputable def Ψ_ref24_Step (m : Nat) : Known C := fun f => match f with
  | 16 => some (K_ref24_Check m)
  | 32 => some (K_ref24_accepted m)
  | 33 => some (K_ref24_active m)
  | 34 => some (K_ref24_bit m)
  | _ => none
theorem Ψ_ref24_Step_ok (m : Nat) : KnownOk C Try.prog (Ψ_ref24_Step m) := by
  intro f φ h
  unfold Ψ_ref24_Step at h
  split at h
  · injection h with h; subst h; exact K_ref24_Check_ok m
  · injection h with h; subst h; exact K_ref24_accepted_ok m
  · injection h with h; subst h; exact K_ref24_active_ok m
  · injection h with h; subst h; exact K_ref24_bit_ok m
  · cases h
def w_ref24_Step (b : State × List Event) : List (RV C) := [(dS of_State cells_State of_State_ok).e b.1, (dRow 32).e b.2]
noncomputable def b_ref24_Step {R : Type} (m : Nat) (ret : State → List Event → Option R) (c_0 : Spi) (s_1 : State) (e_2 : Event) : Option R :=
 (ref24_Check m c_0).bind fun r0 =>
 bif r0 != 0 then
 ret s_1 []
 else
 (ref24_accepted m s_1 e_2).bind fun r1 =>
 bif !r1 then
 ret s_1 []
 else
 bif s_1.Phase == 0 then
 ret (State.mk 1 e_2.To 0 0 0 0 e_2.Value (bs [])) []
 else
 bif IntKind.i64.wrap (((BitVec.ofInt 64 s_1.Prev &&& BitVec.ofInt 64 4).toNat : Int)) != 0 then
 (bif IntKind.i64.wrap (((BitVec.ofInt 64 e_2.Value &&& BitVec.ofInt 64 4).toNat : Int)) == 0 then
 ret (State.mk 2 e_2.To e_2.From 0 1 s_1.Aux e_2.Value (bs [])) []
 else
 bif s_1.Phase != 2 then
 ret { s_1 with At := e_2.To, Prev := e_2.Value } []
 else
 bif IntKind.i64.wrap (((BitVec.ofInt 64 e_2.Value &&& BitVec.ofInt 64 4).toNat : Int)) != 0 then
 bif s_1.Acc != 1 then
 ret (State.mk 1 e_2.To 0 0 0 0 e_2.Value (bs [])) ([Event.mk 5 s_1.From e_2.From 0 0 s_1.Data 8])
 else
 bif s_1.Count != 0 then
 ret (State.mk 1 e_2.To 0 0 0 0 e_2.Value (bs [])) ([Event.mk 5 s_1.From e_2.From 0 0 s_1.Data 8])
 else
 ret (State.mk 1 e_2.To 0 0 0 0 e_2.Value (bs [])) ([Event.mk 5 s_1.From e_2.From 0 0 s_1.Data 0])
 else
 (ref24_active m c_0 s_1.Prev e_2.Value).bind fun r2 =>
 bif r2 then
 ((ref24_bit m c_0 (State.mk s_1.Phase e_2.To s_1.From s_1.Count s_1.Acc s_1.Aux e_2.Value s_1.Data) (IntKind.i64.wrap (((BitVec.ofInt 64 (e_2.Value.fdiv 2) &&& BitVec.ofInt 64 1).toNat : Int)))).bind fun r3 =>
 ret r3 [])
 else
 ret { s_1 with At := e_2.To, Prev := e_2.Value } [])
 else
 bif s_1.Phase != 2 then
 ret { s_1 with At := e_2.To, Prev := e_2.Value } []
 else
 bif IntKind.i64.wrap (((BitVec.ofInt 64 e_2.Value &&& BitVec.ofInt 64 4).toNat : Int)) != 0 then
 bif s_1.Acc != 1 then
 ret (State.mk 1 e_2.To 0 0 0 0 e_2.Value (bs [])) ([Event.mk 5 s_1.From e_2.From 0 0 s_1.Data 8])
 else
 bif s_1.Count != 0 then
 ret (State.mk 1 e_2.To 0 0 0 0 e_2.Value (bs [])) ([Event.mk 5 s_1.From e_2.From 0 0 s_1.Data 8])
 else
 ret (State.mk 1 e_2.To 0 0 0 0 e_2.Value (bs [])) ([Event.mk 5 s_1.From e_2.From 0 0 s_1.Data 0])
 else
 (ref24_active m c_0 s_1.Prev e_2.Value).bind fun r4 =>
 bif r4 then
 ((ref24_bit m c_0 (State.mk s_1.Phase e_2.To s_1.From s_1.Count s_1.Acc s_1.Aux e_2.Value s_1.Data) (IntKind.i64.wrap (((BitVec.ofInt 64 (e_2.Value.fdiv 2) &&& BitVec.ofInt 64 1).toNat : Int)))).bind fun r5 =>
 ret r5 [])
 else
 ret { s_1 with At := e_2.To, Prev := e_2.Value } []
theorem ref24_Step_pre (m : Nat) (c_0 : Spi) (s_1 : State) (e_2 : Event) : funK Try.prog (Ψ_ref24_Step m) keep m 1 13 [(dS of_Spi cells_Spi of_Spi_ok).e c_0, (dS of_State cells_State of_State_ok).e s_1, (dS of_Event cells_Event of_Event_ok).e e_2] = b_ref24_Step m (fun x0 x1 => some (w_ref24_Step (x0, x1))) c_0 s_1 e_2 := by kernel_rfl
theorem b_ref24_Step_map (m : Nat) (c_0 : Spi) (s_1 : State) (e_2 : Event) : b_ref24_Step m (fun x0 x1 => some (w_ref24_Step (x0, x1))) c_0 s_1 e_2 = (b_ref24_Step m (fun x0 x1 => some (x0, x1)) c_0 s_1 e_2).map w_ref24_Step := by
  simp only [b_ref24_Step, cond_map, bind_map, map_none, map_some]
noncomputable def ref24_Step (m : Nat) (c_0 : Spi) (s_1 : State) (e_2 : Event) : Option (State × List Event) := b_ref24_Step m (fun x0 x1 => some (x0, x1)) c_0 s_1 e_2
theorem ref24_Step_fun (m : Nat) (c_0 : Spi) (s_1 : State) (e_2 : Event) : funK Try.prog (Ψ_ref24_Step m) keep m 1 13 [(dS of_Spi cells_Spi of_Spi_ok).e c_0, (dS of_State cells_State of_State_ok).e s_1, (dS of_Event cells_Event of_Event_ok).e e_2] = (ref24_Step m c_0 s_1 e_2).map w_ref24_Step := by
  rw [ref24_Step_pre]
  exact b_ref24_Step_map m c_0 s_1 e_2
noncomputable def K_ref24_Step (m : Nat) : KnownF C := mkK (dCons (dS of_Spi cells_Spi of_Spi_ok) (dCons (dS of_State cells_State of_State_ok) (dCons (dS of_Event cells_Event of_Event_ok) dNil))) (fun a => ref24_Step m a.1 a.2.1 a.2.2.1) w_ref24_Step
theorem K_ref24_Step_ok (m : Nat) : KnownAt C Try.prog 13 fun l => (K_ref24_Step m).run _ l some :=
  mkK_known good fit (Ψ_ref24_Step_ok m) (keep := keep) (m := m) (d := 1) fun a => ref24_Step_fun m a.1 a.2.1 a.2.2.1
/-! ### signalbench/signalbenchlaw24.same -/
def w_law24_same (b : Bool) : List (RV C) := [dBool.e b]
noncomputable def Q_law24_same_4 (m : Nat) : St C → (Exit → St C → Option (List (RV C))) → Option (List (RV C)) := fun σ k => codeK Try.prog Ψ0 (callK Try.prog Ψ0 keep m 0) (keep 14) m (subC body14 [.r, .r, .l, .r, .b, .o]) σ k
noncomputable def KL_law24_same_4 (m : Nat) : Exit → St C → Option (List (RV C)) := contK Try.prog Ψ0 (callK Try.prog Ψ0 keep m 0) (keep 14) m body14 [.r, .r, .l, .r, .b, .o] (leaveK Try.prog Try.f14.results.toList (finK Try.prog Try.f14.resultTypes.toList))
noncomputable def L_law24_same_l4 (m n : Nat) (i_5 : Int) (a_0 : List Event) (b_1 : List Event) : Option (List (RV C)) := iterK (Q_law24_same_4 m) (St.norm (keep 14 4)) n ({ T := [.fl (.one (.sl 0)), .fl (.one (.sl 1)), .dead, .dead, .dead, .fl (.one (.int .i64 i_5))] ++ List.replicate 20 .dead, F := [[]], H := [.row 32 false a_0, .row 32 false b_1] } : St C) (KL_law24_same_4 m)
noncomputable def b_law24_same_l4 {R : Type} (m : Nat) (ret : Bool → Option R) (k_l4 : Int → List Event → List Event → Option R) (i_5 : Int) (a_0 : List Event) (b_1 : List Event) : Option R :=
 bif decide (i_5 < (a_0.length : Int)) then
 bif decide (0 ≤ i_5) then
 bif decide (i_5 < (a_0.length : Int)) then
 bif decide (0 ≤ i_5) then
 bif decide (i_5 < (b_1.length : Int)) then
 bif !((a_0.getD i_5.toNat dflt_Event).Kind == (b_1.getD i_5.toNat dflt_Event).Kind && ((a_0.getD i_5.toNat dflt_Event).From == (b_1.getD i_5.toNat dflt_Event).From && ((a_0.getD i_5.toNat dflt_Event).To == (b_1.getD i_5.toNat dflt_Event).To && ((a_0.getD i_5.toNat dflt_Event).Value == (b_1.getD i_5.toNat dflt_Event).Value && ((a_0.getD i_5.toNat dflt_Event).Aux == (b_1.getD i_5.toNat dflt_Event).Aux && ((a_0.getD i_5.toNat dflt_Event).Data == (b_1.getD i_5.toNat dflt_Event).Data && ((a_0.getD i_5.toNat dflt_Event).Fault == (b_1.getD i_5.toNat dflt_Event).Fault && true))))))) then
 ret false
 else
 k_l4 (IntKind.i64.wrap (i_5 + 1)) a_0 b_1
 else
 none
 else
 none
 else
 none
 else
 none
 else
 ret true
theorem L_law24_same_l4_step (m n : Nat) (i_5 : Int) (a_0 : List Event) (b_1 : List Event) : L_law24_same_l4 m (n + 1) i_5 a_0 b_1 = b_law24_same_l4 m (fun x0 => some (w_law24_same x0)) (fun i_5 a_0 b_1 => L_law24_same_l4 m n i_5 a_0 b_1) i_5 a_0 b_1 := by kernel_rfl
theorem b_law24_same_l4_map (m : Nat) {k_l4 : Int → List Event → List Event → Option (List (RV C))} {q_l4 : Int → List Event → List Event → Option (Bool)} (h_l4 : ∀ i_5 a_0 b_1, k_l4 i_5 a_0 b_1 = (q_l4 i_5 a_0 b_1).map w_law24_same) (i_5 : Int) (a_0 : List Event) (b_1 : List Event) : b_law24_same_l4 m (fun x0 => some (w_law24_same x0)) k_l4 i_5 a_0 b_1 = (b_law24_same_l4 m (fun x0 => some x0) q_l4 i_5 a_0 b_1).map w_law24_same := by
  simp only [b_law24_same_l4, cond_map, bind_map, map_none, map_some, h_l4]
noncomputable def law24_same_l4 (m : Nat) : Nat → Int → List Event → List Event → Option (Bool)
  | 0, _, _, _ => none
  | n + 1, i_5, a_0, b_1 => b_law24_same_l4 m (fun x0 => some x0) (fun i_5 a_0 b_1 => law24_same_l4 m n i_5 a_0 b_1) i_5 a_0 b_1
theorem L_law24_same_l4_eq (m : Nat) : ∀ (n : Nat) (i_5 : Int) (a_0 : List Event) (b_1 : List Event), L_law24_same_l4 m n i_5 a_0 b_1 = (law24_same_l4 m n i_5 a_0 b_1).map w_law24_same
  | 0, i_5, a_0, b_1 => by kernel_rfl
  | n + 1, i_5, a_0, b_1 => by
    rw [L_law24_same_l4_step]
    exact b_law24_same_l4_map m (fun i_5 a_0 b_1 => L_law24_same_l4_eq m n i_5 a_0 b_1) i_5 a_0 b_1
noncomputable def b_law24_same {R : Type} (m : Nat) (ret : Bool → Option R) (k_l4 : Int → List Event → List Event → Option R) (a_0 : List Event) (b_1 : List Event) : Option R :=
 bif (a_0.length : Int) != (b_1.length : Int) then
 ret false
 else
 k_l4 0 a_0 b_1
theorem law24_same_pre (m : Nat) (a_0 : List Event) (b_1 : List Event) : funK Try.prog Ψ0 keep m 1 14 [(dRow 32).e a_0, (dRow 32).e b_1] = b_law24_same m (fun x0 => some (w_law24_same x0)) (fun i_5 a_0 b_1 => L_law24_same_l4 m m i_5 a_0 b_1) a_0 b_1 := by kernel_rfl
theorem b_law24_same_map (m : Nat) {k_l4 : Int → List Event → List Event → Option (List (RV C))} {q_l4 : Int → List Event → List Event → Option (Bool)} (h_l4 : ∀ i_5 a_0 b_1, k_l4 i_5 a_0 b_1 = (q_l4 i_5 a_0 b_1).map w_law24_same) (a_0 : List Event) (b_1 : List Event) : b_law24_same m (fun x0 => some (w_law24_same x0)) k_l4 a_0 b_1 = (b_law24_same m (fun x0 => some x0) q_l4 a_0 b_1).map w_law24_same := by
  simp only [b_law24_same, cond_map, bind_map, map_none, map_some, h_l4]
noncomputable def law24_same (m : Nat) (a_0 : List Event) (b_1 : List Event) : Option (Bool) := b_law24_same m (fun x0 => some x0) (fun i_5 a_0 b_1 => law24_same_l4 m m i_5 a_0 b_1) a_0 b_1
theorem law24_same_fun (m : Nat) (a_0 : List Event) (b_1 : List Event) : funK Try.prog Ψ0 keep m 1 14 [(dRow 32).e a_0, (dRow 32).e b_1] = (law24_same m a_0 b_1).map w_law24_same := by
  rw [law24_same_pre]
  exact b_law24_same_map m (fun i_5 a_0 b_1 => L_law24_same_l4_eq m m i_5 a_0 b_1) a_0 b_1
noncomputable def K_law24_same (m : Nat) : KnownF C := mkK (dCons (dRow 32) (dCons (dRow 32) dNil)) (fun a => law24_same m a.1 a.2.1) w_law24_same
theorem K_law24_same_ok (m : Nat) : KnownAt C Try.prog 14 fun l => (K_law24_same m).run _ l some :=
  mkK_known good fit Ψ0_ok (keep := keep) (m := m) (d := 1) fun a => law24_same_fun m a.1 a.2.1
/-! ### signalbench/signalbenchref24.End -/
noncomputable def Ψ_ref24_End (m : Nat) : Known C := fun f => match f with
  | 16 => some (K_ref24_Check m)
  | _ => none
theorem Ψ_ref24_End_ok (m : Nat) : KnownOk C Try.prog (Ψ_ref24_End m) := by
  intro f φ h
  unfold Ψ_ref24_End at h
  split at h
  · injection h with h; subst h; exact K_ref24_Check_ok m
  · cases h
def w_ref24_End (b : List Event) : List (RV C) := [(dRow 32).e b]
noncomputable def b_ref24_End {R : Type} (m : Nat) (ret : List Event → Option R) (c_0 : Spi) (s_1 : State) : Option R :=
 (ref24_Check m c_0).bind fun r0 =>
 bif r0 != 0 then
 ret []
 else
 bif s_1.Phase != 2 then
 ret []
 else
 ret ([Event.mk 5 s_1.From s_1.At 0 0 (bs []) 7])
theorem ref24_End_pre (m : Nat) (c_0 : Spi) (s_1 : State) : funK Try.prog (Ψ_ref24_End m) keep m 1 18 [(dS of_Spi cells_Spi of_Spi_ok).e c_0, (dS of_State cells_State of_State_ok).e s_1] = b_ref24_End m (fun x0 => some (w_ref24_End x0)) c_0 s_1 := by kernel_rfl
theorem b_ref24_End_map (m : Nat) (c_0 : Spi) (s_1 : State) : b_ref24_End m (fun x0 => some (w_ref24_End x0)) c_0 s_1 = (b_ref24_End m (fun x0 => some x0) c_0 s_1).map w_ref24_End := by
  simp only [b_ref24_End, cond_map, bind_map, map_none, map_some]
noncomputable def ref24_End (m : Nat) (c_0 : Spi) (s_1 : State) : Option (List Event) := b_ref24_End m (fun x0 => some x0) c_0 s_1
theorem ref24_End_fun (m : Nat) (c_0 : Spi) (s_1 : State) : funK Try.prog (Ψ_ref24_End m) keep m 1 18 [(dS of_Spi cells_Spi of_Spi_ok).e c_0, (dS of_State cells_State of_State_ok).e s_1] = (ref24_End m c_0 s_1).map w_ref24_End := by
  rw [ref24_End_pre]
  exact b_ref24_End_map m c_0 s_1
noncomputable def K_ref24_End (m : Nat) : KnownF C := mkK (dCons (dS of_Spi cells_Spi of_Spi_ok) (dCons (dS of_State cells_State of_State_ok) dNil)) (fun a => ref24_End m a.1 a.2.1) w_ref24_End
theorem K_ref24_End_ok (m : Nat) : KnownAt C Try.prog 18 fun l => (K_ref24_End m).run _ l some :=
  mkK_known good fit (Ψ_ref24_End_ok m) (keep := keep) (m := m) (d := 1) fun a => ref24_End_fun m a.1 a.2.1
/-! ### signalbench/signalbenchref24.Decode -/
noncomputable def Ψ_ref24_Decode (m : Nat) : Known C := fun f => match f with
  | 11 => some (K_ref24_Start m)
  | 13 => some (K_ref24_Step m)
  | 18 => some (K_ref24_End m)
  | _ => none
theorem Ψ_ref24_Decode_ok (m : Nat) : KnownOk C Try.prog (Ψ_ref24_Decode m) := by
  intro f φ h
  unfold Ψ_ref24_Decode at h
  split at h
  · injection h with h; subst h; exact K_ref24_Start_ok m
  · injection h with h; subst h; exact K_ref24_Step_ok m
  · injection h with h; subst h; exact K_ref24_End_ok m
  · cases h
def w_ref24_Decode (b : List Event) : List (RV C) := [(dRow 32).e b]
noncomputable def Q_ref24_Decode_4 (m : Nat) : St C → (Exit → St C → Option (List (RV C))) → Option (List (RV C)) := fun σ k => codeK Try.prog (Ψ_ref24_Decode m) (callK Try.prog (Ψ_ref24_Decode m) keep m 0) (keep 20) m (subC body20 [.r, .r, .r, .l, .r, .b, .o]) σ k
noncomputable def KL_ref24_Decode_4 (m : Nat) : Exit → St C → Option (List (RV C)) := contK Try.prog (Ψ_ref24_Decode m) (callK Try.prog (Ψ_ref24_Decode m) keep m 0) (keep 20) m body20 [.r, .r, .r, .l, .r, .b, .o] (leaveK Try.prog Try.f20.results.toList (finK Try.prog Try.f20.resultTypes.toList))
noncomputable def L_ref24_Decode_l4 (m n : Nat) (i_7 : Int) (l_1 : List Event) (c1 : Spi) (out_5 : List Event) (c3 : State) : Option (List (RV C)) := iterK (Q_ref24_Decode_4 m) (St.norm (keep 20 4)) n ({ T := [.dead, .fl (.one (.sl 0)), .fl (.one (.ptr 1 0)), .dead, .dead, .fl (.one (.sl 2)), .fl (.one (.ptr 3 0)), .fl (.one (.int .i64 i_7))] ++ List.replicate 30 .dead, F := [[]], H := [.row 32 false l_1, .box 23 (cells_Spi c1), .row 32 true out_5, .box 27 (cells_State c3)] } : St C) (KL_ref24_Decode_4 m)
noncomputable def b_ref24_Decode_l4 {R : Type} (m : Nat) (ret : List Event → Option R) (k_l4 : Int → List Event → Spi → List Event → State → Option R) (i_7 : Int) (l_1 : List Event) (c1 : Spi) (out_5 : List Event) (c3 : State) : Option R :=
 bif decide (i_7 < (l_1.length : Int)) then
 (bif decide (0 ≤ i_7) then
 (bif decide (i_7 < (l_1.length : Int)) then
 ((ref24_Step m c1 c3 (l_1.getD i_7.toNat dflt_Event)).bind fun r0 =>
 bif decide ((out_5.length + r0.snd.length) * 64 ≤ 140737488355328) then
 k_l4 (IntKind.i64.wrap (i_7 + 1)) l_1 c1 (out_5 ++ r0.snd) r0.fst
 else
 none)
 else
 none)
 else
 none)
 else
 (ref24_End m c1 c3).bind fun r1 =>
 bif decide ((out_5.length + r1.length) * 64 ≤ 140737488355328) then
 ret (out_5 ++ r1)
 else
 none
theorem L_ref24_Decode_l4_step (m n : Nat) (i_7 : Int) (l_1 : List Event) (c1 : Spi) (out_5 : List Event) (c3 : State) : L_ref24_Decode_l4 m (n + 1) i_7 l_1 c1 out_5 c3 = b_ref24_Decode_l4 m (fun x0 => some (w_ref24_Decode x0)) (fun i_7 l_1 c1 out_5 c3 => L_ref24_Decode_l4 m n i_7 l_1 c1 out_5 c3) i_7 l_1 c1 out_5 c3 := by kernel_rfl
theorem b_ref24_Decode_l4_map (m : Nat) {k_l4 : Int → List Event → Spi → List Event → State → Option (List (RV C))} {q_l4 : Int → List Event → Spi → List Event → State → Option (List Event)} (h_l4 : ∀ i_7 l_1 c1 out_5 c3, k_l4 i_7 l_1 c1 out_5 c3 = (q_l4 i_7 l_1 c1 out_5 c3).map w_ref24_Decode) (i_7 : Int) (l_1 : List Event) (c1 : Spi) (out_5 : List Event) (c3 : State) : b_ref24_Decode_l4 m (fun x0 => some (w_ref24_Decode x0)) k_l4 i_7 l_1 c1 out_5 c3 = (b_ref24_Decode_l4 m (fun x0 => some x0) q_l4 i_7 l_1 c1 out_5 c3).map w_ref24_Decode := by
  simp only [b_ref24_Decode_l4, cond_map, bind_map, map_none, map_some, h_l4]
noncomputable def ref24_Decode_l4 (m : Nat) : Nat → Int → List Event → Spi → List Event → State → Option (List Event)
  | 0, _, _, _, _, _ => none
  | n + 1, i_7, l_1, c1, out_5, c3 => b_ref24_Decode_l4 m (fun x0 => some x0) (fun i_7 l_1 c1 out_5 c3 => ref24_Decode_l4 m n i_7 l_1 c1 out_5 c3) i_7 l_1 c1 out_5 c3
theorem L_ref24_Decode_l4_eq (m : Nat) : ∀ (n : Nat) (i_7 : Int) (l_1 : List Event) (c1 : Spi) (out_5 : List Event) (c3 : State), L_ref24_Decode_l4 m n i_7 l_1 c1 out_5 c3 = (ref24_Decode_l4 m n i_7 l_1 c1 out_5 c3).map w_ref24_Decode
  | 0, i_7, l_1, c1, out_5, c3 => by kernel_rfl
  | n + 1, i_7, l_1, c1, out_5, c3 => by
    rw [L_ref24_Decode_l4_step]
    exact b_ref24_Decode_l4_map m (fun i_7 l_1 c1 out_5 c3 => L_ref24_Decode_l4_eq m n i_7 l_1 c1 out_5 c3) i_7 l_1 c1 out_5 c3
noncomputable def b_ref24_Decode {R : Type} (m : Nat) (ret : List Event → Option R) (k_l4 : Int → List Event → Spi → List Event → State → Option R) (c_0 : Spi) (l_1 : List Event) : Option R :=
 k_l4 0 l_1 c_0 [] (State.mk 0 0 0 0 0 0 0 (bs []))
theorem ref24_Decode_pre (m : Nat) (c_0 : Spi) (l_1 : List Event) : funK Try.prog (Ψ_ref24_Decode m) keep m 1 20 [(dS of_Spi cells_Spi of_Spi_ok).e c_0, (dRow 32).e l_1] = b_ref24_Decode m (fun x0 => some (w_ref24_Decode x0)) (fun i_7 l_1 c1 out_5 c3 => L_ref24_Decode_l4 m m i_7 l_1 c1 out_5 c3) c_0 l_1 := by kernel_rfl
theorem b_ref24_Decode_map (m : Nat) {k_l4 : Int → List Event → Spi → List Event → State → Option (List (RV C))} {q_l4 : Int → List Event → Spi → List Event → State → Option (List Event)} (h_l4 : ∀ i_7 l_1 c1 out_5 c3, k_l4 i_7 l_1 c1 out_5 c3 = (q_l4 i_7 l_1 c1 out_5 c3).map w_ref24_Decode) (c_0 : Spi) (l_1 : List Event) : b_ref24_Decode m (fun x0 => some (w_ref24_Decode x0)) k_l4 c_0 l_1 = (b_ref24_Decode m (fun x0 => some x0) q_l4 c_0 l_1).map w_ref24_Decode := by
  simp only [b_ref24_Decode, cond_map, bind_map, map_none, map_some, h_l4]
noncomputable def ref24_Decode (m : Nat) (c_0 : Spi) (l_1 : List Event) : Option (List Event) := b_ref24_Decode m (fun x0 => some x0) (fun i_7 l_1 c1 out_5 c3 => ref24_Decode_l4 m m i_7 l_1 c1 out_5 c3) c_0 l_1
theorem ref24_Decode_fun (m : Nat) (c_0 : Spi) (l_1 : List Event) : funK Try.prog (Ψ_ref24_Decode m) keep m 1 20 [(dS of_Spi cells_Spi of_Spi_ok).e c_0, (dRow 32).e l_1] = (ref24_Decode m c_0 l_1).map w_ref24_Decode := by
  rw [ref24_Decode_pre]
  exact b_ref24_Decode_map m (fun i_7 l_1 c1 out_5 c3 => L_ref24_Decode_l4_eq m m i_7 l_1 c1 out_5 c3) c_0 l_1
noncomputable def K_ref24_Decode (m : Nat) : KnownF C := mkK (dCons (dS of_Spi cells_Spi of_Spi_ok) (dCons (dRow 32) dNil)) (fun a => ref24_Decode m a.1 a.2.1) w_ref24_Decode
theorem K_ref24_Decode_ok (m : Nat) : KnownAt C Try.prog 20 fun l => (K_ref24_Decode m).run _ l some :=
  mkK_known good fit (Ψ_ref24_Decode_ok m) (keep := keep) (m := m) (d := 1) fun a => ref24_Decode_fun m a.1 a.2.1
/-! ### signalbench/signalbenchlaw24.SpiDecodes -/
noncomputable def Ψ_law24_SpiDecodes (m : Nat) : Known C := fun f => match f with
  | 9 => some (K_law24_lives m)
  | 10 => some (K_spi_Start m)
  | 11 => some (K_ref24_Start m)
  | 12 => some (K_spi_Step m)
  | 13 => some (K_ref24_Step m)
  | 14 => some (K_law24_same m)
  | 15 => some (K_spi_Check m)
  | 16 => some (K_ref24_Check m)
  | 17 => some (K_spi_End m)
  | 18 => some (K_ref24_End m)
  | 19 => some (K_spi_Decode m)
  | 20 => some (K_ref24_Decode m)
  | _ => none
theorem Ψ_law24_SpiDecodes_ok (m : Nat) : KnownOk C Try.prog (Ψ_law24_SpiDecodes m) := by
  intro f φ h
  unfold Ψ_law24_SpiDecodes at h
  split at h
  · injection h with h; subst h; exact K_law24_lives_ok m
  · injection h with h; subst h; exact K_spi_Start_ok m
  · injection h with h; subst h; exact K_ref24_Start_ok m
  · injection h with h; subst h; exact K_spi_Step_ok m
  · injection h with h; subst h; exact K_ref24_Step_ok m
  · injection h with h; subst h; exact K_law24_same_ok m
  · injection h with h; subst h; exact K_spi_Check_ok m
  · injection h with h; subst h; exact K_ref24_Check_ok m
  · injection h with h; subst h; exact K_spi_End_ok m
  · injection h with h; subst h; exact K_ref24_End_ok m
  · injection h with h; subst h; exact K_spi_Decode_ok m
  · injection h with h; subst h; exact K_ref24_Decode_ok m
  · cases h
def w_law24_SpiDecodes (b : Bool) : List (RV C) := [dBool.e b]
noncomputable def Q_law24_SpiDecodes_7 (m : Nat) : St C → (Exit → St C → Option (List (RV C))) → Option (List (RV C)) := fun σ k => codeK Try.prog (Ψ_law24_SpiDecodes m) (callK Try.prog (Ψ_law24_SpiDecodes m) keep m 0) (keep 3) m (subC body3 [.r, .r, .r, .r, .l, .r, .b, .o]) σ k
noncomputable def KL_law24_SpiDecodes_7 (m : Nat) : Exit → St C → Option (List (RV C)) := contK Try.prog (Ψ_law24_SpiDecodes m) (callK Try.prog (Ψ_law24_SpiDecodes m) keep m 0) (keep 3) m body3 [.r, .r, .r, .r, .l, .r, .b, .o] (leaveK Try.prog Try.f3.results.toList (finK Try.prog Try.f3.resultTypes.toList))
noncomputable def L_law24_SpiDecodes_l7 (m n : Nat) (i_7 : Int) (l_1 : List Event) (c1 : Spi) (c2 : State) (c3 : State) : Option (List (RV C)) := iterK (Q_law24_SpiDecodes_7 m) (St.norm (keep 3 7)) n ({ T := [.dead, .fl (.one (.sl 0)), .fl (.one (.ptr 1 0)), .dead, .dead, .fl (.one (.ptr 2 0)), .fl (.one (.ptr 3 0)), .fl (.one (.int .i64 i_7))] ++ List.replicate 68 .dead, F := [[]], H := [.row 32 false l_1, .box 23 (cells_Spi c1), .box 27 (cells_State c2), .box 27 (cells_State c3)] } : St C) (KL_law24_SpiDecodes_7 m)
noncomputable def b_law24_SpiDecodes_l7 {R : Type} (m : Nat) (ret : Bool → Option R) (k_l7 : Int → List Event → Spi → State → State → Option R) (i_7 : Int) (l_1 : List Event) (c1 : Spi) (c2 : State) (c3 : State) : Option R :=
 bif decide (i_7 < (l_1.length : Int)) then
 (bif decide (0 ≤ i_7) then
 (bif decide (i_7 < (l_1.length : Int)) then
 ((spi_Step m c1 c2 (l_1.getD i_7.toNat dflt_Event)).bind fun r0 =>
 bif decide (0 ≤ i_7) then
 (bif decide (i_7 < (l_1.length : Int)) then
 ((ref24_Step m c1 c3 (l_1.getD i_7.toNat dflt_Event)).bind fun r1 =>
 (law24_same m r0.snd r1.snd).bind fun r2 =>
 bif !r2 then
 ret false
 else
 k_l7 (IntKind.i64.wrap (i_7 + 1)) l_1 c1 r0.fst r1.fst)
 else
 none)
 else
 none)
 else
 none)
 else
 none)
 else
 (spi_Check m c1).bind fun r3 =>
 (ref24_Check m c1).bind fun r4 =>
 bif r3 == r4 then
 ((spi_End m c1 c2).bind fun r5 =>
 (ref24_End m c1 c3).bind fun r6 =>
 (law24_same m r5 r6).bind fun r7 =>
 bif r7 then
 ((spi_Decode m c1 l_1).bind fun r8 =>
 (ref24_Decode m c1 l_1).bind fun r9 =>
 (law24_same m r8 r9).bind fun r10 =>
 ret r10)
 else
 ret false)
 else
 ret false
theorem L_law24_SpiDecodes_l7_step (m n : Nat) (i_7 : Int) (l_1 : List Event) (c1 : Spi) (c2 : State) (c3 : State) : L_law24_SpiDecodes_l7 m (n + 1) i_7 l_1 c1 c2 c3 = b_law24_SpiDecodes_l7 m (fun x0 => some (w_law24_SpiDecodes x0)) (fun i_7 l_1 c1 c2 c3 => L_law24_SpiDecodes_l7 m n i_7 l_1 c1 c2 c3) i_7 l_1 c1 c2 c3 := by kernel_rfl
theorem b_law24_SpiDecodes_l7_map (m : Nat) {k_l7 : Int → List Event → Spi → State → State → Option (List (RV C))} {q_l7 : Int → List Event → Spi → State → State → Option (Bool)} (h_l7 : ∀ i_7 l_1 c1 c2 c3, k_l7 i_7 l_1 c1 c2 c3 = (q_l7 i_7 l_1 c1 c2 c3).map w_law24_SpiDecodes) (i_7 : Int) (l_1 : List Event) (c1 : Spi) (c2 : State) (c3 : State) : b_law24_SpiDecodes_l7 m (fun x0 => some (w_law24_SpiDecodes x0)) k_l7 i_7 l_1 c1 c2 c3 = (b_law24_SpiDecodes_l7 m (fun x0 => some x0) q_l7 i_7 l_1 c1 c2 c3).map w_law24_SpiDecodes := by
  simp only [b_law24_SpiDecodes_l7, cond_map, bind_map, map_none, map_some, h_l7]
noncomputable def law24_SpiDecodes_l7 (m : Nat) : Nat → Int → List Event → Spi → State → State → Option (Bool)
  | 0, _, _, _, _, _ => none
  | n + 1, i_7, l_1, c1, c2, c3 => b_law24_SpiDecodes_l7 m (fun x0 => some x0) (fun i_7 l_1 c1 c2 c3 => law24_SpiDecodes_l7 m n i_7 l_1 c1 c2 c3) i_7 l_1 c1 c2 c3
theorem L_law24_SpiDecodes_l7_eq (m : Nat) : ∀ (n : Nat) (i_7 : Int) (l_1 : List Event) (c1 : Spi) (c2 : State) (c3 : State), L_law24_SpiDecodes_l7 m n i_7 l_1 c1 c2 c3 = (law24_SpiDecodes_l7 m n i_7 l_1 c1 c2 c3).map w_law24_SpiDecodes
  | 0, i_7, l_1, c1, c2, c3 => by kernel_rfl
  | n + 1, i_7, l_1, c1, c2, c3 => by
    rw [L_law24_SpiDecodes_l7_step]
    exact b_law24_SpiDecodes_l7_map m (fun i_7 l_1 c1 c2 c3 => L_law24_SpiDecodes_l7_eq m n i_7 l_1 c1 c2 c3) i_7 l_1 c1 c2 c3
noncomputable def b_law24_SpiDecodes {R : Type} (m : Nat) (ret : Bool → Option R) (k_l7 : Int → List Event → Spi → State → State → Option R) (c_0 : Spi) (l_1 : List Event) : Option R :=
 (law24_lives m).bind fun r0 =>
 bif !r0 then
 ret false
 else
 bif decide ((l_1.length : Int) > 3000) then
 ret true
 else
 k_l7 0 l_1 c_0 (State.mk 0 0 0 0 0 0 0 (bs [])) (State.mk 0 0 0 0 0 0 0 (bs []))
theorem law24_SpiDecodes_pre (m : Nat) (c_0 : Spi) (l_1 : List Event) : funK Try.prog (Ψ_law24_SpiDecodes m) keep m 1 3 [(dS of_Spi cells_Spi of_Spi_ok).e c_0, (dRow 32).e l_1] = b_law24_SpiDecodes m (fun x0 => some (w_law24_SpiDecodes x0)) (fun i_7 l_1 c1 c2 c3 => L_law24_SpiDecodes_l7 m m i_7 l_1 c1 c2 c3) c_0 l_1 := by kernel_rfl
theorem b_law24_SpiDecodes_map (m : Nat) {k_l7 : Int → List Event → Spi → State → State → Option (List (RV C))} {q_l7 : Int → List Event → Spi → State → State → Option (Bool)} (h_l7 : ∀ i_7 l_1 c1 c2 c3, k_l7 i_7 l_1 c1 c2 c3 = (q_l7 i_7 l_1 c1 c2 c3).map w_law24_SpiDecodes) (c_0 : Spi) (l_1 : List Event) : b_law24_SpiDecodes m (fun x0 => some (w_law24_SpiDecodes x0)) k_l7 c_0 l_1 = (b_law24_SpiDecodes m (fun x0 => some x0) q_l7 c_0 l_1).map w_law24_SpiDecodes := by
  simp only [b_law24_SpiDecodes, cond_map, bind_map, map_none, map_some, h_l7]
noncomputable def law24_SpiDecodes (m : Nat) (c_0 : Spi) (l_1 : List Event) : Option (Bool) := b_law24_SpiDecodes m (fun x0 => some x0) (fun i_7 l_1 c1 c2 c3 => law24_SpiDecodes_l7 m m i_7 l_1 c1 c2 c3) c_0 l_1
theorem law24_SpiDecodes_fun (m : Nat) (c_0 : Spi) (l_1 : List Event) : funK Try.prog (Ψ_law24_SpiDecodes m) keep m 1 3 [(dS of_Spi cells_Spi of_Spi_ok).e c_0, (dRow 32).e l_1] = (law24_SpiDecodes m c_0 l_1).map w_law24_SpiDecodes := by
  rw [law24_SpiDecodes_pre]
  exact b_law24_SpiDecodes_map m (fun i_7 l_1 c1 c2 c3 => L_law24_SpiDecodes_l7_eq m m i_7 l_1 c1 c2 c3) c_0 l_1
noncomputable def K_law24_SpiDecodes (m : Nat) : KnownF C := mkK (dCons (dS of_Spi cells_Spi of_Spi_ok) (dCons (dRow 32) dNil)) (fun a => law24_SpiDecodes m a.1 a.2.1) w_law24_SpiDecodes
theorem K_law24_SpiDecodes_ok (m : Nat) : KnownAt C Try.prog 3 fun l => (K_law24_SpiDecodes m).run _ l some :=
  mkK_known good fit (Ψ_law24_SpiDecodes_ok m) (keep := keep) (m := m) (d := 1) fun a => law24_SpiDecodes_fun m a.1 a.2.1
/-! ### signalbench/signalbenchlaw24.few -/
def w_law24_few (b : Bool) : List (RV C) := [dBool.e b]
noncomputable def Q_law24_few_5 (m : Nat) : St C → (Exit → St C → Option (List (RV C))) → Option (List (RV C)) := fun σ k => codeK Try.prog Ψ0 (callK Try.prog Ψ0 keep m 0) (keep 21) m (subC body21 [.r, .r, .r, .l, .r, .b, .o]) σ k
noncomputable def KL_law24_few_5 (m : Nat) : Exit → St C → Option (List (RV C)) := contK Try.prog Ψ0 (callK Try.prog Ψ0 keep m 0) (keep 21) m body21 [.r, .r, .r, .l, .r, .b, .o] (leaveK Try.prog Try.f21.results.toList (finK Try.prog Try.f21.resultTypes.toList))
noncomputable def L_law24_few_l5 (m n : Nat) (n_3 : Int) (i_4 : Int) (l_0 : List Item) : Option (List (RV C)) := iterK (Q_law24_few_5 m) (St.norm (keep 21 5)) n ({ T := [.fl (.one (.sl 0)), .dead, .dead, .fl (.one (.int .i64 n_3)), .fl (.one (.int .i64 i_4))] ++ List.replicate 19 .dead, F := [[]], H := [.row 47 false l_0] } : St C) (KL_law24_few_5 m)
noncomputable def b_law24_few_l5 {R : Type} (m : Nat) (ret : Bool → Option R) (k_l5 : Int → Int → List Item → Option R) (n_3 : Int) (i_4 : Int) (l_0 : List Item) : Option R :=
 bif decide (i_4 < (l_0.length : Int)) then
 bif decide (0 ≤ i_4) then
 bif decide (i_4 < (l_0.length : Int)) then
 bif decide (IntKind.i64.wrap (n_3 + ((l_0.getD i_4.toNat dflt_Item).Data.size : Int)) > 20000) then
 ret false
 else
 k_l5 (IntKind.i64.wrap (n_3 + ((l_0.getD i_4.toNat dflt_Item).Data.size : Int))) (IntKind.i64.wrap (i_4 + 1)) l_0
 else
 none
 else
 none
 else
 ret true
theorem L_law24_few_l5_step (m n : Nat) (n_3 : Int) (i_4 : Int) (l_0 : List Item) : L_law24_few_l5 m (n + 1) n_3 i_4 l_0 = b_law24_few_l5 m (fun x0 => some (w_law24_few x0)) (fun n_3 i_4 l_0 => L_law24_few_l5 m n n_3 i_4 l_0) n_3 i_4 l_0 := by kernel_rfl
theorem b_law24_few_l5_map (m : Nat) {k_l5 : Int → Int → List Item → Option (List (RV C))} {q_l5 : Int → Int → List Item → Option (Bool)} (h_l5 : ∀ n_3 i_4 l_0, k_l5 n_3 i_4 l_0 = (q_l5 n_3 i_4 l_0).map w_law24_few) (n_3 : Int) (i_4 : Int) (l_0 : List Item) : b_law24_few_l5 m (fun x0 => some (w_law24_few x0)) k_l5 n_3 i_4 l_0 = (b_law24_few_l5 m (fun x0 => some x0) q_l5 n_3 i_4 l_0).map w_law24_few := by
  simp only [b_law24_few_l5, cond_map, bind_map, map_none, map_some, h_l5]
noncomputable def law24_few_l5 (m : Nat) : Nat → Int → Int → List Item → Option (Bool)
  | 0, _, _, _ => none
  | n + 1, n_3, i_4, l_0 => b_law24_few_l5 m (fun x0 => some x0) (fun n_3 i_4 l_0 => law24_few_l5 m n n_3 i_4 l_0) n_3 i_4 l_0
theorem L_law24_few_l5_eq (m : Nat) : ∀ (n : Nat) (n_3 : Int) (i_4 : Int) (l_0 : List Item), L_law24_few_l5 m n n_3 i_4 l_0 = (law24_few_l5 m n n_3 i_4 l_0).map w_law24_few
  | 0, n_3, i_4, l_0 => by kernel_rfl
  | n + 1, n_3, i_4, l_0 => by
    rw [L_law24_few_l5_step]
    exact b_law24_few_l5_map m (fun n_3 i_4 l_0 => L_law24_few_l5_eq m n n_3 i_4 l_0) n_3 i_4 l_0
noncomputable def b_law24_few {R : Type} (m : Nat) (ret : Bool → Option R) (k_l5 : Int → Int → List Item → Option R) (l_0 : List Item) : Option R :=
 bif decide ((l_0.length : Int) > 1100) then
 ret false
 else
 k_l5 0 0 l_0
theorem law24_few_pre (m : Nat) (l_0 : List Item) : funK Try.prog Ψ0 keep m 1 21 [(dRow 47).e l_0] = b_law24_few m (fun x0 => some (w_law24_few x0)) (fun n_3 i_4 l_0 => L_law24_few_l5 m m n_3 i_4 l_0) l_0 := by kernel_rfl
theorem b_law24_few_map (m : Nat) {k_l5 : Int → Int → List Item → Option (List (RV C))} {q_l5 : Int → Int → List Item → Option (Bool)} (h_l5 : ∀ n_3 i_4 l_0, k_l5 n_3 i_4 l_0 = (q_l5 n_3 i_4 l_0).map w_law24_few) (l_0 : List Item) : b_law24_few m (fun x0 => some (w_law24_few x0)) k_l5 l_0 = (b_law24_few m (fun x0 => some x0) q_l5 l_0).map w_law24_few := by
  simp only [b_law24_few, cond_map, bind_map, map_none, map_some, h_l5]
noncomputable def law24_few (m : Nat) (l_0 : List Item) : Option (Bool) := b_law24_few m (fun x0 => some x0) (fun n_3 i_4 l_0 => law24_few_l5 m m n_3 i_4 l_0) l_0
theorem law24_few_fun (m : Nat) (l_0 : List Item) : funK Try.prog Ψ0 keep m 1 21 [(dRow 47).e l_0] = (law24_few m l_0).map w_law24_few := by
  rw [law24_few_pre]
  exact b_law24_few_map m (fun n_3 i_4 l_0 => L_law24_few_l5_eq m m n_3 i_4 l_0) l_0
noncomputable def K_law24_few (m : Nat) : KnownF C := mkK (dCons (dRow 47) dNil) (fun a => law24_few m a.1) w_law24_few
theorem K_law24_few_ok (m : Nat) : KnownAt C Try.prog 21 fun l => (K_law24_few m).run _ l some :=
  mkK_known good fit Ψ0_ok (keep := keep) (m := m) (d := 1) fun a => law24_few_fun m a.1
/-! ### signalbench/signalbenchlaw24.SpiRoundTrips -/
noncomputable def Ψ_law24_SpiRoundTrips (m : Nat) : Known C := fun f => match f with
  | 9 => some (K_law24_lives m)
  | 21 => some (K_law24_few m)
  | 22 => some (K_spi_Encode m)
  | 23 => some (K_law24_events m)
  | 19 => some (K_spi_Decode m)
  | _ => none
theorem Ψ_law24_SpiRoundTrips_ok (m : Nat) : KnownOk C Try.prog (Ψ_law24_SpiRoundTrips m) := by
  intro f φ h
  unfold Ψ_law24_SpiRoundTrips at h
  split at h
  · injection h with h; subst h; exact K_law24_lives_ok m
  · injection h with h; subst h; exact K_law24_few_ok m
  · injection h with h; subst h; exact K_spi_Encode_ok m
  · injection h with h; subst h; exact K_law24_events_ok m
  · injection h with h; subst h; exact K_spi_Decode_ok m
  · cases h
def w_law24_SpiRoundTrips (b : Bool) : List (RV C) := [dBool.e b]
noncomputable def Q_law24_SpiRoundTrips_16 (m : Nat) : St C → (Exit → St C → Option (List (RV C))) → Option (List (RV C)) := fun σ k => codeK Try.prog (Ψ_law24_SpiRoundTrips m) (callK Try.prog (Ψ_law24_SpiRoundTrips m) keep m 0) (keep 4) m (subC body4 [.r, .r, .r, .r, .r, .r, .r, .r, .r, .r, .l, .r, .b, .o]) σ k
noncomputable def KL_law24_SpiRoundTrips_16 (m : Nat) : Exit → St C → Option (List (RV C)) := contK Try.prog (Ψ_law24_SpiRoundTrips m) (callK Try.prog (Ψ_law24_SpiRoundTrips m) keep m 0) (keep 4) m body4 [.r, .r, .r, .r, .r, .r, .r, .r, .r, .r, .l, .r, .b, .o] (leaveK Try.prog Try.f4.results.toList (finK Try.prog Try.f4.resultTypes.toList))
noncomputable def L_law24_SpiRoundTrips_l16 (m n : Nat) (at_10 : Int) (i_11 : Int) (l_1 : List Item) (c1 : Spi) (out_9 : List Event) : Option (List (RV C)) := iterK (Q_law24_SpiRoundTrips_16 m) (St.norm (keep 4 16)) n ({ T := [.dead, .fl (.one (.sl 0)), .fl (.one (.ptr 1 0)), .dead, .dead, .dead, .dead, .dead, .dead, .fl (.one (.sl 2)), .fl (.one (.int .i64 at_10)), .fl (.one (.int .i64 i_11))] ++ List.replicate 106 .dead, F := [[]], H := [.row 47 false l_1, .box 23 (cells_Spi c1), .row 32 true out_9] } : St C) (KL_law24_SpiRoundTrips_16 m)
noncomputable def b_law24_SpiRoundTrips_l16 {R : Type} (m : Nat) (ret : Bool → Option R) (k_l16 : Int → Int → List Item → Spi → List Event → Option R) (at_10 : Int) (i_11 : Int) (l_1 : List Item) (c1 : Spi) (out_9 : List Event) : Option R :=
 bif decide (i_11 < (l_1.length : Int)) then
 bif decide (0 ≤ i_11) then
 bif decide (i_11 < (l_1.length : Int)) then
 bif decide (0 ≤ i_11) then
 bif decide (i_11 < (l_1.length : Int)) then
 bif decide (0 ≤ i_11) then
 bif decide (i_11 < (l_1.length : Int)) then
 bif (l_1.getD i_11.toNat dflt_Item).Fault == 8 then
 bif ((l_1.getD i_11.toNat dflt_Item).Data.size : Int) == 0 then
 ret false
 else
 bif decide (0 ≤ IntKind.i64.wrap (((l_1.getD i_11.toNat dflt_Item).Data.size : Int) - 1)) then
 bif decide (IntKind.i64.wrap (((l_1.getD i_11.toNat dflt_Item).Data.size : Int) - 1) ≤ ((l_1.getD i_11.toNat dflt_Item).Data.size : Int)) then
 bif decide (0 ≤ IntKind.i64.wrap (((l_1.getD i_11.toNat dflt_Item).Data.size : Int) - 1)) then
 bif decide (0 ≤ i_11) then
 bif decide (i_11 < (l_1.length : Int)) then
 bif decide (0 ≤ i_11) then
 bif decide (i_11 < (out_9.length : Int)) then
 bif decide (0 ≤ i_11) then
 bif decide (i_11 < (l_1.length : Int)) then
 bif !((out_9.getD i_11.toNat dflt_Event).Kind == 5 && ((out_9.getD i_11.toNat dflt_Event).From == IntKind.i64.wrap (IntKind.i64.wrap (at_10 + IntKind.i64.wrap (2 * c1.T)) + (l_1.getD i_11.toNat dflt_Item).Gap) && ((out_9.getD i_11.toNat dflt_Event).To == IntKind.i64.wrap (IntKind.i64.wrap (IntKind.i64.wrap (IntKind.i64.wrap (at_10 + IntKind.i64.wrap (2 * c1.T)) + (l_1.getD i_11.toNat dflt_Item).Gap) + IntKind.i64.wrap (2 * c1.T)) + IntKind.i64.wrap (IntKind.i64.wrap (2 * c1.T) * IntKind.i64.wrap (IntKind.i64.wrap (((l_1.getD i_11.toNat dflt_Item).Data.size : Int) * c1.Bits) - 1))) && ((out_9.getD i_11.toNat dflt_Event).Value == 0 && ((out_9.getD i_11.toNat dflt_Event).Aux == 0 && ((out_9.getD i_11.toNat dflt_Event).Data == (l_1.getD i_11.toNat dflt_Item).Data.extract 0 (IntKind.i64.wrap (((l_1.getD i_11.toNat dflt_Item).Data.size : Int) - 1)).toNat && ((out_9.getD i_11.toNat dflt_Event).Fault == (l_1.getD i_11.toNat dflt_Item).Fault && true))))))) then
 ret false
 else
 k_l16 (IntKind.i64.wrap (IntKind.i64.wrap (IntKind.i64.wrap (IntKind.i64.wrap (at_10 + IntKind.i64.wrap (2 * c1.T)) + (l_1.getD i_11.toNat dflt_Item).Gap) + IntKind.i64.wrap (2 * c1.T)) + IntKind.i64.wrap (IntKind.i64.wrap (2 * c1.T) * IntKind.i64.wrap (IntKind.i64.wrap (((l_1.getD i_11.toNat dflt_Item).Data.size : Int) * c1.Bits) - 1)))) (IntKind.i64.wrap (i_11 + 1)) l_1 c1 out_9
 else
 none
 else
 none
 else
 none
 else
 none
 else
 none
 else
 none
 else
 none
 else
 none
 else
 none
 else
 bif decide (0 ≤ i_11) then
 bif decide (i_11 < (l_1.length : Int)) then
 bif decide (0 ≤ i_11) then
 bif decide (i_11 < (out_9.length : Int)) then
 bif decide (0 ≤ i_11) then
 bif decide (i_11 < (l_1.length : Int)) then
 bif !((out_9.getD i_11.toNat dflt_Event).Kind == 5 && ((out_9.getD i_11.toNat dflt_Event).From == IntKind.i64.wrap (IntKind.i64.wrap (at_10 + IntKind.i64.wrap (2 * c1.T)) + (l_1.getD i_11.toNat dflt_Item).Gap) && ((out_9.getD i_11.toNat dflt_Event).To == IntKind.i64.wrap (IntKind.i64.wrap (IntKind.i64.wrap (IntKind.i64.wrap (at_10 + IntKind.i64.wrap (2 * c1.T)) + (l_1.getD i_11.toNat dflt_Item).Gap) + IntKind.i64.wrap (2 * c1.T)) + IntKind.i64.wrap (IntKind.i64.wrap (2 * c1.T) * IntKind.i64.wrap (((l_1.getD i_11.toNat dflt_Item).Data.size : Int) * c1.Bits))) && ((out_9.getD i_11.toNat dflt_Event).Value == 0 && ((out_9.getD i_11.toNat dflt_Event).Aux == 0 && ((out_9.getD i_11.toNat dflt_Event).Data == (l_1.getD i_11.toNat dflt_Item).Data && ((out_9.getD i_11.toNat dflt_Event).Fault == (l_1.getD i_11.toNat dflt_Item).Fault && true))))))) then
 ret false
 else
 k_l16 (IntKind.i64.wrap (IntKind.i64.wrap (IntKind.i64.wrap (IntKind.i64.wrap (at_10 + IntKind.i64.wrap (2 * c1.T)) + (l_1.getD i_11.toNat dflt_Item).Gap) + IntKind.i64.wrap (2 * c1.T)) + IntKind.i64.wrap (IntKind.i64.wrap (2 * c1.T) * IntKind.i64.wrap (((l_1.getD i_11.toNat dflt_Item).Data.size : Int) * c1.Bits)))) (IntKind.i64.wrap (i_11 + 1)) l_1 c1 out_9
 else
 none
 else
 none
 else
 none
 else
 none
 else
 none
 else
 none
 else
 none
 else
 none
 else
 none
 else
 none
 else
 none
 else
 none
 else
 ret true
theorem L_law24_SpiRoundTrips_l16_step (m n : Nat) (at_10 : Int) (i_11 : Int) (l_1 : List Item) (c1 : Spi) (out_9 : List Event) : L_law24_SpiRoundTrips_l16 m (n + 1) at_10 i_11 l_1 c1 out_9 = b_law24_SpiRoundTrips_l16 m (fun x0 => some (w_law24_SpiRoundTrips x0)) (fun at_10 i_11 l_1 c1 out_9 => L_law24_SpiRoundTrips_l16 m n at_10 i_11 l_1 c1 out_9) at_10 i_11 l_1 c1 out_9 := by kernel_rfl
theorem b_law24_SpiRoundTrips_l16_map (m : Nat) {k_l16 : Int → Int → List Item → Spi → List Event → Option (List (RV C))} {q_l16 : Int → Int → List Item → Spi → List Event → Option (Bool)} (h_l16 : ∀ at_10 i_11 l_1 c1 out_9, k_l16 at_10 i_11 l_1 c1 out_9 = (q_l16 at_10 i_11 l_1 c1 out_9).map w_law24_SpiRoundTrips) (at_10 : Int) (i_11 : Int) (l_1 : List Item) (c1 : Spi) (out_9 : List Event) : b_law24_SpiRoundTrips_l16 m (fun x0 => some (w_law24_SpiRoundTrips x0)) k_l16 at_10 i_11 l_1 c1 out_9 = (b_law24_SpiRoundTrips_l16 m (fun x0 => some x0) q_l16 at_10 i_11 l_1 c1 out_9).map w_law24_SpiRoundTrips := by
  simp only [b_law24_SpiRoundTrips_l16, cond_map, bind_map, map_none, map_some, h_l16]
noncomputable def law24_SpiRoundTrips_l16 (m : Nat) : Nat → Int → Int → List Item → Spi → List Event → Option (Bool)
  | 0, _, _, _, _, _ => none
  | n + 1, at_10, i_11, l_1, c1, out_9 => b_law24_SpiRoundTrips_l16 m (fun x0 => some x0) (fun at_10 i_11 l_1 c1 out_9 => law24_SpiRoundTrips_l16 m n at_10 i_11 l_1 c1 out_9) at_10 i_11 l_1 c1 out_9
theorem L_law24_SpiRoundTrips_l16_eq (m : Nat) : ∀ (n : Nat) (at_10 : Int) (i_11 : Int) (l_1 : List Item) (c1 : Spi) (out_9 : List Event), L_law24_SpiRoundTrips_l16 m n at_10 i_11 l_1 c1 out_9 = (law24_SpiRoundTrips_l16 m n at_10 i_11 l_1 c1 out_9).map w_law24_SpiRoundTrips
  | 0, at_10, i_11, l_1, c1, out_9 => by kernel_rfl
  | n + 1, at_10, i_11, l_1, c1, out_9 => by
    rw [L_law24_SpiRoundTrips_l16_step]
    exact b_law24_SpiRoundTrips_l16_map m (fun at_10 i_11 l_1 c1 out_9 => L_law24_SpiRoundTrips_l16_eq m n at_10 i_11 l_1 c1 out_9) at_10 i_11 l_1 c1 out_9
noncomputable def b_law24_SpiRoundTrips {R : Type} (m : Nat) (ret : Bool → Option R) (k_l16 : Int → Int → List Item → Spi → List Event → Option R) (c_0 : Spi) (l_1 : List Item) : Option R :=
 (law24_lives m).bind fun r0 =>
 bif !r0 then
 ret false
 else
 (law24_few m l_1).bind fun r1 =>
 bif !r1 then
 ret true
 else
 (spi_Encode m c_0 l_1).bind fun r2 =>
 bif r2.snd != 0 then
 ret ((r2.fst.length : Int) == 0)
 else
 (law24_events m r2.fst).bind fun r3 =>
 bif !r3.snd then
 ret false
 else
 (spi_Decode m c_0 r3.fst).bind fun r4 =>
 bif (r4.length : Int) != (l_1.length : Int) then
 ret false
 else
 k_l16 0 0 l_1 c_0 r4
theorem law24_SpiRoundTrips_pre (m : Nat) (c_0 : Spi) (l_1 : List Item) : funK Try.prog (Ψ_law24_SpiRoundTrips m) keep m 1 4 [(dS of_Spi cells_Spi of_Spi_ok).e c_0, (dRow 47).e l_1] = b_law24_SpiRoundTrips m (fun x0 => some (w_law24_SpiRoundTrips x0)) (fun at_10 i_11 l_1 c1 out_9 => L_law24_SpiRoundTrips_l16 m m at_10 i_11 l_1 c1 out_9) c_0 l_1 := by kernel_rfl
theorem b_law24_SpiRoundTrips_map (m : Nat) {k_l16 : Int → Int → List Item → Spi → List Event → Option (List (RV C))} {q_l16 : Int → Int → List Item → Spi → List Event → Option (Bool)} (h_l16 : ∀ at_10 i_11 l_1 c1 out_9, k_l16 at_10 i_11 l_1 c1 out_9 = (q_l16 at_10 i_11 l_1 c1 out_9).map w_law24_SpiRoundTrips) (c_0 : Spi) (l_1 : List Item) : b_law24_SpiRoundTrips m (fun x0 => some (w_law24_SpiRoundTrips x0)) k_l16 c_0 l_1 = (b_law24_SpiRoundTrips m (fun x0 => some x0) q_l16 c_0 l_1).map w_law24_SpiRoundTrips := by
  simp only [b_law24_SpiRoundTrips, cond_map, bind_map, map_none, map_some, h_l16]
noncomputable def law24_SpiRoundTrips (m : Nat) (c_0 : Spi) (l_1 : List Item) : Option (Bool) := b_law24_SpiRoundTrips m (fun x0 => some x0) (fun at_10 i_11 l_1 c1 out_9 => law24_SpiRoundTrips_l16 m m at_10 i_11 l_1 c1 out_9) c_0 l_1
theorem law24_SpiRoundTrips_fun (m : Nat) (c_0 : Spi) (l_1 : List Item) : funK Try.prog (Ψ_law24_SpiRoundTrips m) keep m 1 4 [(dS of_Spi cells_Spi of_Spi_ok).e c_0, (dRow 47).e l_1] = (law24_SpiRoundTrips m c_0 l_1).map w_law24_SpiRoundTrips := by
  rw [law24_SpiRoundTrips_pre]
  exact b_law24_SpiRoundTrips_map m (fun at_10 i_11 l_1 c1 out_9 => L_law24_SpiRoundTrips_l16_eq m m at_10 i_11 l_1 c1 out_9) c_0 l_1
noncomputable def K_law24_SpiRoundTrips (m : Nat) : KnownF C := mkK (dCons (dS of_Spi cells_Spi of_Spi_ok) (dCons (dRow 47) dNil)) (fun a => law24_SpiRoundTrips m a.1 a.2.1) w_law24_SpiRoundTrips
theorem K_law24_SpiRoundTrips_ok (m : Nat) : KnownAt C Try.prog 4 fun l => (K_law24_SpiRoundTrips m).run _ l some :=
  mkK_known good fit (Ψ_law24_SpiRoundTrips_ok m) (keep := keep) (m := m) (d := 1) fun a => law24_SpiRoundTrips_fun m a.1 a.2.1
/-! ### signalbench/signalbenchlaw24.chained -/
def w_law24_chained (b : Bool) : List (RV C) := [dBool.e b]
noncomputable def Q_law24_chained_2 (m : Nat) : St C → (Exit → St C → Option (List (RV C))) → Option (List (RV C)) := fun σ k => codeK Try.prog Ψ0 (callK Try.prog Ψ0 keep m 0) (keep 24) m (subC body24 [.r, .l, .r, .b, .o]) σ k
noncomputable def KL_law24_chained_2 (m : Nat) : Exit → St C → Option (List (RV C)) := contK Try.prog Ψ0 (callK Try.prog Ψ0 keep m 0) (keep 24) m body24 [.r, .l, .r, .b, .o] (leaveK Try.prog Try.f24.results.toList (finK Try.prog Try.f24.resultTypes.toList))
noncomputable def L_law24_chained_l2 (m n : Nat) (i_3 : Int) (l_0 : List Event) : Option (List (RV C)) := iterK (Q_law24_chained_2 m) (St.norm (keep 24 2)) n ({ T := [.fl (.one (.sl 0)), .dead, .dead, .fl (.one (.int .i64 i_3))] ++ List.replicate 71 .dead, F := [[]], H := [.row 32 false l_0] } : St C) (KL_law24_chained_2 m)
noncomputable def b_law24_chained_l2 {R : Type} (m : Nat) (ret : Bool → Option R) (k_l2 : Int → List Event → Option R) (i_3 : Int) (l_0 : List Event) : Option R :=
 bif decide (i_3 < (l_0.length : Int)) then
 bif decide (0 ≤ i_3) then
 bif decide (i_3 < (l_0.length : Int)) then
 bif (l_0.getD i_3.toNat dflt_Event).Kind != 1 then
 ret false
 else
 bif decide ((l_0.getD i_3.toNat dflt_Event).From < 0) then
 ret false
 else
 bif decide ((l_0.getD i_3.toNat dflt_Event).From ≥ (l_0.getD i_3.toNat dflt_Event).To) then
 ret false
 else
 bif decide ((l_0.getD i_3.toNat dflt_Event).To > 1099511627776) then
 ret false
 else
 bif decide ((l_0.getD i_3.toNat dflt_Event).Value < 0) then
 ret false
 else
 bif decide ((l_0.getD i_3.toNat dflt_Event).Value > 7) then
 ret false
 else
 bif (l_0.getD i_3.toNat dflt_Event).Fault != 0 then
 ret false
 else
 bif (l_0.getD i_3.toNat dflt_Event).Aux != 0 then
 ret false
 else
 bif !(l_0.getD i_3.toNat dflt_Event).Data.toList == (bs []).toList then
 ret false
 else
 bif decide (i_3 > 0) then
 bif decide (0 ≤ IntKind.i64.wrap (i_3 - 1)) then
 bif decide (IntKind.i64.wrap (i_3 - 1) < (l_0.length : Int)) then
 bif (l_0.getD i_3.toNat dflt_Event).From != (l_0.getD (IntKind.i64.wrap (i_3 - 1)).toNat dflt_Event).To then
 ret false
 else
 k_l2 (IntKind.i64.wrap (i_3 + 1)) l_0
 else
 none
 else
 none
 else
 k_l2 (IntKind.i64.wrap (i_3 + 1)) l_0
 else
 none
 else
 none
 else
 ret true
theorem L_law24_chained_l2_step (m n : Nat) (i_3 : Int) (l_0 : List Event) : L_law24_chained_l2 m (n + 1) i_3 l_0 = b_law24_chained_l2 m (fun x0 => some (w_law24_chained x0)) (fun i_3 l_0 => L_law24_chained_l2 m n i_3 l_0) i_3 l_0 := by kernel_rfl
theorem b_law24_chained_l2_map (m : Nat) {k_l2 : Int → List Event → Option (List (RV C))} {q_l2 : Int → List Event → Option (Bool)} (h_l2 : ∀ i_3 l_0, k_l2 i_3 l_0 = (q_l2 i_3 l_0).map w_law24_chained) (i_3 : Int) (l_0 : List Event) : b_law24_chained_l2 m (fun x0 => some (w_law24_chained x0)) k_l2 i_3 l_0 = (b_law24_chained_l2 m (fun x0 => some x0) q_l2 i_3 l_0).map w_law24_chained := by
  simp only [b_law24_chained_l2, cond_map, bind_map, map_none, map_some, h_l2]
noncomputable def law24_chained_l2 (m : Nat) : Nat → Int → List Event → Option (Bool)
  | 0, _, _ => none
  | n + 1, i_3, l_0 => b_law24_chained_l2 m (fun x0 => some x0) (fun i_3 l_0 => law24_chained_l2 m n i_3 l_0) i_3 l_0
theorem L_law24_chained_l2_eq (m : Nat) : ∀ (n : Nat) (i_3 : Int) (l_0 : List Event), L_law24_chained_l2 m n i_3 l_0 = (law24_chained_l2 m n i_3 l_0).map w_law24_chained
  | 0, i_3, l_0 => by kernel_rfl
  | n + 1, i_3, l_0 => by
    rw [L_law24_chained_l2_step]
    exact b_law24_chained_l2_map m (fun i_3 l_0 => L_law24_chained_l2_eq m n i_3 l_0) i_3 l_0
noncomputable def b_law24_chained {R : Type} (m : Nat) (ret : Bool → Option R) (k_l2 : Int → List Event → Option R) (l_0 : List Event) : Option R :=
 k_l2 0 l_0
theorem law24_chained_pre (m : Nat) (l_0 : List Event) : funK Try.prog Ψ0 keep m 1 24 [(dRow 32).e l_0] = b_law24_chained m (fun x0 => some (w_law24_chained x0)) (fun i_3 l_0 => L_law24_chained_l2 m m i_3 l_0) l_0 := by kernel_rfl
theorem b_law24_chained_map (m : Nat) {k_l2 : Int → List Event → Option (List (RV C))} {q_l2 : Int → List Event → Option (Bool)} (h_l2 : ∀ i_3 l_0, k_l2 i_3 l_0 = (q_l2 i_3 l_0).map w_law24_chained) (l_0 : List Event) : b_law24_chained m (fun x0 => some (w_law24_chained x0)) k_l2 l_0 = (b_law24_chained m (fun x0 => some x0) q_l2 l_0).map w_law24_chained := by
  simp only [b_law24_chained, cond_map, bind_map, map_none, map_some, h_l2]
noncomputable def law24_chained (m : Nat) (l_0 : List Event) : Option (Bool) := b_law24_chained m (fun x0 => some x0) (fun i_3 l_0 => law24_chained_l2 m m i_3 l_0) l_0
theorem law24_chained_fun (m : Nat) (l_0 : List Event) : funK Try.prog Ψ0 keep m 1 24 [(dRow 32).e l_0] = (law24_chained m l_0).map w_law24_chained := by
  rw [law24_chained_pre]
  exact b_law24_chained_map m (fun i_3 l_0 => L_law24_chained_l2_eq m m i_3 l_0) l_0
noncomputable def K_law24_chained (m : Nat) : KnownF C := mkK (dCons (dRow 32) dNil) (fun a => law24_chained m a.1) w_law24_chained
theorem K_law24_chained_ok (m : Nat) : KnownAt C Try.prog 24 fun l => (K_law24_chained m).run _ l some :=
  mkK_known good fit Ψ0_ok (keep := keep) (m := m) (d := 1) fun a => law24_chained_fun m a.1
/-! ### signalbench/signalbenchlaw24.cutAt -/
def w_law24_cutAt (b : List Event) : List (RV C) := [(dRow 32).e b]
noncomputable def Q_law24_cutAt_3 (m : Nat) : St C → (Exit → St C → Option (List (RV C))) → Option (List (RV C)) := fun σ k => codeK Try.prog Ψ0 (callK Try.prog Ψ0 keep m 0) (keep 25) m (subC body25 [.r, .r, .l, .r, .b, .o]) σ k
noncomputable def KL_law24_cutAt_3 (m : Nat) : Exit → St C → Option (List (RV C)) := contK Try.prog Ψ0 (callK Try.prog Ψ0 keep m 0) (keep 25) m body25 [.r, .r, .l, .r, .b, .o] (leaveK Try.prog Try.f25.results.toList (finK Try.prog Try.f25.resultTypes.toList))
noncomputable def L_law24_cutAt_l3 (m n : Nat) (i_6 : Int) (l_0 : List Event) (cuts_1 : List Int) (out_5 : List Event) : Option (List (RV C)) := iterK (Q_law24_cutAt_3 m) (St.norm (keep 25 3)) n ({ T := [.fl (.one (.sl 0)), .fl (.one (.sl 1)), .dead, .dead, .dead, .fl (.one (.sl 2)), .fl (.one (.int .i64 i_6))] ++ List.replicate 55 .dead, F := [[]], H := [.row 32 false l_0, .row 3 false cuts_1, .row 32 true out_5] } : St C) (KL_law24_cutAt_3 m)
noncomputable def b_law24_cutAt_l3 {R : Type} (m : Nat) (ret : List Event → Option R) (k_l3 : Int → List Event → List Int → List Event → Option R) (i_6 : Int) (l_0 : List Event) (cuts_1 : List Int) (out_5 : List Event) : Option R :=
 bif decide (i_6 < (l_0.length : Int)) then
 bif decide (0 ≤ i_6) then
 bif decide (i_6 < (l_0.length : Int)) then
 bif decide (i_6 < (cuts_1.length : Int)) then
 bif decide (0 ≤ i_6) then
 bif decide (i_6 < (cuts_1.length : Int)) then
 bif decide ((l_0.getD i_6.toNat dflt_Event).From < cuts_1.getD i_6.toNat 0) then
 bif decide (0 ≤ i_6) then
 bif decide (i_6 < (cuts_1.length : Int)) then
 bif decide (cuts_1.getD i_6.toNat 0 < (l_0.getD i_6.toNat dflt_Event).To) then
 bif decide (0 ≤ i_6) then
 bif decide (i_6 < (cuts_1.length : Int)) then
 bif decide (0 ≤ i_6) then
 bif decide (i_6 < (cuts_1.length : Int)) then
 bif decide ((out_5.length + 1) * 64 ≤ 140737488355328) then
 bif decide (((out_5 ++ [Event.mk (l_0.getD i_6.toNat dflt_Event).Kind (l_0.getD i_6.toNat dflt_Event).From (cuts_1.getD i_6.toNat 0) (l_0.getD i_6.toNat dflt_Event).Value (l_0.getD i_6.toNat dflt_Event).Aux (l_0.getD i_6.toNat dflt_Event).Data (l_0.getD i_6.toNat dflt_Event).Fault]).length + 1) * 64 ≤ 140737488355328) then
 k_l3 (IntKind.i64.wrap (i_6 + 1)) l_0 cuts_1 (out_5 ++ [Event.mk (l_0.getD i_6.toNat dflt_Event).Kind (l_0.getD i_6.toNat dflt_Event).From (cuts_1.getD i_6.toNat 0) (l_0.getD i_6.toNat dflt_Event).Value (l_0.getD i_6.toNat dflt_Event).Aux (l_0.getD i_6.toNat dflt_Event).Data (l_0.getD i_6.toNat dflt_Event).Fault] ++ [Event.mk (l_0.getD i_6.toNat dflt_Event).Kind (cuts_1.getD i_6.toNat 0) (l_0.getD i_6.toNat dflt_Event).To (l_0.getD i_6.toNat dflt_Event).Value (l_0.getD i_6.toNat dflt_Event).Aux (l_0.getD i_6.toNat dflt_Event).Data (l_0.getD i_6.toNat dflt_Event).Fault])
 else
 none
 else
 none
 else
 none
 else
 none
 else
 none
 else
 none
 else
 bif decide ((out_5.length + 1) * 64 ≤ 140737488355328) then
 k_l3 (IntKind.i64.wrap (i_6 + 1)) l_0 cuts_1 (out_5 ++ [l_0.getD i_6.toNat dflt_Event])
 else
 none
 else
 none
 else
 none
 else
 bif decide ((out_5.length + 1) * 64 ≤ 140737488355328) then
 k_l3 (IntKind.i64.wrap (i_6 + 1)) l_0 cuts_1 (out_5 ++ [l_0.getD i_6.toNat dflt_Event])
 else
 none
 else
 none
 else
 none
 else
 bif decide ((out_5.length + 1) * 64 ≤ 140737488355328) then
 k_l3 (IntKind.i64.wrap (i_6 + 1)) l_0 cuts_1 (out_5 ++ [l_0.getD i_6.toNat dflt_Event])
 else
 none
 else
 none
 else
 none
 else
 ret out_5
theorem L_law24_cutAt_l3_step (m n : Nat) (i_6 : Int) (l_0 : List Event) (cuts_1 : List Int) (out_5 : List Event) : L_law24_cutAt_l3 m (n + 1) i_6 l_0 cuts_1 out_5 = b_law24_cutAt_l3 m (fun x0 => some (w_law24_cutAt x0)) (fun i_6 l_0 cuts_1 out_5 => L_law24_cutAt_l3 m n i_6 l_0 cuts_1 out_5) i_6 l_0 cuts_1 out_5 := by kernel_rfl
theorem b_law24_cutAt_l3_map (m : Nat) {k_l3 : Int → List Event → List Int → List Event → Option (List (RV C))} {q_l3 : Int → List Event → List Int → List Event → Option (List Event)} (h_l3 : ∀ i_6 l_0 cuts_1 out_5, k_l3 i_6 l_0 cuts_1 out_5 = (q_l3 i_6 l_0 cuts_1 out_5).map w_law24_cutAt) (i_6 : Int) (l_0 : List Event) (cuts_1 : List Int) (out_5 : List Event) : b_law24_cutAt_l3 m (fun x0 => some (w_law24_cutAt x0)) k_l3 i_6 l_0 cuts_1 out_5 = (b_law24_cutAt_l3 m (fun x0 => some x0) q_l3 i_6 l_0 cuts_1 out_5).map w_law24_cutAt := by
  simp only [b_law24_cutAt_l3, cond_map, bind_map, map_none, map_some, h_l3]
noncomputable def law24_cutAt_l3 (m : Nat) : Nat → Int → List Event → List Int → List Event → Option (List Event)
  | 0, _, _, _, _ => none
  | n + 1, i_6, l_0, cuts_1, out_5 => b_law24_cutAt_l3 m (fun x0 => some x0) (fun i_6 l_0 cuts_1 out_5 => law24_cutAt_l3 m n i_6 l_0 cuts_1 out_5) i_6 l_0 cuts_1 out_5
theorem L_law24_cutAt_l3_eq (m : Nat) : ∀ (n : Nat) (i_6 : Int) (l_0 : List Event) (cuts_1 : List Int) (out_5 : List Event), L_law24_cutAt_l3 m n i_6 l_0 cuts_1 out_5 = (law24_cutAt_l3 m n i_6 l_0 cuts_1 out_5).map w_law24_cutAt
  | 0, i_6, l_0, cuts_1, out_5 => by kernel_rfl
  | n + 1, i_6, l_0, cuts_1, out_5 => by
    rw [L_law24_cutAt_l3_step]
    exact b_law24_cutAt_l3_map m (fun i_6 l_0 cuts_1 out_5 => L_law24_cutAt_l3_eq m n i_6 l_0 cuts_1 out_5) i_6 l_0 cuts_1 out_5
noncomputable def b_law24_cutAt {R : Type} (m : Nat) (ret : List Event → Option R) (k_l3 : Int → List Event → List Int → List Event → Option R) (l_0 : List Event) (cuts_1 : List Int) : Option R :=
 k_l3 0 l_0 cuts_1 []
theorem law24_cutAt_pre (m : Nat) (l_0 : List Event) (cuts_1 : List Int) : funK Try.prog Ψ0 keep m 1 25 [(dRow 32).e l_0, (dRow 3).e cuts_1] = b_law24_cutAt m (fun x0 => some (w_law24_cutAt x0)) (fun i_6 l_0 cuts_1 out_5 => L_law24_cutAt_l3 m m i_6 l_0 cuts_1 out_5) l_0 cuts_1 := by kernel_rfl
theorem b_law24_cutAt_map (m : Nat) {k_l3 : Int → List Event → List Int → List Event → Option (List (RV C))} {q_l3 : Int → List Event → List Int → List Event → Option (List Event)} (h_l3 : ∀ i_6 l_0 cuts_1 out_5, k_l3 i_6 l_0 cuts_1 out_5 = (q_l3 i_6 l_0 cuts_1 out_5).map w_law24_cutAt) (l_0 : List Event) (cuts_1 : List Int) : b_law24_cutAt m (fun x0 => some (w_law24_cutAt x0)) k_l3 l_0 cuts_1 = (b_law24_cutAt m (fun x0 => some x0) q_l3 l_0 cuts_1).map w_law24_cutAt := by
  simp only [b_law24_cutAt, cond_map, bind_map, map_none, map_some, h_l3]
noncomputable def law24_cutAt (m : Nat) (l_0 : List Event) (cuts_1 : List Int) : Option (List Event) := b_law24_cutAt m (fun x0 => some x0) (fun i_6 l_0 cuts_1 out_5 => law24_cutAt_l3 m m i_6 l_0 cuts_1 out_5) l_0 cuts_1
theorem law24_cutAt_fun (m : Nat) (l_0 : List Event) (cuts_1 : List Int) : funK Try.prog Ψ0 keep m 1 25 [(dRow 32).e l_0, (dRow 3).e cuts_1] = (law24_cutAt m l_0 cuts_1).map w_law24_cutAt := by
  rw [law24_cutAt_pre]
  exact b_law24_cutAt_map m (fun i_6 l_0 cuts_1 out_5 => L_law24_cutAt_l3_eq m m i_6 l_0 cuts_1 out_5) l_0 cuts_1
noncomputable def K_law24_cutAt (m : Nat) : KnownF C := mkK (dCons (dRow 32) (dCons (dRow 3) dNil)) (fun a => law24_cutAt m a.1 a.2.1) w_law24_cutAt
theorem K_law24_cutAt_ok (m : Nat) : KnownAt C Try.prog 25 fun l => (K_law24_cutAt m).run _ l some :=
  mkK_known good fit Ψ0_ok (keep := keep) (m := m) (d := 1) fun a => law24_cutAt_fun m a.1 a.2.1
/-! ### signalbench/signalbenchlaw24.SpiPieces -/
noncomputable def Ψ_law24_SpiPieces (m : Nat) : Known C := fun f => match f with
  | 9 => some (K_law24_lives m)
  | 24 => some (K_law24_chained m)
  | 19 => some (K_spi_Decode m)
  | 25 => some (K_law24_cutAt m)
  | 14 => some (K_law24_same m)
  | _ => none
theorem Ψ_law24_SpiPieces_ok (m : Nat) : KnownOk C Try.prog (Ψ_law24_SpiPieces m) := by
  intro f φ h
  unfold Ψ_law24_SpiPieces at h
  split at h
  · injection h with h; subst h; exact K_law24_lives_ok m
  · injection h with h; subst h; exact K_law24_chained_ok m
  · injection h with h; subst h; exact K_spi_Decode_ok m
  · injection h with h; subst h; exact K_law24_cutAt_ok m
  · injection h with h; subst h; exact K_law24_same_ok m
  · cases h
def w_law24_SpiPieces (b : Bool) : List (RV C) := [dBool.e b]
noncomputable def b_law24_SpiPieces {R : Type} (m : Nat) (ret : Bool → Option R) (c_0 : Spi) (l_1 : List Event) (cuts_2 : List Int) : Option R :=
 (law24_lives m).bind fun r0 =>
 bif !r0 then
 ret false
 else
 bif decide ((l_1.length : Int) > 3000) then
 ret true
 else
 bif decide ((cuts_2.length : Int) > 3000) then
 ret true
 else
 (law24_chained m l_1).bind fun r1 =>
 bif !r1 then
 ret true
 else
 (spi_Decode m c_0 l_1).bind fun r2 =>
 (law24_cutAt m l_1 cuts_2).bind fun r3 =>
 (spi_Decode m c_0 r3).bind fun r4 =>
 (law24_same m r2 r4).bind fun r5 =>
 ret r5
theorem law24_SpiPieces_pre (m : Nat) (c_0 : Spi) (l_1 : List Event) (cuts_2 : List Int) : funK Try.prog (Ψ_law24_SpiPieces m) keep m 1 5 [(dS of_Spi cells_Spi of_Spi_ok).e c_0, (dRow 32).e l_1, (dRow 3).e cuts_2] = b_law24_SpiPieces m (fun x0 => some (w_law24_SpiPieces x0)) c_0 l_1 cuts_2 := by kernel_rfl
theorem b_law24_SpiPieces_map (m : Nat) (c_0 : Spi) (l_1 : List Event) (cuts_2 : List Int) : b_law24_SpiPieces m (fun x0 => some (w_law24_SpiPieces x0)) c_0 l_1 cuts_2 = (b_law24_SpiPieces m (fun x0 => some x0) c_0 l_1 cuts_2).map w_law24_SpiPieces := by
  simp only [b_law24_SpiPieces, cond_map, bind_map, map_none, map_some]
noncomputable def law24_SpiPieces (m : Nat) (c_0 : Spi) (l_1 : List Event) (cuts_2 : List Int) : Option (Bool) := b_law24_SpiPieces m (fun x0 => some x0) c_0 l_1 cuts_2
theorem law24_SpiPieces_fun (m : Nat) (c_0 : Spi) (l_1 : List Event) (cuts_2 : List Int) : funK Try.prog (Ψ_law24_SpiPieces m) keep m 1 5 [(dS of_Spi cells_Spi of_Spi_ok).e c_0, (dRow 32).e l_1, (dRow 3).e cuts_2] = (law24_SpiPieces m c_0 l_1 cuts_2).map w_law24_SpiPieces := by
  rw [law24_SpiPieces_pre]
  exact b_law24_SpiPieces_map m c_0 l_1 cuts_2
noncomputable def K_law24_SpiPieces (m : Nat) : KnownF C := mkK (dCons (dS of_Spi cells_Spi of_Spi_ok) (dCons (dRow 32) (dCons (dRow 3) dNil))) (fun a => law24_SpiPieces m a.1 a.2.1 a.2.2.1) w_law24_SpiPieces
theorem K_law24_SpiPieces_ok (m : Nat) : KnownAt C Try.prog 5 fun l => (K_law24_SpiPieces m).run _ l some :=
  mkK_known good fit (Ψ_law24_SpiPieces_ok m) (keep := keep) (m := m) (d := 1) fun a => law24_SpiPieces_fun m a.1 a.2.1 a.2.2.1
/-! ### signalbench/signalbenchlaw24.SpiModes -/
noncomputable def Ψ_law24_SpiModes (m : Nat) : Known C := fun f => match f with
  | 9 => some (K_law24_lives m)
  | 19 => some (K_spi_Decode m)
  | 14 => some (K_law24_same m)
  | _ => none
theorem Ψ_law24_SpiModes_ok (m : Nat) : KnownOk C Try.prog (Ψ_law24_SpiModes m) := by
  intro f φ h
  unfold Ψ_law24_SpiModes at h
  split at h
  · injection h with h; subst h; exact K_law24_lives_ok m
  · injection h with h; subst h; exact K_spi_Decode_ok m
  · injection h with h; subst h; exact K_law24_same_ok m
  · cases h
def w_law24_SpiModes (b : Bool) : List (RV C) := [dBool.e b]
noncomputable def Q_law24_SpiModes_7 (m : Nat) : St C → (Exit → St C → Option (List (RV C))) → Option (List (RV C)) := fun σ k => codeK Try.prog (Ψ_law24_SpiModes m) (callK Try.prog (Ψ_law24_SpiModes m) keep m 0) (keep 6) m (subC body6 [.r, .r, .r, .r, .l, .r, .b, .o]) σ k
noncomputable def KL_law24_SpiModes_7 (m : Nat) : Exit → St C → Option (List (RV C)) := contK Try.prog (Ψ_law24_SpiModes m) (callK Try.prog (Ψ_law24_SpiModes m) keep m 0) (keep 6) m body6 [.r, .r, .r, .r, .l, .r, .b, .o] (leaveK Try.prog Try.f6.results.toList (finK Try.prog Try.f6.resultTypes.toList))
noncomputable def L_law24_SpiModes_l7 (m n : Nat) (i_6 : Int) (l_1 : List Event) (c1 : Spi) (m_5 : List Event) : Option (List (RV C)) := iterK (Q_law24_SpiModes_7 m) (St.norm (keep 6 7)) n ({ T := [.dead, .fl (.one (.sl 0)), .fl (.one (.ptr 1 0)), .dead, .dead, .fl (.one (.sl 2)), .fl (.one (.int .i64 i_6))] ++ List.replicate 70 .dead, F := [[]], H := [.row 32 false l_1, .box 23 (cells_Spi c1), .row 32 true m_5] } : St C) (KL_law24_SpiModes_7 m)
noncomputable def b_law24_SpiModes_l7 {R : Type} (m : Nat) (ret : Bool → Option R) (k_l7 : Int → List Event → Spi → List Event → Option R) (i_6 : Int) (l_1 : List Event) (c1 : Spi) (m_5 : List Event) : Option R :=
 bif decide (i_6 < (l_1.length : Int)) then
 bif decide (0 ≤ i_6) then
 bif decide (i_6 < (l_1.length : Int)) then
 bif decide ((l_1.getD i_6.toNat dflt_Event).Value ≥ 0) then
 bif decide ((l_1.getD i_6.toNat dflt_Event).Value ≤ 7) then
 bif decide ((m_5.length + 1) * 64 ≤ 140737488355328) then
 k_l7 (IntKind.i64.wrap (i_6 + 1)) l_1 c1 (m_5 ++ [Event.mk (l_1.getD i_6.toNat dflt_Event).Kind (l_1.getD i_6.toNat dflt_Event).From (l_1.getD i_6.toNat dflt_Event).To (IntKind.i64.wrap (((BitVec.ofInt 64 (l_1.getD i_6.toNat dflt_Event).Value ^^^ BitVec.ofInt 64 1).toNat : Int))) (l_1.getD i_6.toNat dflt_Event).Aux (l_1.getD i_6.toNat dflt_Event).Data (l_1.getD i_6.toNat dflt_Event).Fault])
 else
 none
 else
 bif decide ((m_5.length + 1) * 64 ≤ 140737488355328) then
 k_l7 (IntKind.i64.wrap (i_6 + 1)) l_1 c1 (m_5 ++ [l_1.getD i_6.toNat dflt_Event])
 else
 none
 else
 bif decide ((m_5.length + 1) * 64 ≤ 140737488355328) then
 k_l7 (IntKind.i64.wrap (i_6 + 1)) l_1 c1 (m_5 ++ [l_1.getD i_6.toNat dflt_Event])
 else
 none
 else
 none
 else
 none
 else
 (spi_Decode m (Spi.mk c1.T 0 c1.Bits c1.Msb) l_1).bind fun r0 =>
 (spi_Decode m (Spi.mk c1.T 3 c1.Bits c1.Msb) l_1).bind fun r1 =>
 (law24_same m r0 r1).bind fun r2 =>
 bif r2 then
 ((spi_Decode m (Spi.mk c1.T 1 c1.Bits c1.Msb) l_1).bind fun r3 =>
 (spi_Decode m (Spi.mk c1.T 2 c1.Bits c1.Msb) l_1).bind fun r4 =>
 (law24_same m r3 r4).bind fun r5 =>
 bif r5 then
 ((spi_Decode m (Spi.mk c1.T 1 c1.Bits c1.Msb) m_5).bind fun r6 =>
 (law24_same m r0 r6).bind fun r7 =>
 ret r7)
 else
 ret false)
 else
 ret false
theorem L_law24_SpiModes_l7_step (m n : Nat) (i_6 : Int) (l_1 : List Event) (c1 : Spi) (m_5 : List Event) : L_law24_SpiModes_l7 m (n + 1) i_6 l_1 c1 m_5 = b_law24_SpiModes_l7 m (fun x0 => some (w_law24_SpiModes x0)) (fun i_6 l_1 c1 m_5 => L_law24_SpiModes_l7 m n i_6 l_1 c1 m_5) i_6 l_1 c1 m_5 := by kernel_rfl
theorem b_law24_SpiModes_l7_map (m : Nat) {k_l7 : Int → List Event → Spi → List Event → Option (List (RV C))} {q_l7 : Int → List Event → Spi → List Event → Option (Bool)} (h_l7 : ∀ i_6 l_1 c1 m_5, k_l7 i_6 l_1 c1 m_5 = (q_l7 i_6 l_1 c1 m_5).map w_law24_SpiModes) (i_6 : Int) (l_1 : List Event) (c1 : Spi) (m_5 : List Event) : b_law24_SpiModes_l7 m (fun x0 => some (w_law24_SpiModes x0)) k_l7 i_6 l_1 c1 m_5 = (b_law24_SpiModes_l7 m (fun x0 => some x0) q_l7 i_6 l_1 c1 m_5).map w_law24_SpiModes := by
  simp only [b_law24_SpiModes_l7, cond_map, bind_map, map_none, map_some, h_l7]
noncomputable def law24_SpiModes_l7 (m : Nat) : Nat → Int → List Event → Spi → List Event → Option (Bool)
  | 0, _, _, _, _ => none
  | n + 1, i_6, l_1, c1, m_5 => b_law24_SpiModes_l7 m (fun x0 => some x0) (fun i_6 l_1 c1 m_5 => law24_SpiModes_l7 m n i_6 l_1 c1 m_5) i_6 l_1 c1 m_5
theorem L_law24_SpiModes_l7_eq (m : Nat) : ∀ (n : Nat) (i_6 : Int) (l_1 : List Event) (c1 : Spi) (m_5 : List Event), L_law24_SpiModes_l7 m n i_6 l_1 c1 m_5 = (law24_SpiModes_l7 m n i_6 l_1 c1 m_5).map w_law24_SpiModes
  | 0, i_6, l_1, c1, m_5 => by kernel_rfl
  | n + 1, i_6, l_1, c1, m_5 => by
    rw [L_law24_SpiModes_l7_step]
    exact b_law24_SpiModes_l7_map m (fun i_6 l_1 c1 m_5 => L_law24_SpiModes_l7_eq m n i_6 l_1 c1 m_5) i_6 l_1 c1 m_5
noncomputable def b_law24_SpiModes {R : Type} (m : Nat) (ret : Bool → Option R) (k_l7 : Int → List Event → Spi → List Event → Option R) (c_0 : Spi) (l_1 : List Event) : Option R :=
 (law24_lives m).bind fun r0 =>
 bif !r0 then
 ret false
 else
 bif decide ((l_1.length : Int) > 3000) then
 ret true
 else
 k_l7 0 l_1 c_0 []
theorem law24_SpiModes_pre (m : Nat) (c_0 : Spi) (l_1 : List Event) : funK Try.prog (Ψ_law24_SpiModes m) keep m 1 6 [(dS of_Spi cells_Spi of_Spi_ok).e c_0, (dRow 32).e l_1] = b_law24_SpiModes m (fun x0 => some (w_law24_SpiModes x0)) (fun i_6 l_1 c1 m_5 => L_law24_SpiModes_l7 m m i_6 l_1 c1 m_5) c_0 l_1 := by kernel_rfl
theorem b_law24_SpiModes_map (m : Nat) {k_l7 : Int → List Event → Spi → List Event → Option (List (RV C))} {q_l7 : Int → List Event → Spi → List Event → Option (Bool)} (h_l7 : ∀ i_6 l_1 c1 m_5, k_l7 i_6 l_1 c1 m_5 = (q_l7 i_6 l_1 c1 m_5).map w_law24_SpiModes) (c_0 : Spi) (l_1 : List Event) : b_law24_SpiModes m (fun x0 => some (w_law24_SpiModes x0)) k_l7 c_0 l_1 = (b_law24_SpiModes m (fun x0 => some x0) q_l7 c_0 l_1).map w_law24_SpiModes := by
  simp only [b_law24_SpiModes, cond_map, bind_map, map_none, map_some, h_l7]
noncomputable def law24_SpiModes (m : Nat) (c_0 : Spi) (l_1 : List Event) : Option (Bool) := b_law24_SpiModes m (fun x0 => some x0) (fun i_6 l_1 c1 m_5 => law24_SpiModes_l7 m m i_6 l_1 c1 m_5) c_0 l_1
theorem law24_SpiModes_fun (m : Nat) (c_0 : Spi) (l_1 : List Event) : funK Try.prog (Ψ_law24_SpiModes m) keep m 1 6 [(dS of_Spi cells_Spi of_Spi_ok).e c_0, (dRow 32).e l_1] = (law24_SpiModes m c_0 l_1).map w_law24_SpiModes := by
  rw [law24_SpiModes_pre]
  exact b_law24_SpiModes_map m (fun i_6 l_1 c1 m_5 => L_law24_SpiModes_l7_eq m m i_6 l_1 c1 m_5) c_0 l_1
noncomputable def K_law24_SpiModes (m : Nat) : KnownF C := mkK (dCons (dS of_Spi cells_Spi of_Spi_ok) (dCons (dRow 32) dNil)) (fun a => law24_SpiModes m a.1 a.2.1) w_law24_SpiModes
theorem K_law24_SpiModes_ok (m : Nat) : KnownAt C Try.prog 6 fun l => (K_law24_SpiModes m).run _ l some :=
  mkK_known good fit (Ψ_law24_SpiModes_ok m) (keep := keep) (m := m) (d := 1) fun a => law24_SpiModes_fun m a.1 a.2.1
/-! ### signalbench/signalbenchlaw24.SpiOrder -/
noncomputable def Ψ_law24_SpiOrder (m : Nat) : Known C := fun f => match f with
  | 9 => some (K_law24_lives m)
  | 15 => some (K_spi_Check m)
  | 19 => some (K_spi_Decode m)
  | _ => none
theorem Ψ_law24_SpiOrder_ok (m : Nat) : KnownOk C Try.prog (Ψ_law24_SpiOrder m) := by
  intro f φ h
  unfold Ψ_law24_SpiOrder at h
  split at h
  · injection h with h; subst h; exact K_law24_lives_ok m
  · injection h with h; subst h; exact K_spi_Check_ok m
  · injection h with h; subst h; exact K_spi_Decode_ok m
  · cases h
def w_law24_SpiOrder (b : Bool) : List (RV C) := [dBool.e b]
noncomputable def Q_law24_SpiOrder_11 (m : Nat) : St C → (Exit → St C → Option (List (RV C))) → Option (List (RV C)) := fun σ k => codeK Try.prog (Ψ_law24_SpiOrder m) (callK Try.prog (Ψ_law24_SpiOrder m) keep m 0) (keep 7) m (subC body7 [.r, .r, .r, .r, .r, .r, .r, .l, .r, .b, .o]) σ k
noncomputable def KL_law24_SpiOrder_11 (m : Nat) : Exit → St C → Option (List (RV C)) := contK Try.prog (Ψ_law24_SpiOrder m) (callK Try.prog (Ψ_law24_SpiOrder m) keep m 0) (keep 7) m body7 [.r, .r, .r, .r, .r, .r, .r, .l, .r, .b, .o] (leaveK Try.prog Try.f7.results.toList (finK Try.prog Try.f7.resultTypes.toList))
noncomputable def Q_law24_SpiOrder_16 (m : Nat) : St C → (Exit → St C → Option (List (RV C))) → Option (List (RV C)) := fun σ k => codeK Try.prog (Ψ_law24_SpiOrder m) (callK Try.prog (Ψ_law24_SpiOrder m) keep m 0) (keep 7) m (subC (subC body7 [.r, .r, .r, .r, .r, .r, .r, .l, .r, .b, .o]) [.r, .l, .b, .r, .r, .b, .o]) σ k
noncomputable def KL_law24_SpiOrder_16 (m : Nat) (n11 : Nat) : Exit → St C → Option (List (RV C)) := contK Try.prog (Ψ_law24_SpiOrder m) (callK Try.prog (Ψ_law24_SpiOrder m) keep m 0) (keep 7) m (subC body7 [.r, .r, .r, .r, .r, .r, .r, .l, .r, .b, .o]) [.r, .l, .b, .r, .r, .b, .o] (rndK (Q_law24_SpiOrder_11 m) (St.norm (keep 7 11)) n11 (KL_law24_SpiOrder_11 m))
noncomputable def Q_law24_SpiOrder_20 (m : Nat) : St C → (Exit → St C → Option (List (RV C))) → Option (List (RV C)) := fun σ k => codeK Try.prog (Ψ_law24_SpiOrder m) (callK Try.prog (Ψ_law24_SpiOrder m) keep m 0) (keep 7) m (subC (subC (subC body7 [.r, .r, .r, .r, .r, .r, .r, .l, .r, .b, .o]) [.r, .l, .b, .r, .r, .b, .o]) [.r, .l, .b, .r, .l, .r, .b, .o]) σ k
noncomputable def KL_law24_SpiOrder_20 (m : Nat) (n11 : Nat) (n16 : Nat) : Exit → St C → Option (List (RV C)) := contK Try.prog (Ψ_law24_SpiOrder m) (callK Try.prog (Ψ_law24_SpiOrder m) keep m 0) (keep 7) m (subC (subC body7 [.r, .r, .r, .r, .r, .r, .r, .l, .r, .b, .o]) [.r, .l, .b, .r, .r, .b, .o]) [.r, .l, .b, .r, .l, .r, .b, .o] (rndK (Q_law24_SpiOrder_16 m) (St.norm (keep 7 16)) n16 (KL_law24_SpiOrder_16 m n11))
noncomputable def L_law24_SpiOrder_l11 (m n : Nat) (i_8 : Int) (c0 : Spi) (a_6 : List Event) (b_7 : List Event) : Option (List (RV C)) := iterK (Q_law24_SpiOrder_11 m) (St.norm (keep 7 11)) n ({ T := [.dead, .dead, .fl (.one (.ptr 0 0)), .dead, .dead, .dead, .fl (.one (.sl 1)), .fl (.one (.sl 2)), .fl (.one (.int .i64 i_8))] ++ List.replicate 155 .dead, F := [[]], H := [.box 23 (cells_Spi c0), .row 32 true a_6, .row 32 true b_7] } : St C) (KL_law24_SpiOrder_11 m)
noncomputable def L_law24_SpiOrder_l16 (m n11 n : Nat) (i_8 : Int) (k_9 : Int) (c0 : Spi) (a_6 : List Event) (b_7 : List Event) : Option (List (RV C)) := iterK (Q_law24_SpiOrder_16 m) (St.norm (keep 7 16)) n ({ T := [.dead, .dead, .fl (.one (.ptr 0 0)), .dead, .dead, .dead, .fl (.one (.sl 1)), .fl (.one (.sl 2)), .fl (.one (.int .i64 i_8)), .fl (.one (.int .i64 k_9))] ++ List.replicate 154 .dead, F := [[]], H := [.box 23 (cells_Spi c0), .row 32 true a_6, .row 32 true b_7] } : St C) (KL_law24_SpiOrder_16 m n11)
noncomputable def L_law24_SpiOrder_l20 (m n11 n16 n : Nat) (i_8 : Int) (k_9 : Int) (x_10 : Int) (y_11 : Int) (j_12 : Int) (c0 : Spi) (a_6 : List Event) (b_7 : List Event) : Option (List (RV C)) := iterK (Q_law24_SpiOrder_20 m) (St.norm (keep 7 20)) n ({ T := [.dead, .dead, .fl (.one (.ptr 0 0)), .dead, .dead, .dead, .fl (.one (.sl 1)), .fl (.one (.sl 2)), .fl (.one (.int .i64 i_8)), .fl (.one (.int .i64 k_9)), .fl (.one (.int .i64 x_10)), .fl (.one (.int .i64 y_11)), .fl (.one (.int .i64 j_12))] ++ List.replicate 151 .dead, F := [[]], H := [.box 23 (cells_Spi c0), .row 32 true a_6, .row 32 true b_7] } : St C) (KL_law24_SpiOrder_20 m n11 n16)
noncomputable def b_law24_SpiOrder_l20 {R : Type} (m : Nat) (ret : Bool → Option R) (k_l20 : Int → Int → Int → Int → Int → Spi → List Event → List Event → Option R) (k_l16 : Int → Int → Spi → List Event → List Event → Option R) (i_8 : Int) (k_9 : Int) (x_10 : Int) (y_11 : Int) (j_12 : Int) (c0 : Spi) (a_6 : List Event) (b_7 : List Event) : Option R :=
 bif decide (j_12 < c0.Bits) then
 bif decide (j_12 < 0) then
 none
 else
 bif decide (IntKind.i64.wrap (IntKind.i64.wrap (c0.Bits - 1) - j_12) < 0) then
 none
 else
 bif IntKind.i64.wrap (((BitVec.ofInt 64 (x_10.fdiv (2 ^ min j_12.toNat 64)) &&& BitVec.ofInt 64 1).toNat : Int)) != IntKind.i64.wrap (((BitVec.ofInt 64 (y_11.fdiv (2 ^ min (IntKind.i64.wrap (IntKind.i64.wrap (c0.Bits - 1) - j_12)).toNat 64)) &&& BitVec.ofInt 64 1).toNat : Int)) then
 ret false
 else
 k_l20 i_8 k_9 x_10 y_11 (IntKind.i64.wrap (j_12 + 1)) c0 a_6 b_7
 else
 bif decide (c0.Bits < 0) then
 none
 else
 bif x_10.fdiv (2 ^ min c0.Bits.toNat 64) != 0 then
 ret false
 else
 bif decide (c0.Bits < 0) then
 none
 else
 bif y_11.fdiv (2 ^ min c0.Bits.toNat 64) != 0 then
 ret false
 else
 k_l16 i_8 (IntKind.i64.wrap (k_9 + 1)) c0 a_6 b_7
theorem L_law24_SpiOrder_l20_step (m n11 n16 n : Nat) (i_8 : Int) (k_9 : Int) (x_10 : Int) (y_11 : Int) (j_12 : Int) (c0 : Spi) (a_6 : List Event) (b_7 : List Event) : L_law24_SpiOrder_l20 m n11 n16 (n + 1) i_8 k_9 x_10 y_11 j_12 c0 a_6 b_7 = b_law24_SpiOrder_l20 m (fun x0 => some (w_law24_SpiOrder x0)) (fun i_8 k_9 x_10 y_11 j_12 c0 a_6 b_7 => L_law24_SpiOrder_l20 m n11 n16 n i_8 k_9 x_10 y_11 j_12 c0 a_6 b_7) (fun i_8 k_9 c0 a_6 b_7 => L_law24_SpiOrder_l16 m n11 n16 i_8 k_9 c0 a_6 b_7) i_8 k_9 x_10 y_11 j_12 c0 a_6 b_7 := by kernel_rfl
theorem b_law24_SpiOrder_l20_map (m : Nat) {k_l20 : Int → Int → Int → Int → Int → Spi → List Event → List Event → Option (List (RV C))} {q_l20 : Int → Int → Int → Int → Int → Spi → List Event → List Event → Option (Bool)} (h_l20 : ∀ i_8 k_9 x_10 y_11 j_12 c0 a_6 b_7, k_l20 i_8 k_9 x_10 y_11 j_12 c0 a_6 b_7 = (q_l20 i_8 k_9 x_10 y_11 j_12 c0 a_6 b_7).map w_law24_SpiOrder) {k_l16 : Int → Int → Spi → List Event → List Event → Option (List (RV C))} {q_l16 : Int → Int → Spi → List Event → List Event → Option (Bool)} (h_l16 : ∀ i_8 k_9 c0 a_6 b_7, k_l16 i_8 k_9 c0 a_6 b_7 = (q_l16 i_8 k_9 c0 a_6 b_7).map w_law24_SpiOrder) (i_8 : Int) (k_9 : Int) (x_10 : Int) (y_11 : Int) (j_12 : Int) (c0 : Spi) (a_6 : List Event) (b_7 : List Event) : b_law24_SpiOrder_l20 m (fun x0 => some (w_law24_SpiOrder x0)) k_l20 k_l16 i_8 k_9 x_10 y_11 j_12 c0 a_6 b_7 = (b_law24_SpiOrder_l20 m (fun x0 => some x0) q_l20 q_l16 i_8 k_9 x_10 y_11 j_12 c0 a_6 b_7).map w_law24_SpiOrder := by
  simp only [b_law24_SpiOrder_l20, cond_map, bind_map, map_none, map_some, h_l20, h_l16]
noncomputable def law24_SpiOrder_l20 (m : Nat) (q_l16 : Int → Int → Spi → List Event → List Event → Option (Bool)) : Nat → Int → Int → Int → Int → Int → Spi → List Event → List Event → Option (Bool)
  | 0, _, _, _, _, _, _, _, _ => none
  | n + 1, i_8, k_9, x_10, y_11, j_12, c0, a_6, b_7 => b_law24_SpiOrder_l20 m (fun x0 => some x0) (fun i_8 k_9 x_10 y_11 j_12 c0 a_6 b_7 => law24_SpiOrder_l20 m q_l16 n i_8 k_9 x_10 y_11 j_12 c0 a_6 b_7) q_l16 i_8 k_9 x_10 y_11 j_12 c0 a_6 b_7
theorem L_law24_SpiOrder_l20_eq (m n11 n16 : Nat) (q_l16 : Int → Int → Spi → List Event → List Event → Option (Bool)) (h_l16 : ∀ i_8 k_9 c0 a_6 b_7, L_law24_SpiOrder_l16 m n11 n16 i_8 k_9 c0 a_6 b_7 = (q_l16 i_8 k_9 c0 a_6 b_7).map w_law24_SpiOrder) : ∀ (n : Nat) (i_8 : Int) (k_9 : Int) (x_10 : Int) (y_11 : Int) (j_12 : Int) (c0 : Spi) (a_6 : List Event) (b_7 : List Event), L_law24_SpiOrder_l20 m n11 n16 n i_8 k_9 x_10 y_11 j_12 c0 a_6 b_7 = (law24_SpiOrder_l20 m q_l16 n i_8 k_9 x_10 y_11 j_12 c0 a_6 b_7).map w_law24_SpiOrder
  | 0, i_8, k_9, x_10, y_11, j_12, c0, a_6, b_7 => by kernel_rfl
  | n + 1, i_8, k_9, x_10, y_11, j_12, c0, a_6, b_7 => by
    rw [L_law24_SpiOrder_l20_step]
    exact b_law24_SpiOrder_l20_map m (fun i_8 k_9 x_10 y_11 j_12 c0 a_6 b_7 => L_law24_SpiOrder_l20_eq m n11 n16 q_l16 h_l16 n i_8 k_9 x_10 y_11 j_12 c0 a_6 b_7) h_l16 i_8 k_9 x_10 y_11 j_12 c0 a_6 b_7
noncomputable def b_law24_SpiOrder_l16 {R : Type} (m : Nat) (ret : Bool → Option R) (k_l20 : Int → Int → Int → Int → Int → Spi → List Event → List Event → Option R) (k_l11 : Int → Spi → List Event → List Event → Option R) (i_8 : Int) (k_9 : Int) (c0 : Spi) (a_6 : List Event) (b_7 : List Event) : Option R :=
 bif decide (0 ≤ i_8) then
 bif decide (i_8 < (a_6.length : Int)) then
 bif decide (k_9 < ((a_6.getD i_8.toNat dflt_Event).Data.size : Int)) then
 bif decide (0 ≤ i_8) then
 bif decide (i_8 < (a_6.length : Int)) then
 bif decide (0 ≤ k_9) then
 bif decide (k_9 < ((a_6.getD i_8.toNat dflt_Event).Data.size : Int)) then
 bif decide (0 ≤ i_8) then
 bif decide (i_8 < (b_7.length : Int)) then
 bif decide (0 ≤ k_9) then
 bif decide (k_9 < ((b_7.getD i_8.toNat dflt_Event).Data.size : Int)) then
 k_l20 i_8 k_9 (IntKind.i64.wrap (byteAt (a_6.getD i_8.toNat dflt_Event).Data k_9)) (IntKind.i64.wrap (byteAt (b_7.getD i_8.toNat dflt_Event).Data k_9)) 0 c0 a_6 b_7
 else
 none
 else
 none
 else
 none
 else
 none
 else
 none
 else
 none
 else
 none
 else
 none
 else
 k_l11 (IntKind.i64.wrap (i_8 + 1)) c0 a_6 b_7
 else
 none
 else
 none
theorem L_law24_SpiOrder_l16_step (m n11 n : Nat) (i_8 : Int) (k_9 : Int) (c0 : Spi) (a_6 : List Event) (b_7 : List Event) : L_law24_SpiOrder_l16 m n11 (n + 1) i_8 k_9 c0 a_6 b_7 = b_law24_SpiOrder_l16 m (fun x0 => some (w_law24_SpiOrder x0)) (fun i_8 k_9 x_10 y_11 j_12 c0 a_6 b_7 => L_law24_SpiOrder_l20 m n11 n m i_8 k_9 x_10 y_11 j_12 c0 a_6 b_7) (fun i_8 c0 a_6 b_7 => L_law24_SpiOrder_l11 m n11 i_8 c0 a_6 b_7) i_8 k_9 c0 a_6 b_7 := by kernel_rfl
theorem b_law24_SpiOrder_l16_map (m : Nat) {k_l20 : Int → Int → Int → Int → Int → Spi → List Event → List Event → Option (List (RV C))} {q_l20 : Int → Int → Int → Int → Int → Spi → List Event → List Event → Option (Bool)} (h_l20 : ∀ i_8 k_9 x_10 y_11 j_12 c0 a_6 b_7, k_l20 i_8 k_9 x_10 y_11 j_12 c0 a_6 b_7 = (q_l20 i_8 k_9 x_10 y_11 j_12 c0 a_6 b_7).map w_law24_SpiOrder) {k_l11 : Int → Spi → List Event → List Event → Option (List (RV C))} {q_l11 : Int → Spi → List Event → List Event → Option (Bool)} (h_l11 : ∀ i_8 c0 a_6 b_7, k_l11 i_8 c0 a_6 b_7 = (q_l11 i_8 c0 a_6 b_7).map w_law24_SpiOrder) (i_8 : Int) (k_9 : Int) (c0 : Spi) (a_6 : List Event) (b_7 : List Event) : b_law24_SpiOrder_l16 m (fun x0 => some (w_law24_SpiOrder x0)) k_l20 k_l11 i_8 k_9 c0 a_6 b_7 = (b_law24_SpiOrder_l16 m (fun x0 => some x0) q_l20 q_l11 i_8 k_9 c0 a_6 b_7).map w_law24_SpiOrder := by
  simp only [b_law24_SpiOrder_l16, cond_map, bind_map, map_none, map_some, h_l20, h_l11]
noncomputable def law24_SpiOrder_l16 (m : Nat) (q_l11 : Int → Spi → List Event → List Event → Option (Bool)) : Nat → Int → Int → Spi → List Event → List Event → Option (Bool)
  | 0, _, _, _, _, _ => none
  | n + 1, i_8, k_9, c0, a_6, b_7 => b_law24_SpiOrder_l16 m (fun x0 => some x0) (fun i_8 k_9 x_10 y_11 j_12 c0 a_6 b_7 => law24_SpiOrder_l20 m (fun i_8 k_9 c0 a_6 b_7 => law24_SpiOrder_l16 m q_l11 n i_8 k_9 c0 a_6 b_7) m i_8 k_9 x_10 y_11 j_12 c0 a_6 b_7) q_l11 i_8 k_9 c0 a_6 b_7
theorem L_law24_SpiOrder_l16_eq (m n11 : Nat) (q_l11 : Int → Spi → List Event → List Event → Option (Bool)) (h_l11 : ∀ i_8 c0 a_6 b_7, L_law24_SpiOrder_l11 m n11 i_8 c0 a_6 b_7 = (q_l11 i_8 c0 a_6 b_7).map w_law24_SpiOrder) : ∀ (n : Nat) (i_8 : Int) (k_9 : Int) (c0 : Spi) (a_6 : List Event) (b_7 : List Event), L_law24_SpiOrder_l16 m n11 n i_8 k_9 c0 a_6 b_7 = (law24_SpiOrder_l16 m q_l11 n i_8 k_9 c0 a_6 b_7).map w_law24_SpiOrder
  | 0, i_8, k_9, c0, a_6, b_7 => by kernel_rfl
  | n + 1, i_8, k_9, c0, a_6, b_7 => by
    rw [L_law24_SpiOrder_l16_step]
    exact b_law24_SpiOrder_l16_map m (fun i_8 k_9 x_10 y_11 j_12 c0 a_6 b_7 => L_law24_SpiOrder_l20_eq m n11 n (fun i_8 k_9 c0 a_6 b_7 => law24_SpiOrder_l16 m q_l11 n i_8 k_9 c0 a_6 b_7) (fun i_8 k_9 c0 a_6 b_7 => L_law24_SpiOrder_l16_eq m n11 q_l11 h_l11 n i_8 k_9 c0 a_6 b_7) m i_8 k_9 x_10 y_11 j_12 c0 a_6 b_7) h_l11 i_8 k_9 c0 a_6 b_7
noncomputable def b_law24_SpiOrder_l11 {R : Type} (m : Nat) (ret : Bool → Option R) (k_l16 : Int → Int → Spi → List Event → List Event → Option R) (i_8 : Int) (c0 : Spi) (a_6 : List Event) (b_7 : List Event) : Option R :=
 bif decide (i_8 < (a_6.length : Int)) then
 bif decide (0 ≤ i_8) then
 bif decide (i_8 < (a_6.length : Int)) then
 bif decide (0 ≤ i_8) then
 bif decide (i_8 < (b_7.length : Int)) then
 bif ((a_6.getD i_8.toNat dflt_Event).Data.size : Int) != ((b_7.getD i_8.toNat dflt_Event).Data.size : Int) then
 ret false
 else
 bif decide (0 ≤ i_8) then
 bif decide (i_8 < (a_6.length : Int)) then
 bif decide (0 ≤ i_8) then
 bif decide (i_8 < (b_7.length : Int)) then
 bif (a_6.getD i_8.toNat dflt_Event).From != (b_7.getD i_8.toNat dflt_Event).From then
 ret false
 else
 bif decide (0 ≤ i_8) then
 bif decide (i_8 < (a_6.length : Int)) then
 bif decide (0 ≤ i_8) then
 bif decide (i_8 < (b_7.length : Int)) then
 bif (a_6.getD i_8.toNat dflt_Event).To != (b_7.getD i_8.toNat dflt_Event).To then
 ret false
 else
 bif decide (0 ≤ i_8) then
 bif decide (i_8 < (a_6.length : Int)) then
 bif decide (0 ≤ i_8) then
 bif decide (i_8 < (b_7.length : Int)) then
 bif (a_6.getD i_8.toNat dflt_Event).Fault != (b_7.getD i_8.toNat dflt_Event).Fault then
 ret false
 else
 k_l16 i_8 0 c0 a_6 b_7
 else
 none
 else
 none
 else
 none
 else
 none
 else
 none
 else
 none
 else
 none
 else
 none
 else
 none
 else
 none
 else
 none
 else
 none
 else
 none
 else
 none
 else
 none
 else
 none
 else
 ret true
theorem L_law24_SpiOrder_l11_step (m n : Nat) (i_8 : Int) (c0 : Spi) (a_6 : List Event) (b_7 : List Event) : L_law24_SpiOrder_l11 m (n + 1) i_8 c0 a_6 b_7 = b_law24_SpiOrder_l11 m (fun x0 => some (w_law24_SpiOrder x0)) (fun i_8 k_9 c0 a_6 b_7 => L_law24_SpiOrder_l16 m n m i_8 k_9 c0 a_6 b_7) i_8 c0 a_6 b_7 := by kernel_rfl
theorem b_law24_SpiOrder_l11_map (m : Nat) {k_l16 : Int → Int → Spi → List Event → List Event → Option (List (RV C))} {q_l16 : Int → Int → Spi → List Event → List Event → Option (Bool)} (h_l16 : ∀ i_8 k_9 c0 a_6 b_7, k_l16 i_8 k_9 c0 a_6 b_7 = (q_l16 i_8 k_9 c0 a_6 b_7).map w_law24_SpiOrder) (i_8 : Int) (c0 : Spi) (a_6 : List Event) (b_7 : List Event) : b_law24_SpiOrder_l11 m (fun x0 => some (w_law24_SpiOrder x0)) k_l16 i_8 c0 a_6 b_7 = (b_law24_SpiOrder_l11 m (fun x0 => some x0) q_l16 i_8 c0 a_6 b_7).map w_law24_SpiOrder := by
  simp only [b_law24_SpiOrder_l11, cond_map, bind_map, map_none, map_some, h_l16]
noncomputable def law24_SpiOrder_l11 (m : Nat) : Nat → Int → Spi → List Event → List Event → Option (Bool)
  | 0, _, _, _, _ => none
  | n + 1, i_8, c0, a_6, b_7 => b_law24_SpiOrder_l11 m (fun x0 => some x0) (fun i_8 k_9 c0 a_6 b_7 => law24_SpiOrder_l16 m (fun i_8 c0 a_6 b_7 => law24_SpiOrder_l11 m n i_8 c0 a_6 b_7) m i_8 k_9 c0 a_6 b_7) i_8 c0 a_6 b_7
theorem L_law24_SpiOrder_l11_eq (m : Nat) : ∀ (n : Nat) (i_8 : Int) (c0 : Spi) (a_6 : List Event) (b_7 : List Event), L_law24_SpiOrder_l11 m n i_8 c0 a_6 b_7 = (law24_SpiOrder_l11 m n i_8 c0 a_6 b_7).map w_law24_SpiOrder
  | 0, i_8, c0, a_6, b_7 => by kernel_rfl
  | n + 1, i_8, c0, a_6, b_7 => by
    rw [L_law24_SpiOrder_l11_step]
    exact b_law24_SpiOrder_l11_map m (fun i_8 k_9 c0 a_6 b_7 => L_law24_SpiOrder_l16_eq m n (fun i_8 c0 a_6 b_7 => law24_SpiOrder_l11 m n i_8 c0 a_6 b_7) (fun i_8 c0 a_6 b_7 => L_law24_SpiOrder_l11_eq m n i_8 c0 a_6 b_7) m i_8 k_9 c0 a_6 b_7) i_8 c0 a_6 b_7
noncomputable def b_law24_SpiOrder {R : Type} (m : Nat) (ret : Bool → Option R) (k_l11 : Int → Spi → List Event → List Event → Option R) (c_0 : Spi) (l_1 : List Event) : Option R :=
 (law24_lives m).bind fun r0 =>
 bif !r0 then
 ret false
 else
 bif decide ((l_1.length : Int) > 3000) then
 ret true
 else
 (spi_Check m c_0).bind fun r1 =>
 bif r1 != 0 then
 ret true
 else
 bif decide (c_0.Bits < 1) then
 ret true
 else
 bif decide (c_0.Bits > 8) then
 ret true
 else
 (spi_Decode m c_0 l_1).bind fun r2 =>
 (spi_Decode m (Spi.mk c_0.T c_0.Mode c_0.Bits !c_0.Msb) l_1).bind fun r3 =>
 bif (r2.length : Int) != (r3.length : Int) then
 ret false
 else
 k_l11 0 c_0 r2 r3
theorem law24_SpiOrder_pre (m : Nat) (c_0 : Spi) (l_1 : List Event) : funK Try.prog (Ψ_law24_SpiOrder m) keep m 1 7 [(dS of_Spi cells_Spi of_Spi_ok).e c_0, (dRow 32).e l_1] = b_law24_SpiOrder m (fun x0 => some (w_law24_SpiOrder x0)) (fun i_8 c0 a_6 b_7 => L_law24_SpiOrder_l11 m m i_8 c0 a_6 b_7) c_0 l_1 := by kernel_rfl
theorem b_law24_SpiOrder_map (m : Nat) {k_l11 : Int → Spi → List Event → List Event → Option (List (RV C))} {q_l11 : Int → Spi → List Event → List Event → Option (Bool)} (h_l11 : ∀ i_8 c0 a_6 b_7, k_l11 i_8 c0 a_6 b_7 = (q_l11 i_8 c0 a_6 b_7).map w_law24_SpiOrder) (c_0 : Spi) (l_1 : List Event) : b_law24_SpiOrder m (fun x0 => some (w_law24_SpiOrder x0)) k_l11 c_0 l_1 = (b_law24_SpiOrder m (fun x0 => some x0) q_l11 c_0 l_1).map w_law24_SpiOrder := by
  simp only [b_law24_SpiOrder, cond_map, bind_map, map_none, map_some, h_l11]
noncomputable def law24_SpiOrder (m : Nat) (c_0 : Spi) (l_1 : List Event) : Option (Bool) := b_law24_SpiOrder m (fun x0 => some x0) (fun i_8 c0 a_6 b_7 => law24_SpiOrder_l11 m m i_8 c0 a_6 b_7) c_0 l_1
theorem law24_SpiOrder_fun (m : Nat) (c_0 : Spi) (l_1 : List Event) : funK Try.prog (Ψ_law24_SpiOrder m) keep m 1 7 [(dS of_Spi cells_Spi of_Spi_ok).e c_0, (dRow 32).e l_1] = (law24_SpiOrder m c_0 l_1).map w_law24_SpiOrder := by
  rw [law24_SpiOrder_pre]
  exact b_law24_SpiOrder_map m (fun i_8 c0 a_6 b_7 => L_law24_SpiOrder_l11_eq m m i_8 c0 a_6 b_7) c_0 l_1
noncomputable def K_law24_SpiOrder (m : Nat) : KnownF C := mkK (dCons (dS of_Spi cells_Spi of_Spi_ok) (dCons (dRow 32) dNil)) (fun a => law24_SpiOrder m a.1 a.2.1) w_law24_SpiOrder
theorem K_law24_SpiOrder_ok (m : Nat) : KnownAt C Try.prog 7 fun l => (K_law24_SpiOrder m).run _ l some :=
  mkK_known good fit (Ψ_law24_SpiOrder_ok m) (keep := keep) (m := m) (d := 1) fun a => law24_SpiOrder_fun m a.1 a.2.1
/-! ### signalbench/signalbenchref24.item -/
def w_ref24_item (b : Int) : List (RV C) := [(dInt .i64).e b]
noncomputable def Q_ref24_item_6 (m : Nat) : St C → (Exit → St C → Option (List (RV C))) → Option (List (RV C)) := fun σ k => codeK Try.prog Ψ0 (callK Try.prog Ψ0 keep m 0) (keep 38) m (subC body38 [.r, .r, .r, .l, .r, .b, .o]) σ k
noncomputable def KL_ref24_item_6 (m : Nat) : Exit → St C → Option (List (RV C)) := contK Try.prog Ψ0 (callK Try.prog Ψ0 keep m 0) (keep 38) m body38 [.r, .r, .r, .l, .r, .b, .o] (leaveK Try.prog Try.f38.results.toList (finK Try.prog Try.f38.resultTypes.toList))
noncomputable def L_ref24_item_l6 (m n : Nat) (i_5 : Int) (c0 : Spi) (c1 : Item) : Option (List (RV C)) := iterK (Q_ref24_item_6 m) (St.norm (keep 38 6)) n ({ T := [.dead, .dead, .fl (.one (.ptr 0 0)), .fl (.one (.ptr 1 0)), .dead, .fl (.one (.int .i64 i_5))] ++ List.replicate 57 .dead, F := [[]], H := [.box 23 (cells_Spi c0), .box 47 (cells_Item c1)] } : St C) (KL_ref24_item_6 m)
noncomputable def b_ref24_item_l6 {R : Type} (m : Nat) (ret : Int → Option R) (k_l6 : Int → Spi → Item → Option R) (i_5 : Int) (c0 : Spi) (c1 : Item) : Option R :=
 bif decide (i_5 < (c1.Data.size : Int)) then
 bif decide (0 ≤ i_5) then
 bif decide (i_5 < (c1.Data.size : Int)) then
 bif decide (c0.Bits < 0) then
 none
 else
 bif decide (IntKind.i64.wrap (byteAt c1.Data i_5) ≥ IntKind.i64.wrap (1 * 2 ^ min c0.Bits.toNat 64)) then
 ret 2
 else
 k_l6 (IntKind.i64.wrap (i_5 + 1)) c0 c1
 else
 none
 else
 none
 else
 bif c1.Fault != 0 then
 bif c1.Fault != 8 then
 ret 1
 else
 bif c1.Fault == 8 then
 bif c1.Data.toList == (bs []).toList then
 ret 17
 else
 bif c0.Bits == 1 then
 ret 17
 else
 bif c1.Value != 0 then
 ret 1
 else
 bif c1.Aux != 0 then
 ret 1
 else
 ret 0
 else
 bif c1.Value != 0 then
 ret 1
 else
 bif c1.Aux != 0 then
 ret 1
 else
 ret 0
 else
 bif c1.Fault == 8 then
 bif c1.Data.toList == (bs []).toList then
 ret 17
 else
 bif c0.Bits == 1 then
 ret 17
 else
 bif c1.Value != 0 then
 ret 1
 else
 bif c1.Aux != 0 then
 ret 1
 else
 ret 0
 else
 bif c1.Value != 0 then
 ret 1
 else
 bif c1.Aux != 0 then
 ret 1
 else
 ret 0
theorem L_ref24_item_l6_step (m n : Nat) (i_5 : Int) (c0 : Spi) (c1 : Item) : L_ref24_item_l6 m (n + 1) i_5 c0 c1 = b_ref24_item_l6 m (fun x0 => some (w_ref24_item x0)) (fun i_5 c0 c1 => L_ref24_item_l6 m n i_5 c0 c1) i_5 c0 c1 := by kernel_rfl
theorem b_ref24_item_l6_map (m : Nat) {k_l6 : Int → Spi → Item → Option (List (RV C))} {q_l6 : Int → Spi → Item → Option (Int)} (h_l6 : ∀ i_5 c0 c1, k_l6 i_5 c0 c1 = (q_l6 i_5 c0 c1).map w_ref24_item) (i_5 : Int) (c0 : Spi) (c1 : Item) : b_ref24_item_l6 m (fun x0 => some (w_ref24_item x0)) k_l6 i_5 c0 c1 = (b_ref24_item_l6 m (fun x0 => some x0) q_l6 i_5 c0 c1).map w_ref24_item := by
  simp only [b_ref24_item_l6, cond_map, bind_map, map_none, map_some, h_l6]
noncomputable def ref24_item_l6 (m : Nat) : Nat → Int → Spi → Item → Option (Int)
  | 0, _, _, _ => none
  | n + 1, i_5, c0, c1 => b_ref24_item_l6 m (fun x0 => some x0) (fun i_5 c0 c1 => ref24_item_l6 m n i_5 c0 c1) i_5 c0 c1
theorem L_ref24_item_l6_eq (m : Nat) : ∀ (n : Nat) (i_5 : Int) (c0 : Spi) (c1 : Item), L_ref24_item_l6 m n i_5 c0 c1 = (ref24_item_l6 m n i_5 c0 c1).map w_ref24_item
  | 0, i_5, c0, c1 => by kernel_rfl
  | n + 1, i_5, c0, c1 => by
    rw [L_ref24_item_l6_step]
    exact b_ref24_item_l6_map m (fun i_5 c0 c1 => L_ref24_item_l6_eq m n i_5 c0 c1) i_5 c0 c1
noncomputable def b_ref24_item {R : Type} (m : Nat) (ret : Int → Option R) (k_l6 : Int → Spi → Item → Option R) (c_0 : Spi) (x_1 : Item) : Option R :=
 bif decide (x_1.Gap < 0) then
 ret 1
 else
 bif decide (x_1.Gap > 1048576) then
 ret 1
 else
 bif decide ((x_1.Data.size : Int) > 4096) then
 ret 6
 else
 k_l6 0 c_0 x_1
theorem ref24_item_pre (m : Nat) (c_0 : Spi) (x_1 : Item) : funK Try.prog Ψ0 keep m 1 38 [(dS of_Spi cells_Spi of_Spi_ok).e c_0, (dS of_Item cells_Item of_Item_ok).e x_1] = b_ref24_item m (fun x0 => some (w_ref24_item x0)) (fun i_5 c0 c1 => L_ref24_item_l6 m m i_5 c0 c1) c_0 x_1 := by kernel_rfl
theorem b_ref24_item_map (m : Nat) {k_l6 : Int → Spi → Item → Option (List (RV C))} {q_l6 : Int → Spi → Item → Option (Int)} (h_l6 : ∀ i_5 c0 c1, k_l6 i_5 c0 c1 = (q_l6 i_5 c0 c1).map w_ref24_item) (c_0 : Spi) (x_1 : Item) : b_ref24_item m (fun x0 => some (w_ref24_item x0)) k_l6 c_0 x_1 = (b_ref24_item m (fun x0 => some x0) q_l6 c_0 x_1).map w_ref24_item := by
  simp only [b_ref24_item, cond_map, bind_map, map_none, map_some, h_l6]
noncomputable def ref24_item (m : Nat) (c_0 : Spi) (x_1 : Item) : Option (Int) := b_ref24_item m (fun x0 => some x0) (fun i_5 c0 c1 => ref24_item_l6 m m i_5 c0 c1) c_0 x_1
theorem ref24_item_fun (m : Nat) (c_0 : Spi) (x_1 : Item) : funK Try.prog Ψ0 keep m 1 38 [(dS of_Spi cells_Spi of_Spi_ok).e c_0, (dS of_Item cells_Item of_Item_ok).e x_1] = (ref24_item m c_0 x_1).map w_ref24_item := by
  rw [ref24_item_pre]
  exact b_ref24_item_map m (fun i_5 c0 c1 => L_ref24_item_l6_eq m m i_5 c0 c1) c_0 x_1
noncomputable def K_ref24_item (m : Nat) : KnownF C := mkK (dCons (dS of_Spi cells_Spi of_Spi_ok) (dCons (dS of_Item cells_Item of_Item_ok) dNil)) (fun a => ref24_item m a.1 a.2.1) w_ref24_item
theorem K_ref24_item_ok (m : Nat) : KnownAt C Try.prog 38 fun l => (K_ref24_item m).run _ l some :=
  mkK_known good fit Ψ0_ok (keep := keep) (m := m) (d := 1) fun a => ref24_item_fun m a.1 a.2.1
end Go.Abs.K
