/- Plain functions for the functions of the seat, printed by a program of this claim's own, with their proofs. -/
import Derived.Test.YtkackeahklljiaaF1
set_option linter.unusedVariables false
set_option linter.unusedSimpArgs false
set_option maxRecDepth 100000
namespace Go.Abs.K
open Go Go.Abs Go.Proofs
/-! ### signalbench/signalbenchref24.put -/
def w_ref24_put (b : List Run) : List (RV C) := [(dRow 54).e b]
noncomputable def b_ref24_put {R : Type} (m : Nat) (ret : List Run → Option R) (l_0 : List Run) (level_1 : Int) (ticks_2 : Int) : Option R :=
 bif decide ((l_0.length : Int) > 0) then
 bif decide (0 ≤ IntKind.i64.wrap ((l_0.length : Int) - 1)) then
 bif decide (IntKind.i64.wrap ((l_0.length : Int) - 1) < (l_0.length : Int)) then
 bif (l_0.getD (IntKind.i64.wrap ((l_0.length : Int) - 1)).toNat dflt_Run).Level == level_1 then
 bif decide (0 ≤ IntKind.i64.wrap ((l_0.length : Int) - 1)) then
 bif decide (IntKind.i64.wrap ((l_0.length : Int) - 1) < (l_0.length : Int)) then
 bif decide (0 ≤ IntKind.i64.wrap ((l_0.length : Int) - 1)) then
 bif decide (IntKind.i64.wrap ((l_0.length : Int) - 1) < (l_0.length : Int)) then
 ret (l_0.set (IntKind.i64.wrap ((l_0.length : Int) - 1)).toNat (Run.mk (l_0.getD (IntKind.i64.wrap ((l_0.length : Int) - 1)).toNat dflt_Run).Level (IntKind.i64.wrap ((l_0.getD (IntKind.i64.wrap ((l_0.length : Int) - 1)).toNat dflt_Run).Ticks + ticks_2))))
 else
 none
 else
 none
 else
 none
 else
 none
 else
 bif decide ((l_0.length + 1) * 16 ≤ 140737488355328) then
 ret (l_0 ++ [Run.mk level_1 ticks_2])
 else
 none
 else
 none
 else
 none
 else
 bif decide ((l_0.length + 1) * 16 ≤ 140737488355328) then
 ret (l_0 ++ [Run.mk level_1 ticks_2])
 else
 none
theorem ref24_put_pre (m : Nat) (l_0 : List Run) (level_1 : Int) (ticks_2 : Int) : funE Try.prog Ψ0 keep m 1 40 [.row, .no, .no] [(dRow 54).e l_0, (dInt .i64).e level_1, (dInt .i64).e ticks_2] = b_ref24_put m (fun x0 => some (w_ref24_put x0)) l_0 level_1 ticks_2 := by kernel_rfl
theorem b_ref24_put_map (m : Nat) (l_0 : List Run) (level_1 : Int) (ticks_2 : Int) : b_ref24_put m (fun x0 => some (w_ref24_put x0)) l_0 level_1 ticks_2 = (b_ref24_put m (fun x0 => some x0) l_0 level_1 ticks_2).map w_ref24_put := by
  simp only [b_ref24_put, cond_map, bind_map, map_none, map_some]
noncomputable def ref24_put (m : Nat) (l_0 : List Run) (level_1 : Int) (ticks_2 : Int) : Option (List Run) := b_ref24_put m (fun x0 => some x0) l_0 level_1 ticks_2
theorem ref24_put_fun (m : Nat) (l_0 : List Run) (level_1 : Int) (ticks_2 : Int) : funE Try.prog Ψ0 keep m 1 40 [.row, .no, .no] [(dRow 54).e l_0, (dInt .i64).e level_1, (dInt .i64).e ticks_2] = (ref24_put m l_0 level_1 ticks_2).map w_ref24_put := by
  rw [ref24_put_pre]
  exact b_ref24_put_map m l_0 level_1 ticks_2
noncomputable def K_ref24_put (m : Nat) : KnownF C := mkE [.row, .no, .no] (dCons (dRow 54) (dCons (dInt .i64) (dCons (dInt .i64) dNil))) (fun a => ref24_put m a.1 a.2.1 a.2.2.1) w_ref24_put
theorem K_ref24_put_ok (m : Nat) : KnownAtE C Try.prog 40 [.row, .no, .no] fun l => (K_ref24_put m).run _ l some :=
  mkE_known good fit Ψ0_ok (keep := keep) (m := m) (d := 1) fun a => ref24_put_fun m a.1 a.2.1 a.2.2.1
/-! ### signalbench/signalbenchref24.send -/
noncomputable def Ψ_ref24_send (m : Nat) : Known C := fun f => match f with
  | 40 => some (K_ref24_put m)
  | 47 => some (K_ref03_FromInt m)
  | _ => none
theorem Ψ_ref24_send_ok (m : Nat) : KnownOk C Try.prog (Ψ_ref24_send m) := by
  intro f φ h
  unfold Ψ_ref24_send at h
  split at h
  · injection h with h; subst h; exact K_ref24_put_ok m
  · injection h with h; subst h; exact K_ref03_FromInt_ok m
  · cases h
def w_ref24_send (b : List Run) : List (RV C) := [(dRow 54).e b]
noncomputable def Q_ref24_send_11 (m : Nat) : St C → (Exit → St C → Option (List (RV C))) → Option (List (RV C)) := fun σ k => codeK Try.prog (Ψ_ref24_send m) (callK Try.prog (Ψ_ref24_send m) keep m 0) (keep 39) m (subC body39 [.r, .r, .r, .r, .r, .r, .r, .r, .l, .r, .b, .o]) σ k
noncomputable def KL_ref24_send_11 (m : Nat) : Exit → St C → Option (List (RV C)) := contK Try.prog (Ψ_ref24_send m) (callK Try.prog (Ψ_ref24_send m) keep m 0) (keep 39) m body39 [.r, .r, .r, .r, .r, .r, .r, .r, .l, .r, .b, .o] (leaveK Try.prog Try.f39.results.toList (finE Try.prog [.no, .row, .no] Try.f39.resultTypes.toList))
noncomputable def Q_ref24_send_17 (m : Nat) : St C → (Exit → St C → Option (List (RV C))) → Option (List (RV C)) := fun σ k => codeK Try.prog (Ψ_ref24_send m) (callK Try.prog (Ψ_ref24_send m) keep m 0) (keep 39) m (subC body39 [.r, .r, .r, .r, .r, .r, .r, .r, .r, .r, .l, .r, .b, .o]) σ k
noncomputable def KL_ref24_send_17 (m : Nat) : Exit → St C → Option (List (RV C)) := contK Try.prog (Ψ_ref24_send m) (callK Try.prog (Ψ_ref24_send m) keep m 0) (keep 39) m body39 [.r, .r, .r, .r, .r, .r, .r, .r, .r, .r, .l, .r, .b, .o] (leaveK Try.prog Try.f39.results.toList (finE Try.prog [.no, .row, .no] Try.f39.resultTypes.toList))
noncomputable def L_ref24_send_l11 (m n : Nat) (idle_7 : Int) (before_8 : Int) (s_9 : ByteArray) (i_10 : Int) (out_1 : List Run) (c1 : Spi) (c2 : Item) : Option (List (RV C)) := iterK (Q_ref24_send_11 m) (St.norm (keep 39 11)) n ({ T := [.dead, .fl (.one (.sl 0)), .dead, .fl (.one (.ptr 1 0)), .dead, .fl (.one (.ptr 2 0)), .dead, .fl (.one (.int .i64 idle_7)), .fl (.one (.int .i64 before_8)), .fl (.one (.str s_9)), .fl (.one (.int .i64 i_10))] ++ List.replicate 87 .dead, F := [[.dead, .dead, .dead]], H := [.row 54 true out_1, .box 23 (cells_Spi c1), .box 47 (cells_Item c2)] } : St C) (KL_ref24_send_11 m)
noncomputable def L_ref24_send_l17 (m n : Nat) (idle_7 : Int) (before_8 : Int) (s_9 : ByteArray) (i_11 : Int) (out_1 : List Run) (c1 : Spi) : Option (List (RV C)) := iterK (Q_ref24_send_17 m) (St.norm (keep 39 17)) n ({ T := [.dead, .fl (.one (.sl 0)), .dead, .fl (.one (.ptr 1 0)), .dead, .dead, .dead, .fl (.one (.int .i64 idle_7)), .fl (.one (.int .i64 before_8)), .fl (.one (.str s_9)), .dead, .fl (.one (.int .i64 i_11))] ++ List.replicate 86 .dead, F := [[.dead, .dead, .dead]], H := [.row 54 true out_1, .box 23 (cells_Spi c1)] } : St C) (KL_ref24_send_17 m)
noncomputable def b_ref24_send_l17 {R : Type} (m : Nat) (ret : List Run → Option R) (k_l17 : Int → Int → ByteArray → Int → List Run → Spi → Option R) (idle_7 : Int) (before_8 : Int) (s_9 : ByteArray) (i_11 : Int) (out_1 : List Run) (c1 : Spi) : Option R :=
 bif decide (i_11 < (s_9.size : Int)) then
 (bif decide (0 ≤ i_11) then
 (bif decide (i_11 < (s_9.size : Int)) then
 ((ref24_put m out_1 (IntKind.i64.wrap (IntKind.i64.wrap (2 * IntKind.i64.wrap (IntKind.u8.wrap (byteAt s_9 i_11 - 48))) + before_8)) c1.T).bind fun r0 =>
 (ref24_put m r0 (IntKind.i64.wrap (IntKind.i64.wrap (IntKind.i64.wrap (2 * IntKind.i64.wrap (IntKind.u8.wrap (byteAt s_9 i_11 - 48))) + 1) - before_8)) c1.T).bind fun r1 =>
 k_l17 idle_7 before_8 s_9 (IntKind.i64.wrap (i_11 + 1)) r1 c1)
 else
 none)
 else
 none)
 else
 (ref24_put m out_1 idle_7 c1.T).bind fun r2 =>
 ret r2
theorem L_ref24_send_l17_step (m n : Nat) (idle_7 : Int) (before_8 : Int) (s_9 : ByteArray) (i_11 : Int) (out_1 : List Run) (c1 : Spi) : L_ref24_send_l17 m (n + 1) idle_7 before_8 s_9 i_11 out_1 c1 = b_ref24_send_l17 m (fun x0 => some (w_ref24_send x0)) (fun idle_7 before_8 s_9 i_11 out_1 c1 => L_ref24_send_l17 m n idle_7 before_8 s_9 i_11 out_1 c1) idle_7 before_8 s_9 i_11 out_1 c1 := by kernel_rfl
theorem b_ref24_send_l17_map (m : Nat) {k_l17 : Int → Int → ByteArray → Int → List Run → Spi → Option (List (RV C))} {q_l17 : Int → Int → ByteArray → Int → List Run → Spi → Option (List Run)} (h_l17 : ∀ idle_7 before_8 s_9 i_11 out_1 c1, k_l17 idle_7 before_8 s_9 i_11 out_1 c1 = (q_l17 idle_7 before_8 s_9 i_11 out_1 c1).map w_ref24_send) (idle_7 : Int) (before_8 : Int) (s_9 : ByteArray) (i_11 : Int) (out_1 : List Run) (c1 : Spi) : b_ref24_send_l17 m (fun x0 => some (w_ref24_send x0)) k_l17 idle_7 before_8 s_9 i_11 out_1 c1 = (b_ref24_send_l17 m (fun x0 => some x0) q_l17 idle_7 before_8 s_9 i_11 out_1 c1).map w_ref24_send := by
  simp only [b_ref24_send_l17, cond_map, bind_map, map_none, map_some, h_l17]
noncomputable def ref24_send_l17 (m : Nat) : Nat → Int → Int → ByteArray → Int → List Run → Spi → Option (List Run)
  | 0, _, _, _, _, _, _ => none
  | n + 1, idle_7, before_8, s_9, i_11, out_1, c1 => b_ref24_send_l17 m (fun x0 => some x0) (fun idle_7 before_8 s_9 i_11 out_1 c1 => ref24_send_l17 m n idle_7 before_8 s_9 i_11 out_1 c1) idle_7 before_8 s_9 i_11 out_1 c1
theorem L_ref24_send_l17_eq (m : Nat) : ∀ (n : Nat) (idle_7 : Int) (before_8 : Int) (s_9 : ByteArray) (i_11 : Int) (out_1 : List Run) (c1 : Spi), L_ref24_send_l17 m n idle_7 before_8 s_9 i_11 out_1 c1 = (ref24_send_l17 m n idle_7 before_8 s_9 i_11 out_1 c1).map w_ref24_send
  | 0, idle_7, before_8, s_9, i_11, out_1, c1 => by kernel_rfl
  | n + 1, idle_7, before_8, s_9, i_11, out_1, c1 => by
    rw [L_ref24_send_l17_step]
    exact b_ref24_send_l17_map m (fun idle_7 before_8 s_9 i_11 out_1 c1 => L_ref24_send_l17_eq m n idle_7 before_8 s_9 i_11 out_1 c1) idle_7 before_8 s_9 i_11 out_1 c1
noncomputable def b_ref24_send_l11 {R : Type} (m : Nat) (ret : List Run → Option R) (k_l11 : Int → Int → ByteArray → Int → List Run → Spi → Item → Option R) (k_l17 : Int → Int → ByteArray → Int → List Run → Spi → Option R) (idle_7 : Int) (before_8 : Int) (s_9 : ByteArray) (i_10 : Int) (out_1 : List Run) (c1 : Spi) (c2 : Item) : Option R :=
 bif decide (i_10 < (c2.Data.size : Int)) then
 (bif decide (0 ≤ i_10) then
 (bif decide (i_10 < (c2.Data.size : Int)) then
 ((ref03_FromInt m (IntKind.i64.wrap (byteAt c2.Data i_10)) c1.Bits c1.Msb).bind fun r0 =>
 bif decide (((s_9.size + r0.size) : Int) > 9223372036854775807) then
 none
 else
 k_l11 idle_7 before_8 (s_9 ++ r0) (IntKind.i64.wrap (i_10 + 1)) out_1 c1 c2)
 else
 none)
 else
 none)
 else
 bif c2.Fault == 8 then
 bif decide (0 ≤ IntKind.i64.wrap ((s_9.size : Int) - 1)) then
 bif decide (IntKind.i64.wrap ((s_9.size : Int) - 1) ≤ (s_9.size : Int)) then
 bif decide (0 ≤ IntKind.i64.wrap ((s_9.size : Int) - 1)) then
 k_l17 idle_7 before_8 (s_9.extract 0 (IntKind.i64.wrap ((s_9.size : Int) - 1)).toNat) 0 out_1 c1
 else
 none
 else
 none
 else
 none
 else
 k_l17 idle_7 before_8 s_9 0 out_1 c1
theorem L_ref24_send_l11_step (m n : Nat) (idle_7 : Int) (before_8 : Int) (s_9 : ByteArray) (i_10 : Int) (out_1 : List Run) (c1 : Spi) (c2 : Item) : L_ref24_send_l11 m (n + 1) idle_7 before_8 s_9 i_10 out_1 c1 c2 = b_ref24_send_l11 m (fun x0 => some (w_ref24_send x0)) (fun idle_7 before_8 s_9 i_10 out_1 c1 c2 => L_ref24_send_l11 m n idle_7 before_8 s_9 i_10 out_1 c1 c2) (fun idle_7 before_8 s_9 i_11 out_1 c1 => L_ref24_send_l17 m m idle_7 before_8 s_9 i_11 out_1 c1) idle_7 before_8 s_9 i_10 out_1 c1 c2 := by kernel_rfl
theorem b_ref24_send_l11_map (m : Nat) {k_l11 : Int → Int → ByteArray → Int → List Run → Spi → Item → Option (List (RV C))} {q_l11 : Int → Int → ByteArray → Int → List Run → Spi → Item → Option (List Run)} (h_l11 : ∀ idle_7 before_8 s_9 i_10 out_1 c1 c2, k_l11 idle_7 before_8 s_9 i_10 out_1 c1 c2 = (q_l11 idle_7 before_8 s_9 i_10 out_1 c1 c2).map w_ref24_send) {k_l17 : Int → Int → ByteArray → Int → List Run → Spi → Option (List (RV C))} {q_l17 : Int → Int → ByteArray → Int → List Run → Spi → Option (List Run)} (h_l17 : ∀ idle_7 before_8 s_9 i_11 out_1 c1, k_l17 idle_7 before_8 s_9 i_11 out_1 c1 = (q_l17 idle_7 before_8 s_9 i_11 out_1 c1).map w_ref24_send) (idle_7 : Int) (before_8 : Int) (s_9 : ByteArray) (i_10 : Int) (out_1 : List Run) (c1 : Spi) (c2 : Item) : b_ref24_send_l11 m (fun x0 => some (w_ref24_send x0)) k_l11 k_l17 idle_7 before_8 s_9 i_10 out_1 c1 c2 = (b_ref24_send_l11 m (fun x0 => some x0) q_l11 q_l17 idle_7 before_8 s_9 i_10 out_1 c1 c2).map w_ref24_send := by
  simp only [b_ref24_send_l11, cond_map, bind_map, map_none, map_some, h_l11, h_l17]
noncomputable def ref24_send_l11 (m : Nat) : Nat → Int → Int → ByteArray → Int → List Run → Spi → Item → Option (List Run)
  | 0, _, _, _, _, _, _, _ => none
  | n + 1, idle_7, before_8, s_9, i_10, out_1, c1, c2 => b_ref24_send_l11 m (fun x0 => some x0) (fun idle_7 before_8 s_9 i_10 out_1 c1 c2 => ref24_send_l11 m n idle_7 before_8 s_9 i_10 out_1 c1 c2) (fun idle_7 before_8 s_9 i_11 out_1 c1 => ref24_send_l17 m m idle_7 before_8 s_9 i_11 out_1 c1) idle_7 before_8 s_9 i_10 out_1 c1 c2
theorem L_ref24_send_l11_eq (m : Nat) : ∀ (n : Nat) (idle_7 : Int) (before_8 : Int) (s_9 : ByteArray) (i_10 : Int) (out_1 : List Run) (c1 : Spi) (c2 : Item), L_ref24_send_l11 m n idle_7 before_8 s_9 i_10 out_1 c1 c2 = (ref24_send_l11 m n idle_7 before_8 s_9 i_10 out_1 c1 c2).map w_ref24_send
  | 0, idle_7, before_8, s_9, i_10, out_1, c1, c2 => by kernel_rfl
  | n + 1, idle_7, before_8, s_9, i_10, out_1, c1, c2 => by
    rw [L_ref24_send_l11_step]
    exact b_ref24_send_l11_map m (fun idle_7 before_8 s_9 i_10 out_1 c1 c2 => L_ref24_send_l11_eq m n idle_7 before_8 s_9 i_10 out_1 c1 c2) (fun idle_7 before_8 s_9 i_11 out_1 c1 => L_ref24_send_l17_eq m m idle_7 before_8 s_9 i_11 out_1 c1) idle_7 before_8 s_9 i_10 out_1 c1 c2
noncomputable def b_ref24_send {R : Type} (m : Nat) (ret : List Run → Option R) (k_l11 : Int → Int → ByteArray → Int → List Run → Spi → Item → Option R) (c_0 : Spi) (out_1 : List Run) (x_2 : Item) : Option R :=
 bif decide (c_0.Mode ≥ 2) then
 (bif c_0.Mode == 1 then
 ((ref24_put m out_1 5 (IntKind.i64.wrap (IntKind.i64.wrap (2 * c_0.T) + x_2.Gap))).bind fun r0 =>
 (ref24_put m r0 1 c_0.T).bind fun r1 =>
 k_l11 1 1 (bs []) 0 r1 c_0 x_2)
 else
 bif c_0.Mode == 2 then
 ((ref24_put m out_1 5 (IntKind.i64.wrap (IntKind.i64.wrap (2 * c_0.T) + x_2.Gap))).bind fun r2 =>
 (ref24_put m r2 1 c_0.T).bind fun r3 =>
 k_l11 1 1 (bs []) 0 r3 c_0 x_2)
 else
 (ref24_put m out_1 5 (IntKind.i64.wrap (IntKind.i64.wrap (2 * c_0.T) + x_2.Gap))).bind fun r4 =>
 (ref24_put m r4 1 c_0.T).bind fun r5 =>
 k_l11 1 0 (bs []) 0 r5 c_0 x_2)
 else
 bif c_0.Mode == 1 then
 ((ref24_put m out_1 4 (IntKind.i64.wrap (IntKind.i64.wrap (2 * c_0.T) + x_2.Gap))).bind fun r6 =>
 (ref24_put m r6 0 c_0.T).bind fun r7 =>
 k_l11 0 1 (bs []) 0 r7 c_0 x_2)
 else
 bif c_0.Mode == 2 then
 ((ref24_put m out_1 4 (IntKind.i64.wrap (IntKind.i64.wrap (2 * c_0.T) + x_2.Gap))).bind fun r8 =>
 (ref24_put m r8 0 c_0.T).bind fun r9 =>
 k_l11 0 1 (bs []) 0 r9 c_0 x_2)
 else
 (ref24_put m out_1 4 (IntKind.i64.wrap (IntKind.i64.wrap (2 * c_0.T) + x_2.Gap))).bind fun r10 =>
 (ref24_put m r10 0 c_0.T).bind fun r11 =>
 k_l11 0 0 (bs []) 0 r11 c_0 x_2
theorem ref24_send_pre (m : Nat) (c_0 : Spi) (out_1 : List Run) (x_2 : Item) : funE Try.prog (Ψ_ref24_send m) keep m 1 39 [.no, .row, .no] [(dS of_Spi cells_Spi of_Spi_ok).e c_0, (dRow 54).e out_1, (dS of_Item cells_Item of_Item_ok).e x_2] = b_ref24_send m (fun x0 => some (w_ref24_send x0)) (fun idle_7 before_8 s_9 i_10 out_1 c1 c2 => L_ref24_send_l11 m m idle_7 before_8 s_9 i_10 out_1 c1 c2) c_0 out_1 x_2 := by kernel_rfl
theorem b_ref24_send_map (m : Nat) {k_l11 : Int → Int → ByteArray → Int → List Run → Spi → Item → Option (List (RV C))} {q_l11 : Int → Int → ByteArray → Int → List Run → Spi → Item → Option (List Run)} (h_l11 : ∀ idle_7 before_8 s_9 i_10 out_1 c1 c2, k_l11 idle_7 before_8 s_9 i_10 out_1 c1 c2 = (q_l11 idle_7 before_8 s_9 i_10 out_1 c1 c2).map w_ref24_send) (c_0 : Spi) (out_1 : List Run) (x_2 : Item) : b_ref24_send m (fun x0 => some (w_ref24_send x0)) k_l11 c_0 out_1 x_2 = (b_ref24_send m (fun x0 => some x0) q_l11 c_0 out_1 x_2).map w_ref24_send := by
  simp only [b_ref24_send, cond_map, bind_map, map_none, map_some, h_l11]
noncomputable def ref24_send (m : Nat) (c_0 : Spi) (out_1 : List Run) (x_2 : Item) : Option (List Run) := b_ref24_send m (fun x0 => some x0) (fun idle_7 before_8 s_9 i_10 out_1 c1 c2 => ref24_send_l11 m m idle_7 before_8 s_9 i_10 out_1 c1 c2) c_0 out_1 x_2
theorem ref24_send_fun (m : Nat) (c_0 : Spi) (out_1 : List Run) (x_2 : Item) : funE Try.prog (Ψ_ref24_send m) keep m 1 39 [.no, .row, .no] [(dS of_Spi cells_Spi of_Spi_ok).e c_0, (dRow 54).e out_1, (dS of_Item cells_Item of_Item_ok).e x_2] = (ref24_send m c_0 out_1 x_2).map w_ref24_send := by
  rw [ref24_send_pre]
  exact b_ref24_send_map m (fun idle_7 before_8 s_9 i_10 out_1 c1 c2 => L_ref24_send_l11_eq m m idle_7 before_8 s_9 i_10 out_1 c1 c2) c_0 out_1 x_2
noncomputable def K_ref24_send (m : Nat) : KnownF C := mkE [.no, .row, .no] (dCons (dS of_Spi cells_Spi of_Spi_ok) (dCons (dRow 54) (dCons (dS of_Item cells_Item of_Item_ok) dNil))) (fun a => ref24_send m a.1 a.2.1 a.2.2.1) w_ref24_send
theorem K_ref24_send_ok (m : Nat) : KnownAtE C Try.prog 39 [.no, .row, .no] fun l => (K_ref24_send m).run _ l some :=
  mkE_known good fit (Ψ_ref24_send_ok m) (keep := keep) (m := m) (d := 1) fun a => ref24_send_fun m a.1 a.2.1 a.2.2.1
/-! ### signalbench/signalbenchref24.Encode -/
noncomputable def Ψ_ref24_Encode (m : Nat) : Known C := fun f => match f with
  | 16 => some (K_ref24_Check m)
  | 38 => some (K_ref24_item m)
  | 39 => some (K_ref24_send m)
  | 40 => some (K_ref24_put m)
  | _ => none
theorem Ψ_ref24_Encode_ok (m : Nat) : KnownOk C Try.prog (Ψ_ref24_Encode m) := by
  intro f φ h
  unfold Ψ_ref24_Encode at h
  split at h
  · injection h with h; subst h; exact K_ref24_Check_ok m
  · injection h with h; subst h; exact K_ref24_item_ok m
  · injection h with h; subst h; exact K_ref24_send_ok m
  · injection h with h; subst h; exact K_ref24_put_ok m
  · cases h
def w_ref24_Encode (b : List Run × Int) : List (RV C) := [(dRow 54).e b.1, (dInt .i64).e b.2]
noncomputable def Q_ref24_Encode_7 (m : Nat) : St C → (Exit → St C → Option (List (RV C))) → Option (List (RV C)) := fun σ k => codeK Try.prog (Ψ_ref24_Encode m) (callK Try.prog (Ψ_ref24_Encode m) keep m 0) (keep 26) m (subC body26 [.r, .r, .r, .l, .r, .b, .o]) σ k
noncomputable def KL_ref24_Encode_7 (m : Nat) : Exit → St C → Option (List (RV C)) := contK Try.prog (Ψ_ref24_Encode m) (callK Try.prog (Ψ_ref24_Encode m) keep m 0) (keep 26) m body26 [.r, .r, .r, .l, .r, .b, .o] (leaveK Try.prog Try.f26.results.toList (finK Try.prog Try.f26.resultTypes.toList))
noncomputable def Q_ref24_Encode_14 (m : Nat) : St C → (Exit → St C → Option (List (RV C))) → Option (List (RV C)) := fun σ k => codeK Try.prog (Ψ_ref24_Encode m) (callK Try.prog (Ψ_ref24_Encode m) keep m 0) (keep 26) m (subC body26 [.r, .r, .r, .r, .r, .l, .r, .b, .o]) σ k
noncomputable def KL_ref24_Encode_14 (m : Nat) : Exit → St C → Option (List (RV C)) := contK Try.prog (Ψ_ref24_Encode m) (callK Try.prog (Ψ_ref24_Encode m) keep m 0) (keep 26) m body26 [.r, .r, .r, .r, .r, .l, .r, .b, .o] (leaveK Try.prog Try.f26.results.toList (finK Try.prog Try.f26.resultTypes.toList))
noncomputable def Q_ref24_Encode_25 (m : Nat) : St C → (Exit → St C → Option (List (RV C))) → Option (List (RV C)) := fun σ k => codeK Try.prog (Ψ_ref24_Encode m) (callK Try.prog (Ψ_ref24_Encode m) keep m 0) (keep 26) m (subC body26 [.r, .r, .r, .r, .r, .r, .r, .r, .r, .r, .r, .l, .r, .b, .o]) σ k
noncomputable def KL_ref24_Encode_25 (m : Nat) : Exit → St C → Option (List (RV C)) := contK Try.prog (Ψ_ref24_Encode m) (callK Try.prog (Ψ_ref24_Encode m) keep m 0) (keep 26) m body26 [.r, .r, .r, .r, .r, .r, .r, .r, .r, .r, .r, .l, .r, .b, .o] (leaveK Try.prog Try.f26.results.toList (finK Try.prog Try.f26.resultTypes.toList))
noncomputable def L_ref24_Encode_l7 (m n : Nat) (i_7 : Int) (l_1 : List Item) (c1 : Spi) : Option (List (RV C)) := iterK (Q_ref24_Encode_7 m) (St.norm (keep 26 7)) n ({ T := [.dead, .fl (.one (.sl 0)), .fl (.one (.ptr 1 0)), .dead, .dead, .dead, .dead, .fl (.one (.int .i64 i_7))] ++ List.replicate 76 .dead, F := [[]], H := [.row 47 false l_1, .box 23 (cells_Spi c1)] } : St C) (KL_ref24_Encode_7 m)
noncomputable def L_ref24_Encode_l14 (m n : Nat) (i_10 : Int) (l_1 : List Item) (c1 : Spi) (out_9 : List Run) : Option (List (RV C)) := iterK (Q_ref24_Encode_14 m) (St.norm (keep 26 14)) n ({ T := [.dead, .fl (.one (.sl 0)), .fl (.one (.ptr 1 0)), .dead, .dead, .dead, .dead, .dead, .dead, .fl (.one (.sl 2)), .fl (.one (.int .i64 i_10))] ++ List.replicate 73 .dead, F := [[]], H := [.row 47 false l_1, .box 23 (cells_Spi c1), .row 54 true out_9] } : St C) (KL_ref24_Encode_14 m)
noncomputable def L_ref24_Encode_l25 (m n : Nat) (left_12 : Int) (i_13 : Int) (out_9 : List Run) : Option (List (RV C)) := iterK (Q_ref24_Encode_25 m) (St.norm (keep 26 25)) n ({ T := [.dead, .dead, .dead, .dead, .dead, .dead, .dead, .dead, .dead, .fl (.one (.sl 0)), .dead, .dead, .fl (.one (.int .i64 left_12)), .fl (.one (.int .i64 i_13))] ++ List.replicate 70 .dead, F := [[]], H := [.row 54 true out_9] } : St C) (KL_ref24_Encode_25 m)
noncomputable def b_ref24_Encode_l25 {R : Type} (m : Nat) (ret : List Run → Int → Option R) (k_l25 : Int → Int → List Run → Option R) (left_12 : Int) (i_13 : Int) (out_9 : List Run) : Option R :=
 bif decide (i_13 < (out_9.length : Int)) then
 bif decide (0 ≤ i_13) then
 bif decide (i_13 < (out_9.length : Int)) then
 bif decide ((out_9.getD i_13.toNat dflt_Run).Ticks > left_12) then
 ret [] 2
 else
 bif decide (0 ≤ i_13) then
 bif decide (i_13 < (out_9.length : Int)) then
 k_l25 (IntKind.i64.wrap (left_12 - (out_9.getD i_13.toNat dflt_Run).Ticks)) (IntKind.i64.wrap (i_13 + 1)) out_9
 else
 none
 else
 none
 else
 none
 else
 none
 else
 ret out_9 0
theorem L_ref24_Encode_l25_step (m n : Nat) (left_12 : Int) (i_13 : Int) (out_9 : List Run) : L_ref24_Encode_l25 m (n + 1) left_12 i_13 out_9 = b_ref24_Encode_l25 m (fun x0 x1 => some (w_ref24_Encode (x0, x1))) (fun left_12 i_13 out_9 => L_ref24_Encode_l25 m n left_12 i_13 out_9) left_12 i_13 out_9 := by kernel_rfl
theorem b_ref24_Encode_l25_map (m : Nat) {k_l25 : Int → Int → List Run → Option (List (RV C))} {q_l25 : Int → Int → List Run → Option (List Run × Int)} (h_l25 : ∀ left_12 i_13 out_9, k_l25 left_12 i_13 out_9 = (q_l25 left_12 i_13 out_9).map w_ref24_Encode) (left_12 : Int) (i_13 : Int) (out_9 : List Run) : b_ref24_Encode_l25 m (fun x0 x1 => some (w_ref24_Encode (x0, x1))) k_l25 left_12 i_13 out_9 = (b_ref24_Encode_l25 m (fun x0 x1 => some (x0, x1)) q_l25 left_12 i_13 out_9).map w_ref24_Encode := by
  simp only [b_ref24_Encode_l25, cond_map, bind_map, map_none, map_some, h_l25]
noncomputable def ref24_Encode_l25 (m : Nat) : Nat → Int → Int → List Run → Option (List Run × Int)
  | 0, _, _, _ => none
  | n + 1, left_12, i_13, out_9 => b_ref24_Encode_l25 m (fun x0 x1 => some (x0, x1)) (fun left_12 i_13 out_9 => ref24_Encode_l25 m n left_12 i_13 out_9) left_12 i_13 out_9
theorem L_ref24_Encode_l25_eq (m : Nat) : ∀ (n : Nat) (left_12 : Int) (i_13 : Int) (out_9 : List Run), L_ref24_Encode_l25 m n left_12 i_13 out_9 = (ref24_Encode_l25 m n left_12 i_13 out_9).map w_ref24_Encode
  | 0, left_12, i_13, out_9 => by kernel_rfl
  | n + 1, left_12, i_13, out_9 => by
    rw [L_ref24_Encode_l25_step]
    exact b_ref24_Encode_l25_map m (fun left_12 i_13 out_9 => L_ref24_Encode_l25_eq m n left_12 i_13 out_9) left_12 i_13 out_9
noncomputable def b_ref24_Encode_l14 {R : Type} (m : Nat) (ret : List Run → Int → Option R) (k_l14 : Int → List Item → Spi → List Run → Option R) (k_l25 : Int → Int → List Run → Option R) (i_10 : Int) (l_1 : List Item) (c1 : Spi) (out_9 : List Run) : Option R :=
 bif decide (i_10 < (l_1.length : Int)) then
 (bif decide (0 ≤ i_10) then
 (bif decide (i_10 < (l_1.length : Int)) then
 ((ref24_send m c1 out_9 (l_1.getD i_10.toNat dflt_Item)).bind fun r0 =>
 k_l14 (IntKind.i64.wrap (i_10 + 1)) l_1 c1 r0)
 else
 none)
 else
 none)
 else
 bif decide (c1.Mode ≥ 2) then
 ((ref24_put m out_9 5 (IntKind.i64.wrap (2 * c1.T))).bind fun r1 =>
 bif decide ((r1.length : Int) > 262144) then
 ret [] 6
 else
 k_l25 1099511627776 0 r1)
 else
 (ref24_put m out_9 4 (IntKind.i64.wrap (2 * c1.T))).bind fun r2 =>
 bif decide ((r2.length : Int) > 262144) then
 ret [] 6
 else
 k_l25 1099511627776 0 r2
theorem L_ref24_Encode_l14_step (m n : Nat) (i_10 : Int) (l_1 : List Item) (c1 : Spi) (out_9 : List Run) : L_ref24_Encode_l14 m (n + 1) i_10 l_1 c1 out_9 = b_ref24_Encode_l14 m (fun x0 x1 => some (w_ref24_Encode (x0, x1))) (fun i_10 l_1 c1 out_9 => L_ref24_Encode_l14 m n i_10 l_1 c1 out_9) (fun left_12 i_13 out_9 => L_ref24_Encode_l25 m m left_12 i_13 out_9) i_10 l_1 c1 out_9 := by kernel_rfl
theorem b_ref24_Encode_l14_map (m : Nat) {k_l14 : Int → List Item → Spi → List Run → Option (List (RV C))} {q_l14 : Int → List Item → Spi → List Run → Option (List Run × Int)} (h_l14 : ∀ i_10 l_1 c1 out_9, k_l14 i_10 l_1 c1 out_9 = (q_l14 i_10 l_1 c1 out_9).map w_ref24_Encode) {k_l25 : Int → Int → List Run → Option (List (RV C))} {q_l25 : Int → Int → List Run → Option (List Run × Int)} (h_l25 : ∀ left_12 i_13 out_9, k_l25 left_12 i_13 out_9 = (q_l25 left_12 i_13 out_9).map w_ref24_Encode) (i_10 : Int) (l_1 : List Item) (c1 : Spi) (out_9 : List Run) : b_ref24_Encode_l14 m (fun x0 x1 => some (w_ref24_Encode (x0, x1))) k_l14 k_l25 i_10 l_1 c1 out_9 = (b_ref24_Encode_l14 m (fun x0 x1 => some (x0, x1)) q_l14 q_l25 i_10 l_1 c1 out_9).map w_ref24_Encode := by
  simp only [b_ref24_Encode_l14, cond_map, bind_map, map_none, map_some, h_l14, h_l25]
noncomputable def ref24_Encode_l14 (m : Nat) : Nat → Int → List Item → Spi → List Run → Option (List Run × Int)
  | 0, _, _, _, _ => none
  | n + 1, i_10, l_1, c1, out_9 => b_ref24_Encode_l14 m (fun x0 x1 => some (x0, x1)) (fun i_10 l_1 c1 out_9 => ref24_Encode_l14 m n i_10 l_1 c1 out_9) (fun left_12 i_13 out_9 => ref24_Encode_l25 m m left_12 i_13 out_9) i_10 l_1 c1 out_9
theorem L_ref24_Encode_l14_eq (m : Nat) : ∀ (n : Nat) (i_10 : Int) (l_1 : List Item) (c1 : Spi) (out_9 : List Run), L_ref24_Encode_l14 m n i_10 l_1 c1 out_9 = (ref24_Encode_l14 m n i_10 l_1 c1 out_9).map w_ref24_Encode
  | 0, i_10, l_1, c1, out_9 => by kernel_rfl
  | n + 1, i_10, l_1, c1, out_9 => by
    rw [L_ref24_Encode_l14_step]
    exact b_ref24_Encode_l14_map m (fun i_10 l_1 c1 out_9 => L_ref24_Encode_l14_eq m n i_10 l_1 c1 out_9) (fun left_12 i_13 out_9 => L_ref24_Encode_l25_eq m m left_12 i_13 out_9) i_10 l_1 c1 out_9
noncomputable def b_ref24_Encode_l7 {R : Type} (m : Nat) (ret : List Run → Int → Option R) (k_l7 : Int → List Item → Spi → Option R) (k_l14 : Int → List Item → Spi → List Run → Option R) (i_7 : Int) (l_1 : List Item) (c1 : Spi) : Option R :=
 bif decide (i_7 < (l_1.length : Int)) then
 (bif decide (0 ≤ i_7) then
 (bif decide (i_7 < (l_1.length : Int)) then
 ((ref24_item m c1 (l_1.getD i_7.toNat dflt_Item)).bind fun r0 =>
 bif r0 != 0 then
 ret [] r0
 else
 k_l7 (IntKind.i64.wrap (i_7 + 1)) l_1 c1)
 else
 none)
 else
 none)
 else
 k_l14 0 l_1 c1 []
theorem L_ref24_Encode_l7_step (m n : Nat) (i_7 : Int) (l_1 : List Item) (c1 : Spi) : L_ref24_Encode_l7 m (n + 1) i_7 l_1 c1 = b_ref24_Encode_l7 m (fun x0 x1 => some (w_ref24_Encode (x0, x1))) (fun i_7 l_1 c1 => L_ref24_Encode_l7 m n i_7 l_1 c1) (fun i_10 l_1 c1 out_9 => L_ref24_Encode_l14 m m i_10 l_1 c1 out_9) i_7 l_1 c1 := by kernel_rfl
theorem b_ref24_Encode_l7_map (m : Nat) {k_l7 : Int → List Item → Spi → Option (List (RV C))} {q_l7 : Int → List Item → Spi → Option (List Run × Int)} (h_l7 : ∀ i_7 l_1 c1, k_l7 i_7 l_1 c1 = (q_l7 i_7 l_1 c1).map w_ref24_Encode) {k_l14 : Int → List Item → Spi → List Run → Option (List (RV C))} {q_l14 : Int → List Item → Spi → List Run → Option (List Run × Int)} (h_l14 : ∀ i_10 l_1 c1 out_9, k_l14 i_10 l_1 c1 out_9 = (q_l14 i_10 l_1 c1 out_9).map w_ref24_Encode) (i_7 : Int) (l_1 : List Item) (c1 : Spi) : b_ref24_Encode_l7 m (fun x0 x1 => some (w_ref24_Encode (x0, x1))) k_l7 k_l14 i_7 l_1 c1 = (b_ref24_Encode_l7 m (fun x0 x1 => some (x0, x1)) q_l7 q_l14 i_7 l_1 c1).map w_ref24_Encode := by
  simp only [b_ref24_Encode_l7, cond_map, bind_map, map_none, map_some, h_l7, h_l14]
noncomputable def ref24_Encode_l7 (m : Nat) : Nat → Int → List Item → Spi → Option (List Run × Int)
  | 0, _, _, _ => none
  | n + 1, i_7, l_1, c1 => b_ref24_Encode_l7 m (fun x0 x1 => some (x0, x1)) (fun i_7 l_1 c1 => ref24_Encode_l7 m n i_7 l_1 c1) (fun i_10 l_1 c1 out_9 => ref24_Encode_l14 m m i_10 l_1 c1 out_9) i_7 l_1 c1
theorem L_ref24_Encode_l7_eq (m : Nat) : ∀ (n : Nat) (i_7 : Int) (l_1 : List Item) (c1 : Spi), L_ref24_Encode_l7 m n i_7 l_1 c1 = (ref24_Encode_l7 m n i_7 l_1 c1).map w_ref24_Encode
  | 0, i_7, l_1, c1 => by kernel_rfl
  | n + 1, i_7, l_1, c1 => by
    rw [L_ref24_Encode_l7_step]
    exact b_ref24_Encode_l7_map m (fun i_7 l_1 c1 => L_ref24_Encode_l7_eq m n i_7 l_1 c1) (fun i_10 l_1 c1 out_9 => L_ref24_Encode_l14_eq m m i_10 l_1 c1 out_9) i_7 l_1 c1
noncomputable def b_ref24_Encode {R : Type} (m : Nat) (ret : List Run → Int → Option R) (k_l7 : Int → List Item → Spi → Option R) (c_0 : Spi) (l_1 : List Item) : Option R :=
 (ref24_Check m c_0).bind fun r0 =>
 bif r0 != 0 then
 ret [] r0
 else
 bif decide ((l_1.length : Int) > 1024) then
 ret [] 6
 else
 k_l7 0 l_1 c_0
theorem ref24_Encode_pre (m : Nat) (c_0 : Spi) (l_1 : List Item) : funK Try.prog (Ψ_ref24_Encode m) keep m 1 26 [(dS of_Spi cells_Spi of_Spi_ok).e c_0, (dRow 47).e l_1] = b_ref24_Encode m (fun x0 x1 => some (w_ref24_Encode (x0, x1))) (fun i_7 l_1 c1 => L_ref24_Encode_l7 m m i_7 l_1 c1) c_0 l_1 := by kernel_rfl
theorem b_ref24_Encode_map (m : Nat) {k_l7 : Int → List Item → Spi → Option (List (RV C))} {q_l7 : Int → List Item → Spi → Option (List Run × Int)} (h_l7 : ∀ i_7 l_1 c1, k_l7 i_7 l_1 c1 = (q_l7 i_7 l_1 c1).map w_ref24_Encode) (c_0 : Spi) (l_1 : List Item) : b_ref24_Encode m (fun x0 x1 => some (w_ref24_Encode (x0, x1))) k_l7 c_0 l_1 = (b_ref24_Encode m (fun x0 x1 => some (x0, x1)) q_l7 c_0 l_1).map w_ref24_Encode := by
  simp only [b_ref24_Encode, cond_map, bind_map, map_none, map_some, h_l7]
noncomputable def ref24_Encode (m : Nat) (c_0 : Spi) (l_1 : List Item) : Option (List Run × Int) := b_ref24_Encode m (fun x0 x1 => some (x0, x1)) (fun i_7 l_1 c1 => ref24_Encode_l7 m m i_7 l_1 c1) c_0 l_1
theorem ref24_Encode_fun (m : Nat) (c_0 : Spi) (l_1 : List Item) : funK Try.prog (Ψ_ref24_Encode m) keep m 1 26 [(dS of_Spi cells_Spi of_Spi_ok).e c_0, (dRow 47).e l_1] = (ref24_Encode m c_0 l_1).map w_ref24_Encode := by
  rw [ref24_Encode_pre]
  exact b_ref24_Encode_map m (fun i_7 l_1 c1 => L_ref24_Encode_l7_eq m m i_7 l_1 c1) c_0 l_1
noncomputable def K_ref24_Encode (m : Nat) : KnownF C := mkK (dCons (dS of_Spi cells_Spi of_Spi_ok) (dCons (dRow 47) dNil)) (fun a => ref24_Encode m a.1 a.2.1) w_ref24_Encode
theorem K_ref24_Encode_ok (m : Nat) : KnownAt C Try.prog 26 fun l => (K_ref24_Encode m).run _ l some :=
  mkK_known good fit (Ψ_ref24_Encode_ok m) (keep := keep) (m := m) (d := 1) fun a => ref24_Encode_fun m a.1 a.2.1
/-! ### signalbench/spi.Expect -/
noncomputable def Ψ_spi_Expect (m : Nat) : Known C := fun f => match f with
  | 22 => some (K_spi_Encode m)
  | 19 => some (K_spi_Decode m)
  | _ => none
theorem Ψ_spi_Expect_ok (m : Nat) : KnownOk C Try.prog (Ψ_spi_Expect m) := by
  intro f φ h
  unfold Ψ_spi_Expect at h
  split at h
  · injection h with h; subst h; exact K_spi_Encode_ok m
  · injection h with h; subst h; exact K_spi_Decode_ok m
  · cases h
def w_spi_Expect (b : List Event × Int) : List (RV C) := [(dRow 32).e b.1, (dInt .i64).e b.2]
noncomputable def Q_spi_Expect_7 (m : Nat) : St C → (Exit → St C → Option (List (RV C))) → Option (List (RV C)) := fun σ k => codeK Try.prog (Ψ_spi_Expect m) (callK Try.prog (Ψ_spi_Expect m) keep m 0) (keep 27) m (subC body27 [.r, .r, .r, .r, .r, .l, .r, .b, .o]) σ k
noncomputable def KL_spi_Expect_7 (m : Nat) : Exit → St C → Option (List (RV C)) := contK Try.prog (Ψ_spi_Expect m) (callK Try.prog (Ψ_spi_Expect m) keep m 0) (keep 27) m body27 [.r, .r, .r, .r, .r, .l, .r, .b, .o] (leaveK Try.prog Try.f27.results.toList (finK Try.prog Try.f27.resultTypes.toList))
noncomputable def L_spi_Expect_l7 (m n : Nat) (at_9 : Int) (t22 : Int) (t23 : Int) (c0 : Spi) (in_8 : List Event) (t21 : List Run) : Option (List (RV C)) := iterK (Q_spi_Expect_7 m) (St.norm (keep 27 7)) n ({ T := [.dead, .dead, .fl (.one (.ptr 0 0)), .dead, .dead, .dead, .dead, .dead, .fl (.one (.sl 1)), .fl (.one (.int .i64 at_9)), .dead, .dead, .dead, .dead, .dead, .dead, .dead, .dead, .dead, .dead, .dead, .fl (.one (.sl 2)), .fl (.one (.int .i64 t22)), .fl (.one (.int .i64 t23))] ++ List.replicate 22 .dead, F := [[]], H := [.box 23 (cells_Spi c0), .row 32 true in_8, .row 54 true t21] } : St C) (KL_spi_Expect_7 m)
noncomputable def b_spi_Expect_l7 {R : Type} (m : Nat) (ret : List Event → Int → Option R) (k_l7 : Int → Int → Int → Spi → List Event → List Run → Option R) (at_9 : Int) (t22 : Int) (t23 : Int) (c0 : Spi) (in_8 : List Event) (t21 : List Run) : Option R :=
 bif decide (t23 < t22) then
 bif decide (0 ≤ t23) then
 bif decide (t23 < (t21.length : Int)) then
 bif decide ((in_8.length + 1) * 64 ≤ 140737488355328) then
 k_l7 (IntKind.i64.wrap (at_9 + (t21.getD t23.toNat dflt_Run).Ticks)) t22 (IntKind.i64.wrap (t23 + 1)) c0 (in_8 ++ [Event.mk 1 at_9 (IntKind.i64.wrap (at_9 + (t21.getD t23.toNat dflt_Run).Ticks)) (t21.getD t23.toNat dflt_Run).Level 0 (bs []) 0]) t21
 else
 none
 else
 none
 else
 none
 else
 (spi_Decode m c0 in_8).bind fun r0 =>
 ret r0 0
theorem L_spi_Expect_l7_step (m n : Nat) (at_9 : Int) (t22 : Int) (t23 : Int) (c0 : Spi) (in_8 : List Event) (t21 : List Run) : L_spi_Expect_l7 m (n + 1) at_9 t22 t23 c0 in_8 t21 = b_spi_Expect_l7 m (fun x0 x1 => some (w_spi_Expect (x0, x1))) (fun at_9 t22 t23 c0 in_8 t21 => L_spi_Expect_l7 m n at_9 t22 t23 c0 in_8 t21) at_9 t22 t23 c0 in_8 t21 := by kernel_rfl
theorem b_spi_Expect_l7_map (m : Nat) {k_l7 : Int → Int → Int → Spi → List Event → List Run → Option (List (RV C))} {q_l7 : Int → Int → Int → Spi → List Event → List Run → Option (List Event × Int)} (h_l7 : ∀ at_9 t22 t23 c0 in_8 t21, k_l7 at_9 t22 t23 c0 in_8 t21 = (q_l7 at_9 t22 t23 c0 in_8 t21).map w_spi_Expect) (at_9 : Int) (t22 : Int) (t23 : Int) (c0 : Spi) (in_8 : List Event) (t21 : List Run) : b_spi_Expect_l7 m (fun x0 x1 => some (w_spi_Expect (x0, x1))) k_l7 at_9 t22 t23 c0 in_8 t21 = (b_spi_Expect_l7 m (fun x0 x1 => some (x0, x1)) q_l7 at_9 t22 t23 c0 in_8 t21).map w_spi_Expect := by
  simp only [b_spi_Expect_l7, cond_map, bind_map, map_none, map_some, h_l7]
noncomputable def spi_Expect_l7 (m : Nat) : Nat → Int → Int → Int → Spi → List Event → List Run → Option (List Event × Int)
  | 0, _, _, _, _, _, _ => none
  | n + 1, at_9, t22, t23, c0, in_8, t21 => b_spi_Expect_l7 m (fun x0 x1 => some (x0, x1)) (fun at_9 t22 t23 c0 in_8 t21 => spi_Expect_l7 m n at_9 t22 t23 c0 in_8 t21) at_9 t22 t23 c0 in_8 t21
theorem L_spi_Expect_l7_eq (m : Nat) : ∀ (n : Nat) (at_9 : Int) (t22 : Int) (t23 : Int) (c0 : Spi) (in_8 : List Event) (t21 : List Run), L_spi_Expect_l7 m n at_9 t22 t23 c0 in_8 t21 = (spi_Expect_l7 m n at_9 t22 t23 c0 in_8 t21).map w_spi_Expect
  | 0, at_9, t22, t23, c0, in_8, t21 => by kernel_rfl
  | n + 1, at_9, t22, t23, c0, in_8, t21 => by
    rw [L_spi_Expect_l7_step]
    exact b_spi_Expect_l7_map m (fun at_9 t22 t23 c0 in_8 t21 => L_spi_Expect_l7_eq m n at_9 t22 t23 c0 in_8 t21) at_9 t22 t23 c0 in_8 t21
noncomputable def b_spi_Expect {R : Type} (m : Nat) (ret : List Event → Int → Option R) (k_l7 : Int → Int → Int → Spi → List Event → List Run → Option R) (c_0 : Spi) (l_1 : List Item) : Option R :=
 (spi_Encode m c_0 l_1).bind fun r0 =>
 bif r0.snd != 0 then
 ret [] r0.snd
 else
 k_l7 0 (r0.fst.length : Int) 0 c_0 [] r0.fst
theorem spi_Expect_pre (m : Nat) (c_0 : Spi) (l_1 : List Item) : funK Try.prog (Ψ_spi_Expect m) keep m 1 27 [(dS of_Spi cells_Spi of_Spi_ok).e c_0, (dRow 47).e l_1] = b_spi_Expect m (fun x0 x1 => some (w_spi_Expect (x0, x1))) (fun at_9 t22 t23 c0 in_8 t21 => L_spi_Expect_l7 m m at_9 t22 t23 c0 in_8 t21) c_0 l_1 := by kernel_rfl
theorem b_spi_Expect_map (m : Nat) {k_l7 : Int → Int → Int → Spi → List Event → List Run → Option (List (RV C))} {q_l7 : Int → Int → Int → Spi → List Event → List Run → Option (List Event × Int)} (h_l7 : ∀ at_9 t22 t23 c0 in_8 t21, k_l7 at_9 t22 t23 c0 in_8 t21 = (q_l7 at_9 t22 t23 c0 in_8 t21).map w_spi_Expect) (c_0 : Spi) (l_1 : List Item) : b_spi_Expect m (fun x0 x1 => some (w_spi_Expect (x0, x1))) k_l7 c_0 l_1 = (b_spi_Expect m (fun x0 x1 => some (x0, x1)) q_l7 c_0 l_1).map w_spi_Expect := by
  simp only [b_spi_Expect, cond_map, bind_map, map_none, map_some, h_l7]
noncomputable def spi_Expect (m : Nat) (c_0 : Spi) (l_1 : List Item) : Option (List Event × Int) := b_spi_Expect m (fun x0 x1 => some (x0, x1)) (fun at_9 t22 t23 c0 in_8 t21 => spi_Expect_l7 m m at_9 t22 t23 c0 in_8 t21) c_0 l_1
theorem spi_Expect_fun (m : Nat) (c_0 : Spi) (l_1 : List Item) : funK Try.prog (Ψ_spi_Expect m) keep m 1 27 [(dS of_Spi cells_Spi of_Spi_ok).e c_0, (dRow 47).e l_1] = (spi_Expect m c_0 l_1).map w_spi_Expect := by
  rw [spi_Expect_pre]
  exact b_spi_Expect_map m (fun at_9 t22 t23 c0 in_8 t21 => L_spi_Expect_l7_eq m m at_9 t22 t23 c0 in_8 t21) c_0 l_1
noncomputable def K_spi_Expect (m : Nat) : KnownF C := mkK (dCons (dS of_Spi cells_Spi of_Spi_ok) (dCons (dRow 47) dNil)) (fun a => spi_Expect m a.1 a.2.1) w_spi_Expect
theorem K_spi_Expect_ok (m : Nat) : KnownAt C Try.prog 27 fun l => (K_spi_Expect m).run _ l some :=
  mkK_known good fit (Ψ_spi_Expect_ok m) (keep := keep) (m := m) (d := 1) fun a => spi_Expect_fun m a.1 a.2.1
/-! ### signalbench/signalbenchref24.Events -/
def w_ref24_Events (b : List Event) : List (RV C) := [(dRow 32).e b]
noncomputable def Q_ref24_Events_4 (m : Nat) : St C → (Exit → St C → Option (List (RV C))) → Option (List (RV C)) := fun σ k => codeK Try.prog Ψ0 (callK Try.prog Ψ0 keep m 0) (keep 41) m (subC body41 [.r, .r, .r, .l, .r, .b, .o]) σ k
noncomputable def KL_ref24_Events_4 (m : Nat) : Exit → St C → Option (List (RV C)) := contK Try.prog Ψ0 (callK Try.prog Ψ0 keep m 0) (keep 41) m body41 [.r, .r, .r, .l, .r, .b, .o] (leaveK Try.prog Try.f41.results.toList (finK Try.prog Try.f41.resultTypes.toList))
noncomputable def L_ref24_Events_l4 (m n : Nat) (at_4 : Int) (i_5 : Int) (l_0 : List Run) (out_3 : List Event) : Option (List (RV C)) := iterK (Q_ref24_Events_4 m) (St.norm (keep 41 4)) n ({ T := [.fl (.one (.sl 0)), .dead, .dead, .fl (.one (.sl 1)), .fl (.one (.int .i64 at_4)), .fl (.one (.int .i64 i_5))] ++ List.replicate 32 .dead, F := [[]], H := [.row 54 false l_0, .row 32 true out_3] } : St C) (KL_ref24_Events_4 m)
noncomputable def b_ref24_Events_l4 {R : Type} (m : Nat) (ret : List Event → Option R) (k_l4 : Int → Int → List Run → List Event → Option R) (at_4 : Int) (i_5 : Int) (l_0 : List Run) (out_3 : List Event) : Option R :=
 bif decide (i_5 < (l_0.length : Int)) then
 bif decide (0 ≤ i_5) then
 bif decide (i_5 < (l_0.length : Int)) then
 bif decide (0 ≤ i_5) then
 bif decide (i_5 < (l_0.length : Int)) then
 bif decide ((out_3.length + 1) * 64 ≤ 140737488355328) then
 bif decide (0 ≤ i_5) then
 bif decide (i_5 < (l_0.length : Int)) then
 k_l4 (IntKind.i64.wrap (at_4 + (l_0.getD i_5.toNat dflt_Run).Ticks)) (IntKind.i64.wrap (i_5 + 1)) l_0 (out_3 ++ [Event.mk 1 at_4 (IntKind.i64.wrap (at_4 + (l_0.getD i_5.toNat dflt_Run).Ticks)) (l_0.getD i_5.toNat dflt_Run).Level 0 (bs []) 0])
 else
 none
 else
 none
 else
 none
 else
 none
 else
 none
 else
 none
 else
 none
 else
 ret out_3
theorem L_ref24_Events_l4_step (m n : Nat) (at_4 : Int) (i_5 : Int) (l_0 : List Run) (out_3 : List Event) : L_ref24_Events_l4 m (n + 1) at_4 i_5 l_0 out_3 = b_ref24_Events_l4 m (fun x0 => some (w_ref24_Events x0)) (fun at_4 i_5 l_0 out_3 => L_ref24_Events_l4 m n at_4 i_5 l_0 out_3) at_4 i_5 l_0 out_3 := by kernel_rfl
theorem b_ref24_Events_l4_map (m : Nat) {k_l4 : Int → Int → List Run → List Event → Option (List (RV C))} {q_l4 : Int → Int → List Run → List Event → Option (List Event)} (h_l4 : ∀ at_4 i_5 l_0 out_3, k_l4 at_4 i_5 l_0 out_3 = (q_l4 at_4 i_5 l_0 out_3).map w_ref24_Events) (at_4 : Int) (i_5 : Int) (l_0 : List Run) (out_3 : List Event) : b_ref24_Events_l4 m (fun x0 => some (w_ref24_Events x0)) k_l4 at_4 i_5 l_0 out_3 = (b_ref24_Events_l4 m (fun x0 => some x0) q_l4 at_4 i_5 l_0 out_3).map w_ref24_Events := by
  simp only [b_ref24_Events_l4, cond_map, bind_map, map_none, map_some, h_l4]
noncomputable def ref24_Events_l4 (m : Nat) : Nat → Int → Int → List Run → List Event → Option (List Event)
  | 0, _, _, _, _ => none
  | n + 1, at_4, i_5, l_0, out_3 => b_ref24_Events_l4 m (fun x0 => some x0) (fun at_4 i_5 l_0 out_3 => ref24_Events_l4 m n at_4 i_5 l_0 out_3) at_4 i_5 l_0 out_3
theorem L_ref24_Events_l4_eq (m : Nat) : ∀ (n : Nat) (at_4 : Int) (i_5 : Int) (l_0 : List Run) (out_3 : List Event), L_ref24_Events_l4 m n at_4 i_5 l_0 out_3 = (ref24_Events_l4 m n at_4 i_5 l_0 out_3).map w_ref24_Events
  | 0, at_4, i_5, l_0, out_3 => by kernel_rfl
  | n + 1, at_4, i_5, l_0, out_3 => by
    rw [L_ref24_Events_l4_step]
    exact b_ref24_Events_l4_map m (fun at_4 i_5 l_0 out_3 => L_ref24_Events_l4_eq m n at_4 i_5 l_0 out_3) at_4 i_5 l_0 out_3
noncomputable def b_ref24_Events {R : Type} (m : Nat) (ret : List Event → Option R) (k_l4 : Int → Int → List Run → List Event → Option R) (l_0 : List Run) : Option R :=
 k_l4 0 0 l_0 []
theorem ref24_Events_pre (m : Nat) (l_0 : List Run) : funK Try.prog Ψ0 keep m 1 41 [(dRow 54).e l_0] = b_ref24_Events m (fun x0 => some (w_ref24_Events x0)) (fun at_4 i_5 l_0 out_3 => L_ref24_Events_l4 m m at_4 i_5 l_0 out_3) l_0 := by kernel_rfl
theorem b_ref24_Events_map (m : Nat) {k_l4 : Int → Int → List Run → List Event → Option (List (RV C))} {q_l4 : Int → Int → List Run → List Event → Option (List Event)} (h_l4 : ∀ at_4 i_5 l_0 out_3, k_l4 at_4 i_5 l_0 out_3 = (q_l4 at_4 i_5 l_0 out_3).map w_ref24_Events) (l_0 : List Run) : b_ref24_Events m (fun x0 => some (w_ref24_Events x0)) k_l4 l_0 = (b_ref24_Events m (fun x0 => some x0) q_l4 l_0).map w_ref24_Events := by
  simp only [b_ref24_Events, cond_map, bind_map, map_none, map_some, h_l4]
noncomputable def ref24_Events (m : Nat) (l_0 : List Run) : Option (List Event) := b_ref24_Events m (fun x0 => some x0) (fun at_4 i_5 l_0 out_3 => ref24_Events_l4 m m at_4 i_5 l_0 out_3) l_0
theorem ref24_Events_fun (m : Nat) (l_0 : List Run) : funK Try.prog Ψ0 keep m 1 41 [(dRow 54).e l_0] = (ref24_Events m l_0).map w_ref24_Events := by
  rw [ref24_Events_pre]
  exact b_ref24_Events_map m (fun at_4 i_5 l_0 out_3 => L_ref24_Events_l4_eq m m at_4 i_5 l_0 out_3) l_0
noncomputable def K_ref24_Events (m : Nat) : KnownF C := mkK (dCons (dRow 54) dNil) (fun a => ref24_Events m a.1) w_ref24_Events
theorem K_ref24_Events_ok (m : Nat) : KnownAt C Try.prog 41 fun l => (K_ref24_Events m).run _ l some :=
  mkK_known good fit Ψ0_ok (keep := keep) (m := m) (d := 1) fun a => ref24_Events_fun m a.1
/-! ### signalbench/signalbenchref24.Expect -/
noncomputable def Ψ_ref24_Expect (m : Nat) : Known C := fun f => match f with
  | 26 => some (K_ref24_Encode m)
  | 41 => some (K_ref24_Events m)
  | 20 => some (K_ref24_Decode m)
  | _ => none
theorem Ψ_ref24_Expect_ok (m : Nat) : KnownOk C Try.prog (Ψ_ref24_Expect m) := by
  intro f φ h
  unfold Ψ_ref24_Expect at h
  split at h
  · injection h with h; subst h; exact K_ref24_Encode_ok m
  · injection h with h; subst h; exact K_ref24_Events_ok m
  · injection h with h; subst h; exact K_ref24_Decode_ok m
  · cases h
def w_ref24_Expect (b : List Event × Int) : List (RV C) := [(dRow 32).e b.1, (dInt .i64).e b.2]
noncomputable def b_ref24_Expect {R : Type} (m : Nat) (ret : List Event → Int → Option R) (c_0 : Spi) (l_1 : List Item) : Option R :=
 (ref24_Encode m c_0 l_1).bind fun r0 =>
 bif r0.snd != 0 then
 ret [] r0.snd
 else
 (ref24_Events m r0.fst).bind fun r1 =>
 (ref24_Decode m c_0 r1).bind fun r2 =>
 ret r2 0
theorem ref24_Expect_pre (m : Nat) (c_0 : Spi) (l_1 : List Item) : funK Try.prog (Ψ_ref24_Expect m) keep m 1 28 [(dS of_Spi cells_Spi of_Spi_ok).e c_0, (dRow 47).e l_1] = b_ref24_Expect m (fun x0 x1 => some (w_ref24_Expect (x0, x1))) c_0 l_1 := by kernel_rfl
theorem b_ref24_Expect_map (m : Nat) (c_0 : Spi) (l_1 : List Item) : b_ref24_Expect m (fun x0 x1 => some (w_ref24_Expect (x0, x1))) c_0 l_1 = (b_ref24_Expect m (fun x0 x1 => some (x0, x1)) c_0 l_1).map w_ref24_Expect := by
  simp only [b_ref24_Expect, cond_map, bind_map, map_none, map_some]
noncomputable def ref24_Expect (m : Nat) (c_0 : Spi) (l_1 : List Item) : Option (List Event × Int) := b_ref24_Expect m (fun x0 x1 => some (x0, x1)) c_0 l_1
theorem ref24_Expect_fun (m : Nat) (c_0 : Spi) (l_1 : List Item) : funK Try.prog (Ψ_ref24_Expect m) keep m 1 28 [(dS of_Spi cells_Spi of_Spi_ok).e c_0, (dRow 47).e l_1] = (ref24_Expect m c_0 l_1).map w_ref24_Expect := by
  rw [ref24_Expect_pre]
  exact b_ref24_Expect_map m c_0 l_1
noncomputable def K_ref24_Expect (m : Nat) : KnownF C := mkK (dCons (dS of_Spi cells_Spi of_Spi_ok) (dCons (dRow 47) dNil)) (fun a => ref24_Expect m a.1 a.2.1) w_ref24_Expect
theorem K_ref24_Expect_ok (m : Nat) : KnownAt C Try.prog 28 fun l => (K_ref24_Expect m).run _ l some :=
  mkK_known good fit (Ψ_ref24_Expect_ok m) (keep := keep) (m := m) (d := 1) fun a => ref24_Expect_fun m a.1 a.2.1
/-! ### signalbench/signalbenchlaw24.SpiEncodes -/
noncomputable def Ψ_law24_SpiEncodes (m : Nat) : Known C := fun f => match f with
  | 9 => some (K_law24_lives m)
  | 21 => some (K_law24_few m)
  | 22 => some (K_spi_Encode m)
  | 26 => some (K_ref24_Encode m)
  | 27 => some (K_spi_Expect m)
  | 28 => some (K_ref24_Expect m)
  | 14 => some (K_law24_same m)
  | _ => none
theorem Ψ_law24_SpiEncodes_ok (m : Nat) : KnownOk C Try.prog (Ψ_law24_SpiEncodes m) := by
  intro f φ h
  unfold Ψ_law24_SpiEncodes at h
  split at h
  · injection h with h; subst h; exact K_law24_lives_ok m
  · injection h with h; subst h; exact K_law24_few_ok m
  · injection h with h; subst h; exact K_spi_Encode_ok m
  · injection h with h; subst h; exact K_ref24_Encode_ok m
  · injection h with h; subst h; exact K_spi_Expect_ok m
  · injection h with h; subst h; exact K_ref24_Expect_ok m
  · injection h with h; subst h; exact K_law24_same_ok m
  · cases h
def w_law24_SpiEncodes (b : Bool) : List (RV C) := [dBool.e b]
noncomputable def Q_law24_SpiEncodes_10 (m : Nat) : St C → (Exit → St C → Option (List (RV C))) → Option (List (RV C)) := fun σ k => codeK Try.prog (Ψ_law24_SpiEncodes m) (callK Try.prog (Ψ_law24_SpiEncodes m) keep m 0) (keep 8) m (subC body8 [.r, .r, .r, .r, .r, .r, .l, .r, .b, .o]) σ k
noncomputable def KL_law24_SpiEncodes_10 (m : Nat) : Exit → St C → Option (List (RV C)) := contK Try.prog (Ψ_law24_SpiEncodes m) (callK Try.prog (Ψ_law24_SpiEncodes m) keep m 0) (keep 8) m body8 [.r, .r, .r, .r, .r, .r, .l, .r, .b, .o] (leaveK Try.prog Try.f8.results.toList (finK Try.prog Try.f8.resultTypes.toList))
noncomputable def L_law24_SpiEncodes_l10 (m n : Nat) (i_9 : Int) (l_1 : List Item) (c1 : Spi) (a_5 : List Run) (b_7 : List Run) : Option (List (RV C)) := iterK (Q_law24_SpiEncodes_10 m) (St.norm (keep 8 10)) n ({ T := [.dead, .fl (.one (.sl 0)), .fl (.one (.ptr 1 0)), .dead, .dead, .fl (.one (.sl 2)), .dead, .fl (.one (.sl 3)), .dead, .fl (.one (.int .i64 i_9))] ++ List.replicate 66 .dead, F := [[]], H := [.row 47 false l_1, .box 23 (cells_Spi c1), .row 54 true a_5, .row 54 true b_7] } : St C) (KL_law24_SpiEncodes_10 m)
noncomputable def b_law24_SpiEncodes_l10 {R : Type} (m : Nat) (ret : Bool → Option R) (k_l10 : Int → List Item → Spi → List Run → List Run → Option R) (i_9 : Int) (l_1 : List Item) (c1 : Spi) (a_5 : List Run) (b_7 : List Run) : Option R :=
 bif decide (i_9 < (a_5.length : Int)) then
 bif decide (0 ≤ i_9) then
 bif decide (i_9 < (a_5.length : Int)) then
 bif decide (0 ≤ i_9) then
 bif decide (i_9 < (b_7.length : Int)) then
 bif !((a_5.getD i_9.toNat dflt_Run).Level == (b_7.getD i_9.toNat dflt_Run).Level && ((a_5.getD i_9.toNat dflt_Run).Ticks == (b_7.getD i_9.toNat dflt_Run).Ticks && true)) then
 ret false
 else
 k_l10 (IntKind.i64.wrap (i_9 + 1)) l_1 c1 a_5 b_7
 else
 none
 else
 none
 else
 none
 else
 none
 else
 (spi_Expect m c1 l_1).bind fun r0 =>
 (ref24_Expect m c1 l_1).bind fun r1 =>
 bif r0.snd == r1.snd then
 ((law24_same m r0.fst r1.fst).bind fun r2 =>
 ret r2)
 else
 ret false
theorem L_law24_SpiEncodes_l10_step (m n : Nat) (i_9 : Int) (l_1 : List Item) (c1 : Spi) (a_5 : List Run) (b_7 : List Run) : L_law24_SpiEncodes_l10 m (n + 1) i_9 l_1 c1 a_5 b_7 = b_law24_SpiEncodes_l10 m (fun x0 => some (w_law24_SpiEncodes x0)) (fun i_9 l_1 c1 a_5 b_7 => L_law24_SpiEncodes_l10 m n i_9 l_1 c1 a_5 b_7) i_9 l_1 c1 a_5 b_7 := by kernel_rfl
theorem b_law24_SpiEncodes_l10_map (m : Nat) {k_l10 : Int → List Item → Spi → List Run → List Run → Option (List (RV C))} {q_l10 : Int → List Item → Spi → List Run → List Run → Option (Bool)} (h_l10 : ∀ i_9 l_1 c1 a_5 b_7, k_l10 i_9 l_1 c1 a_5 b_7 = (q_l10 i_9 l_1 c1 a_5 b_7).map w_law24_SpiEncodes) (i_9 : Int) (l_1 : List Item) (c1 : Spi) (a_5 : List Run) (b_7 : List Run) : b_law24_SpiEncodes_l10 m (fun x0 => some (w_law24_SpiEncodes x0)) k_l10 i_9 l_1 c1 a_5 b_7 = (b_law24_SpiEncodes_l10 m (fun x0 => some x0) q_l10 i_9 l_1 c1 a_5 b_7).map w_law24_SpiEncodes := by
  simp only [b_law24_SpiEncodes_l10, cond_map, bind_map, map_none, map_some, h_l10]
noncomputable def law24_SpiEncodes_l10 (m : Nat) : Nat → Int → List Item → Spi → List Run → List Run → Option (Bool)
  | 0, _, _, _, _, _ => none
  | n + 1, i_9, l_1, c1, a_5, b_7 => b_law24_SpiEncodes_l10 m (fun x0 => some x0) (fun i_9 l_1 c1 a_5 b_7 => law24_SpiEncodes_l10 m n i_9 l_1 c1 a_5 b_7) i_9 l_1 c1 a_5 b_7
theorem L_law24_SpiEncodes_l10_eq (m : Nat) : ∀ (n : Nat) (i_9 : Int) (l_1 : List Item) (c1 : Spi) (a_5 : List Run) (b_7 : List Run), L_law24_SpiEncodes_l10 m n i_9 l_1 c1 a_5 b_7 = (law24_SpiEncodes_l10 m n i_9 l_1 c1 a_5 b_7).map w_law24_SpiEncodes
  | 0, i_9, l_1, c1, a_5, b_7 => by kernel_rfl
  | n + 1, i_9, l_1, c1, a_5, b_7 => by
    rw [L_law24_SpiEncodes_l10_step]
    exact b_law24_SpiEncodes_l10_map m (fun i_9 l_1 c1 a_5 b_7 => L_law24_SpiEncodes_l10_eq m n i_9 l_1 c1 a_5 b_7) i_9 l_1 c1 a_5 b_7
noncomputable def b_law24_SpiEncodes {R : Type} (m : Nat) (ret : Bool → Option R) (k_l10 : Int → List Item → Spi → List Run → List Run → Option R) (c_0 : Spi) (l_1 : List Item) : Option R :=
 (law24_lives m).bind fun r0 =>
 bif !r0 then
 ret false
 else
 (law24_few m l_1).bind fun r1 =>
 bif !r1 then
 ret true
 else
 (spi_Encode m c_0 l_1).bind fun r2 =>
 (ref24_Encode m c_0 l_1).bind fun r3 =>
 bif r2.snd != r3.snd then
 ret false
 else
 bif (r2.fst.length : Int) != (r3.fst.length : Int) then
 ret false
 else
 k_l10 0 l_1 c_0 r2.fst r3.fst
theorem law24_SpiEncodes_pre (m : Nat) (c_0 : Spi) (l_1 : List Item) : funK Try.prog (Ψ_law24_SpiEncodes m) keep m 1 8 [(dS of_Spi cells_Spi of_Spi_ok).e c_0, (dRow 47).e l_1] = b_law24_SpiEncodes m (fun x0 => some (w_law24_SpiEncodes x0)) (fun i_9 l_1 c1 a_5 b_7 => L_law24_SpiEncodes_l10 m m i_9 l_1 c1 a_5 b_7) c_0 l_1 := by kernel_rfl
theorem b_law24_SpiEncodes_map (m : Nat) {k_l10 : Int → List Item → Spi → List Run → List Run → Option (List (RV C))} {q_l10 : Int → List Item → Spi → List Run → List Run → Option (Bool)} (h_l10 : ∀ i_9 l_1 c1 a_5 b_7, k_l10 i_9 l_1 c1 a_5 b_7 = (q_l10 i_9 l_1 c1 a_5 b_7).map w_law24_SpiEncodes) (c_0 : Spi) (l_1 : List Item) : b_law24_SpiEncodes m (fun x0 => some (w_law24_SpiEncodes x0)) k_l10 c_0 l_1 = (b_law24_SpiEncodes m (fun x0 => some x0) q_l10 c_0 l_1).map w_law24_SpiEncodes := by
  simp only [b_law24_SpiEncodes, cond_map, bind_map, map_none, map_some, h_l10]
noncomputable def law24_SpiEncodes (m : Nat) (c_0 : Spi) (l_1 : List Item) : Option (Bool) := b_law24_SpiEncodes m (fun x0 => some x0) (fun i_9 l_1 c1 a_5 b_7 => law24_SpiEncodes_l10 m m i_9 l_1 c1 a_5 b_7) c_0 l_1
theorem law24_SpiEncodes_fun (m : Nat) (c_0 : Spi) (l_1 : List Item) : funK Try.prog (Ψ_law24_SpiEncodes m) keep m 1 8 [(dS of_Spi cells_Spi of_Spi_ok).e c_0, (dRow 47).e l_1] = (law24_SpiEncodes m c_0 l_1).map w_law24_SpiEncodes := by
  rw [law24_SpiEncodes_pre]
  exact b_law24_SpiEncodes_map m (fun i_9 l_1 c1 a_5 b_7 => L_law24_SpiEncodes_l10_eq m m i_9 l_1 c1 a_5 b_7) c_0 l_1
noncomputable def K_law24_SpiEncodes (m : Nat) : KnownF C := mkK (dCons (dS of_Spi cells_Spi of_Spi_ok) (dCons (dRow 47) dNil)) (fun a => law24_SpiEncodes m a.1 a.2.1) w_law24_SpiEncodes
theorem K_law24_SpiEncodes_ok (m : Nat) : KnownAt C Try.prog 8 fun l => (K_law24_SpiEncodes m).run _ l some :=
  mkK_known good fit (Ψ_law24_SpiEncodes_ok m) (keep := keep) (m := m) (d := 1) fun a => law24_SpiEncodes_fun m a.1 a.2.1
end Go.Abs.K
