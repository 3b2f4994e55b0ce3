/- Plain functions for the functions of the seat, printed by a program of this claim's own, with their proofs. -/
import Derived.Test.YtllgkfhpfonjnaaF1
set_option linter.unusedVariables false
set_option linter.unusedSimpArgs false
set_option maxRecDepth 100000
namespace Go.Abs.K
open Go Go.Abs Go.Proofs
/-! ### signalbench/signalbenchref15.Encode -/
noncomputable def Ψ_ref15_Encode (m : Nat) : Known C := fun f => match f with
  | 14 => some (K_ref15_Check m)
  | 40 => some (K_ref15_item m)
  | 35 => some (K_ref15_Boundary m)
  | _ => none
theorem Ψ_ref15_Encode_ok (m : Nat) : KnownOk C Try.prog (Ψ_ref15_Encode m) := by
  intro f φ h
  unfold Ψ_ref15_Encode at h
  split at h
  · injection h with h; subst h; exact K_ref15_Check_ok m
  · injection h with h; subst h; exact K_ref15_item_ok m
  · injection h with h; subst h; exact K_ref15_Boundary_ok m
  · cases h
def w_ref15_Encode (b : List Run × Int) : List (RV C) := [(dRow 54).e b.1, (dInt .i64).e b.2]
noncomputable def Q_ref15_Encode_7 (m : Nat) : St C → (Exit → St C → Option (List (RV C))) → Option (List (RV C)) := fun σ k => codeK Try.prog (Ψ_ref15_Encode m) (callK Try.prog (Ψ_ref15_Encode m) keep m 0) (keep 24) m (subC body24 [.r, .r, .r, .l, .r, .b, .o]) σ k
noncomputable def KL_ref15_Encode_7 (m : Nat) : Exit → St C → Option (List (RV C)) := contK Try.prog (Ψ_ref15_Encode m) (callK Try.prog (Ψ_ref15_Encode m) keep m 0) (keep 24) m body24 [.r, .r, .r, .l, .r, .b, .o] (leaveK Try.prog Try.f24.results.toList (finK Try.prog Try.f24.resultTypes.toList))
noncomputable def Q_ref15_Encode_15 (m : Nat) : St C → (Exit → St C → Option (List (RV C))) → Option (List (RV C)) := fun σ k => codeK Try.prog (Ψ_ref15_Encode m) (callK Try.prog (Ψ_ref15_Encode m) keep m 0) (keep 24) m (subC body24 [.r, .r, .r, .r, .r, .r, .l, .r, .b, .o]) σ k
noncomputable def KL_ref15_Encode_15 (m : Nat) : Exit → St C → Option (List (RV C)) := contK Try.prog (Ψ_ref15_Encode m) (callK Try.prog (Ψ_ref15_Encode m) keep m 0) (keep 24) m body24 [.r, .r, .r, .r, .r, .r, .l, .r, .b, .o] (leaveK Try.prog Try.f24.results.toList (finK Try.prog Try.f24.resultTypes.toList))
noncomputable def Q_ref15_Encode_18 (m : Nat) : St C → (Exit → St C → Option (List (RV C))) → Option (List (RV C)) := fun σ k => codeK Try.prog (Ψ_ref15_Encode m) (callK Try.prog (Ψ_ref15_Encode m) keep m 0) (keep 24) m (subC (subC body24 [.r, .r, .r, .r, .r, .r, .l, .r, .b, .o]) [.r, .l, .b, .r, .b, .o]) σ k
noncomputable def KL_ref15_Encode_18 (m : Nat) (n15 : Nat) : Exit → St C → Option (List (RV C)) := contK Try.prog (Ψ_ref15_Encode m) (callK Try.prog (Ψ_ref15_Encode m) keep m 0) (keep 24) m (subC body24 [.r, .r, .r, .r, .r, .r, .l, .r, .b, .o]) [.r, .l, .b, .r, .b, .o] (rndK (Q_ref15_Encode_15 m) (St.norm (keep 24 15)) n15 (KL_ref15_Encode_15 m))
noncomputable def L_ref15_Encode_l7 (m n : Nat) (i_7 : Int) (l_1 : List Item) (c1 : Clock) : Option (List (RV C)) := iterK (Q_ref15_Encode_7 m) (St.norm (keep 24 7)) n ({ T := [.dead, .fl (.one (.sl 0)), .fl (.one (.ptr 1 0)), .dead, .dead, .dead, .dead, .fl (.one (.int .i64 i_7))] ++ List.replicate 108 .dead, F := [[]], H := [.row 49 false l_1, .box 25 (cells_Clock c1)] } : St C) (KL_ref15_Encode_7 m)
noncomputable def L_ref15_Encode_l15 (m n : Nat) (n_10 : Int) (i_11 : Int) (l_1 : List Item) (c1 : Clock) (out_9 : List Run) : Option (List (RV C)) := iterK (Q_ref15_Encode_15 m) (St.norm (keep 24 15)) n ({ T := [.dead, .fl (.one (.sl 0)), .fl (.one (.ptr 1 0)), .dead, .dead, .dead, .dead, .dead, .dead, .fl (.one (.sl 2)), .fl (.one (.int .i64 n_10)), .fl (.one (.int .i64 i_11))] ++ List.replicate 104 .dead, F := [[]], H := [.row 49 false l_1, .box 25 (cells_Clock c1), .row 54 true out_9] } : St C) (KL_ref15_Encode_15 m)
noncomputable def L_ref15_Encode_l18 (m n15 n : Nat) (n_10 : Int) (i_11 : Int) (k_12 : Int) (l_1 : List Item) (c1 : Clock) (out_9 : List Run) : Option (List (RV C)) := iterK (Q_ref15_Encode_18 m) (St.norm (keep 24 18)) n ({ T := [.dead, .fl (.one (.sl 0)), .fl (.one (.ptr 1 0)), .dead, .dead, .dead, .dead, .dead, .dead, .fl (.one (.sl 2)), .fl (.one (.int .i64 n_10)), .fl (.one (.int .i64 i_11)), .fl (.one (.int .i64 k_12))] ++ List.replicate 103 .dead, F := [[]], H := [.row 49 false l_1, .box 25 (cells_Clock c1), .row 54 true out_9] } : St C) (KL_ref15_Encode_18 m n15)
noncomputable def b_ref15_Encode_l18 {R : Type} (m : Nat) (ret : List Run → Int → Option R) (k_l18 : Int → Int → Int → List Item → Clock → List Run → Option R) (k_l15 : Int → Int → List Item → Clock → List Run → Option R) (n_10 : Int) (i_11 : Int) (k_12 : Int) (l_1 : List Item) (c1 : Clock) (out_9 : List Run) : Option R :=
 bif decide (0 ≤ i_11) then
 (bif decide (i_11 < (l_1.length : Int)) then
 (bif decide (k_12 < ((l_1.getD i_11.toNat dflt_Item).Data.size : Int)) then
 (bif decide (0 ≤ i_11) then
 (bif decide (i_11 < (l_1.length : Int)) then
 (bif decide (0 ≤ k_12) then
 (bif decide (k_12 < ((l_1.getD i_11.toNat dflt_Item).Data.size : Int)) then
 ((ref15_Boundary m (Ratio.mk c1.T_Num c1.T_Den) (IntKind.i64.wrap (n_10 + 1))).bind fun r0 =>
 (ref15_Boundary m (Ratio.mk c1.T_Num c1.T_Den) n_10).bind fun r1 =>
 bif decide (IntKind.i64.wrap ((out_9.length : Int) - 1) ≥ 0) then
 bif decide (0 ≤ IntKind.i64.wrap ((out_9.length : Int) - 1)) then
 bif decide (IntKind.i64.wrap ((out_9.length : Int) - 1) < (out_9.length : Int)) then
 bif (out_9.getD (IntKind.i64.wrap ((out_9.length : Int) - 1)).toNat dflt_Run).Level == IntKind.i64.wrap (IntKind.u8.wrap (byteAt (l_1.getD i_11.toNat dflt_Item).Data k_12 - 48)) then
 bif decide (0 ≤ IntKind.i64.wrap ((out_9.length : Int) - 1)) then
 bif decide (IntKind.i64.wrap ((out_9.length : Int) - 1) < (out_9.length : Int)) then
 bif decide (0 ≤ IntKind.i64.wrap ((out_9.length : Int) - 1)) then
 bif decide (IntKind.i64.wrap ((out_9.length : Int) - 1) < (out_9.length : Int)) then
 k_l18 (IntKind.i64.wrap (n_10 + 1)) i_11 (IntKind.i64.wrap (k_12 + 1)) l_1 c1 (out_9.set (IntKind.i64.wrap ((out_9.length : Int) - 1)).toNat (Run.mk (out_9.getD (IntKind.i64.wrap ((out_9.length : Int) - 1)).toNat dflt_Run).Level (IntKind.i64.wrap ((out_9.getD (IntKind.i64.wrap ((out_9.length : Int) - 1)).toNat dflt_Run).Ticks + IntKind.i64.wrap (r0 - r1)))))
 else
 none
 else
 none
 else
 none
 else
 none
 else
 bif decide ((out_9.length + 1) * 16 ≤ 140737488355328) then
 k_l18 (IntKind.i64.wrap (n_10 + 1)) i_11 (IntKind.i64.wrap (k_12 + 1)) l_1 c1 (out_9 ++ [Run.mk (IntKind.i64.wrap (IntKind.u8.wrap (byteAt (l_1.getD i_11.toNat dflt_Item).Data k_12 - 48))) (IntKind.i64.wrap (r0 - r1))])
 else
 none
 else
 none
 else
 none
 else
 bif decide ((out_9.length + 1) * 16 ≤ 140737488355328) then
 k_l18 (IntKind.i64.wrap (n_10 + 1)) i_11 (IntKind.i64.wrap (k_12 + 1)) l_1 c1 (out_9 ++ [Run.mk (IntKind.i64.wrap (IntKind.u8.wrap (byteAt (l_1.getD i_11.toNat dflt_Item).Data k_12 - 48))) (IntKind.i64.wrap (r0 - r1))])
 else
 none)
 else
 none)
 else
 none)
 else
 none)
 else
 none)
 else
 k_l15 n_10 (IntKind.i64.wrap (i_11 + 1)) l_1 c1 out_9)
 else
 none)
 else
 none
theorem L_ref15_Encode_l18_step (m n15 n : Nat) (n_10 : Int) (i_11 : Int) (k_12 : Int) (l_1 : List Item) (c1 : Clock) (out_9 : List Run) : L_ref15_Encode_l18 m n15 (n + 1) n_10 i_11 k_12 l_1 c1 out_9 = b_ref15_Encode_l18 m (fun x0 x1 => some (w_ref15_Encode (x0, x1))) (fun n_10 i_11 k_12 l_1 c1 out_9 => L_ref15_Encode_l18 m n15 n n_10 i_11 k_12 l_1 c1 out_9) (fun n_10 i_11 l_1 c1 out_9 => L_ref15_Encode_l15 m n15 n_10 i_11 l_1 c1 out_9) n_10 i_11 k_12 l_1 c1 out_9 := by kernel_rfl
theorem b_ref15_Encode_l18_map (m : Nat) {k_l18 : Int → Int → Int → List Item → Clock → List Run → Option (List (RV C))} {q_l18 : Int → Int → Int → List Item → Clock → List Run → Option (List Run × Int)} (h_l18 : ∀ n_10 i_11 k_12 l_1 c1 out_9, k_l18 n_10 i_11 k_12 l_1 c1 out_9 = (q_l18 n_10 i_11 k_12 l_1 c1 out_9).map w_ref15_Encode) {k_l15 : Int → Int → List Item → Clock → List Run → Option (List (RV C))} {q_l15 : Int → Int → List Item → Clock → List Run → Option (List Run × Int)} (h_l15 : ∀ n_10 i_11 l_1 c1 out_9, k_l15 n_10 i_11 l_1 c1 out_9 = (q_l15 n_10 i_11 l_1 c1 out_9).map w_ref15_Encode) (n_10 : Int) (i_11 : Int) (k_12 : Int) (l_1 : List Item) (c1 : Clock) (out_9 : List Run) : b_ref15_Encode_l18 m (fun x0 x1 => some (w_ref15_Encode (x0, x1))) k_l18 k_l15 n_10 i_11 k_12 l_1 c1 out_9 = (b_ref15_Encode_l18 m (fun x0 x1 => some (x0, x1)) q_l18 q_l15 n_10 i_11 k_12 l_1 c1 out_9).map w_ref15_Encode := by
  simp only [b_ref15_Encode_l18, cond_map, bind_map, map_none, map_some, h_l18, h_l15]
noncomputable def ref15_Encode_l18 (m : Nat) (q_l15 : Int → Int → List Item → Clock → List Run → Option (List Run × Int)) : Nat → Int → Int → Int → List Item → Clock → List Run → Option (List Run × Int)
  | 0, _, _, _, _, _, _ => none
  | n + 1, n_10, i_11, k_12, l_1, c1, out_9 => b_ref15_Encode_l18 m (fun x0 x1 => some (x0, x1)) (fun n_10 i_11 k_12 l_1 c1 out_9 => ref15_Encode_l18 m q_l15 n n_10 i_11 k_12 l_1 c1 out_9) q_l15 n_10 i_11 k_12 l_1 c1 out_9
theorem L_ref15_Encode_l18_eq (m n15 : Nat) (q_l15 : Int → Int → List Item → Clock → List Run → Option (List Run × Int)) (h_l15 : ∀ n_10 i_11 l_1 c1 out_9, L_ref15_Encode_l15 m n15 n_10 i_11 l_1 c1 out_9 = (q_l15 n_10 i_11 l_1 c1 out_9).map w_ref15_Encode) : ∀ (n : Nat) (n_10 : Int) (i_11 : Int) (k_12 : Int) (l_1 : List Item) (c1 : Clock) (out_9 : List Run), L_ref15_Encode_l18 m n15 n n_10 i_11 k_12 l_1 c1 out_9 = (ref15_Encode_l18 m q_l15 n n_10 i_11 k_12 l_1 c1 out_9).map w_ref15_Encode
  | 0, n_10, i_11, k_12, l_1, c1, out_9 => by kernel_rfl
  | n + 1, n_10, i_11, k_12, l_1, c1, out_9 => by
    rw [L_ref15_Encode_l18_step]
    exact b_ref15_Encode_l18_map m (fun n_10 i_11 k_12 l_1 c1 out_9 => L_ref15_Encode_l18_eq m n15 q_l15 h_l15 n n_10 i_11 k_12 l_1 c1 out_9) h_l15 n_10 i_11 k_12 l_1 c1 out_9
noncomputable def b_ref15_Encode_l15 {R : Type} (m : Nat) (ret : List Run → Int → Option R) (k_l18 : Int → Int → Int → List Item → Clock → List Run → Option R) (n_10 : Int) (i_11 : Int) (l_1 : List Item) (c1 : Clock) (out_9 : List Run) : Option R :=
 bif decide (i_11 < (l_1.length : Int)) then
 k_l18 n_10 i_11 0 l_1 c1 out_9
 else
 bif decide ((out_9.length : Int) > 262144) then
 ret [] 6
 else
 (ref15_Boundary m (Ratio.mk c1.T_Num c1.T_Den) n_10).bind fun r0 =>
 bif decide (r0 > 1099511627776) then
 ret [] 2
 else
 ret out_9 0
theorem L_ref15_Encode_l15_step (m n : Nat) (n_10 : Int) (i_11 : Int) (l_1 : List Item) (c1 : Clock) (out_9 : List Run) : L_ref15_Encode_l15 m (n + 1) n_10 i_11 l_1 c1 out_9 = b_ref15_Encode_l15 m (fun x0 x1 => some (w_ref15_Encode (x0, x1))) (fun n_10 i_11 k_12 l_1 c1 out_9 => L_ref15_Encode_l18 m n m n_10 i_11 k_12 l_1 c1 out_9) n_10 i_11 l_1 c1 out_9 := by kernel_rfl
theorem b_ref15_Encode_l15_map (m : Nat) {k_l18 : Int → Int → Int → List Item → Clock → List Run → Option (List (RV C))} {q_l18 : Int → Int → Int → List Item → Clock → List Run → Option (List Run × Int)} (h_l18 : ∀ n_10 i_11 k_12 l_1 c1 out_9, k_l18 n_10 i_11 k_12 l_1 c1 out_9 = (q_l18 n_10 i_11 k_12 l_1 c1 out_9).map w_ref15_Encode) (n_10 : Int) (i_11 : Int) (l_1 : List Item) (c1 : Clock) (out_9 : List Run) : b_ref15_Encode_l15 m (fun x0 x1 => some (w_ref15_Encode (x0, x1))) k_l18 n_10 i_11 l_1 c1 out_9 = (b_ref15_Encode_l15 m (fun x0 x1 => some (x0, x1)) q_l18 n_10 i_11 l_1 c1 out_9).map w_ref15_Encode := by
  simp only [b_ref15_Encode_l15, cond_map, bind_map, map_none, map_some, h_l18]
noncomputable def ref15_Encode_l15 (m : Nat) : Nat → Int → Int → List Item → Clock → List Run → Option (List Run × Int)
  | 0, _, _, _, _, _ => none
  | n + 1, n_10, i_11, l_1, c1, out_9 => b_ref15_Encode_l15 m (fun x0 x1 => some (x0, x1)) (fun n_10 i_11 k_12 l_1 c1 out_9 => ref15_Encode_l18 m (fun n_10 i_11 l_1 c1 out_9 => ref15_Encode_l15 m n n_10 i_11 l_1 c1 out_9) m n_10 i_11 k_12 l_1 c1 out_9) n_10 i_11 l_1 c1 out_9
theorem L_ref15_Encode_l15_eq (m : Nat) : ∀ (n : Nat) (n_10 : Int) (i_11 : Int) (l_1 : List Item) (c1 : Clock) (out_9 : List Run), L_ref15_Encode_l15 m n n_10 i_11 l_1 c1 out_9 = (ref15_Encode_l15 m n n_10 i_11 l_1 c1 out_9).map w_ref15_Encode
  | 0, n_10, i_11, l_1, c1, out_9 => by kernel_rfl
  | n + 1, n_10, i_11, l_1, c1, out_9 => by
    rw [L_ref15_Encode_l15_step]
    exact b_ref15_Encode_l15_map m (fun n_10 i_11 k_12 l_1 c1 out_9 => L_ref15_Encode_l18_eq m n (fun n_10 i_11 l_1 c1 out_9 => ref15_Encode_l15 m n n_10 i_11 l_1 c1 out_9) (fun n_10 i_11 l_1 c1 out_9 => L_ref15_Encode_l15_eq m n n_10 i_11 l_1 c1 out_9) m n_10 i_11 k_12 l_1 c1 out_9) n_10 i_11 l_1 c1 out_9
noncomputable def b_ref15_Encode_l7 {R : Type} (m : Nat) (ret : List Run → Int → Option R) (k_l7 : Int → List Item → Clock → Option R) (k_l15 : Int → Int → List Item → Clock → List Run → Option R) (i_7 : Int) (l_1 : List Item) (c1 : Clock) : Option R :=
 bif decide (i_7 < (l_1.length : Int)) then
 (bif decide (0 ≤ i_7) then
 (bif decide (i_7 < (l_1.length : Int)) then
 ((ref15_item m (l_1.getD i_7.toNat dflt_Item)).bind fun r0 =>
 bif r0 != 0 then
 ret [] r0
 else
 k_l7 (IntKind.i64.wrap (i_7 + 1)) l_1 c1)
 else
 none)
 else
 none)
 else
 k_l15 0 0 l_1 c1 []
theorem L_ref15_Encode_l7_step (m n : Nat) (i_7 : Int) (l_1 : List Item) (c1 : Clock) : L_ref15_Encode_l7 m (n + 1) i_7 l_1 c1 = b_ref15_Encode_l7 m (fun x0 x1 => some (w_ref15_Encode (x0, x1))) (fun i_7 l_1 c1 => L_ref15_Encode_l7 m n i_7 l_1 c1) (fun n_10 i_11 l_1 c1 out_9 => L_ref15_Encode_l15 m m n_10 i_11 l_1 c1 out_9) i_7 l_1 c1 := by kernel_rfl
theorem b_ref15_Encode_l7_map (m : Nat) {k_l7 : Int → List Item → Clock → Option (List (RV C))} {q_l7 : Int → List Item → Clock → Option (List Run × Int)} (h_l7 : ∀ i_7 l_1 c1, k_l7 i_7 l_1 c1 = (q_l7 i_7 l_1 c1).map w_ref15_Encode) {k_l15 : Int → Int → List Item → Clock → List Run → Option (List (RV C))} {q_l15 : Int → Int → List Item → Clock → List Run → Option (List Run × Int)} (h_l15 : ∀ n_10 i_11 l_1 c1 out_9, k_l15 n_10 i_11 l_1 c1 out_9 = (q_l15 n_10 i_11 l_1 c1 out_9).map w_ref15_Encode) (i_7 : Int) (l_1 : List Item) (c1 : Clock) : b_ref15_Encode_l7 m (fun x0 x1 => some (w_ref15_Encode (x0, x1))) k_l7 k_l15 i_7 l_1 c1 = (b_ref15_Encode_l7 m (fun x0 x1 => some (x0, x1)) q_l7 q_l15 i_7 l_1 c1).map w_ref15_Encode := by
  simp only [b_ref15_Encode_l7, cond_map, bind_map, map_none, map_some, h_l7, h_l15]
noncomputable def ref15_Encode_l7 (m : Nat) : Nat → Int → List Item → Clock → Option (List Run × Int)
  | 0, _, _, _ => none
  | n + 1, i_7, l_1, c1 => b_ref15_Encode_l7 m (fun x0 x1 => some (x0, x1)) (fun i_7 l_1 c1 => ref15_Encode_l7 m n i_7 l_1 c1) (fun n_10 i_11 l_1 c1 out_9 => ref15_Encode_l15 m m n_10 i_11 l_1 c1 out_9) i_7 l_1 c1
theorem L_ref15_Encode_l7_eq (m : Nat) : ∀ (n : Nat) (i_7 : Int) (l_1 : List Item) (c1 : Clock), L_ref15_Encode_l7 m n i_7 l_1 c1 = (ref15_Encode_l7 m n i_7 l_1 c1).map w_ref15_Encode
  | 0, i_7, l_1, c1 => by kernel_rfl
  | n + 1, i_7, l_1, c1 => by
    rw [L_ref15_Encode_l7_step]
    exact b_ref15_Encode_l7_map m (fun i_7 l_1 c1 => L_ref15_Encode_l7_eq m n i_7 l_1 c1) (fun n_10 i_11 l_1 c1 out_9 => L_ref15_Encode_l15_eq m m n_10 i_11 l_1 c1 out_9) i_7 l_1 c1
noncomputable def b_ref15_Encode {R : Type} (m : Nat) (ret : List Run → Int → Option R) (k_l7 : Int → List Item → Clock → Option R) (c_0 : Clock) (l_1 : List Item) : Option R :=
 (ref15_Check m c_0).bind fun r0 =>
 bif r0 != 0 then
 ret [] r0
 else
 bif decide ((l_1.length : Int) > 1024) then
 ret [] 6
 else
 k_l7 0 l_1 c_0
theorem ref15_Encode_pre (m : Nat) (c_0 : Clock) (l_1 : List Item) : funK Try.prog (Ψ_ref15_Encode m) keep m 1 24 [(dS of_Clock cells_Clock of_Clock_ok).e c_0, (dRow 49).e l_1] = b_ref15_Encode m (fun x0 x1 => some (w_ref15_Encode (x0, x1))) (fun i_7 l_1 c1 => L_ref15_Encode_l7 m m i_7 l_1 c1) c_0 l_1 := by kernel_rfl
theorem b_ref15_Encode_map (m : Nat) {k_l7 : Int → List Item → Clock → Option (List (RV C))} {q_l7 : Int → List Item → Clock → Option (List Run × Int)} (h_l7 : ∀ i_7 l_1 c1, k_l7 i_7 l_1 c1 = (q_l7 i_7 l_1 c1).map w_ref15_Encode) (c_0 : Clock) (l_1 : List Item) : b_ref15_Encode m (fun x0 x1 => some (w_ref15_Encode (x0, x1))) k_l7 c_0 l_1 = (b_ref15_Encode m (fun x0 x1 => some (x0, x1)) q_l7 c_0 l_1).map w_ref15_Encode := by
  simp only [b_ref15_Encode, cond_map, bind_map, map_none, map_some, h_l7]
noncomputable def ref15_Encode (m : Nat) (c_0 : Clock) (l_1 : List Item) : Option (List Run × Int) := b_ref15_Encode m (fun x0 x1 => some (x0, x1)) (fun i_7 l_1 c1 => ref15_Encode_l7 m m i_7 l_1 c1) c_0 l_1
theorem ref15_Encode_fun (m : Nat) (c_0 : Clock) (l_1 : List Item) : funK Try.prog (Ψ_ref15_Encode m) keep m 1 24 [(dS of_Clock cells_Clock of_Clock_ok).e c_0, (dRow 49).e l_1] = (ref15_Encode m c_0 l_1).map w_ref15_Encode := by
  rw [ref15_Encode_pre]
  exact b_ref15_Encode_map m (fun i_7 l_1 c1 => L_ref15_Encode_l7_eq m m i_7 l_1 c1) c_0 l_1
noncomputable def K_ref15_Encode (m : Nat) : KnownF C := mkK (dCons (dS of_Clock cells_Clock of_Clock_ok) (dCons (dRow 49) dNil)) (fun a => ref15_Encode m a.1 a.2.1) w_ref15_Encode
theorem K_ref15_Encode_ok (m : Nat) : KnownAt C Try.prog 24 fun l => (K_ref15_Encode m).run _ l some :=
  mkK_known good fit (Ψ_ref15_Encode_ok m) (keep := keep) (m := m) (d := 1) fun a => ref15_Encode_fun m a.1 a.2.1
/-! ### signalbench/sampler.Expect -/
noncomputable def Ψ_sampler_Expect (m : Nat) : Known C := fun f => match f with
  | 21 => some (K_sampler_Encode m)
  | 13 => some (K_sampler_Decode m)
  | _ => none
theorem Ψ_sampler_Expect_ok (m : Nat) : KnownOk C Try.prog (Ψ_sampler_Expect m) := by
  intro f φ h
  unfold Ψ_sampler_Expect at h
  split at h
  · injection h with h; subst h; exact K_sampler_Encode_ok m
  · injection h with h; subst h; exact K_sampler_Decode_ok m
  · cases h
def w_sampler_Expect (b : List Event × Int) : List (RV C) := [(dRow 32).e b.1, (dInt .i64).e b.2]
noncomputable def Q_sampler_Expect_7 (m : Nat) : St C → (Exit → St C → Option (List (RV C))) → Option (List (RV C)) := fun σ k => codeK Try.prog (Ψ_sampler_Expect m) (callK Try.prog (Ψ_sampler_Expect m) keep m 0) (keep 25) m (subC body25 [.r, .r, .r, .r, .r, .l, .r, .b, .o]) σ k
noncomputable def KL_sampler_Expect_7 (m : Nat) : Exit → St C → Option (List (RV C)) := contK Try.prog (Ψ_sampler_Expect m) (callK Try.prog (Ψ_sampler_Expect m) keep m 0) (keep 25) m body25 [.r, .r, .r, .r, .r, .l, .r, .b, .o] (leaveK Try.prog Try.f25.results.toList (finK Try.prog Try.f25.resultTypes.toList))
noncomputable def L_sampler_Expect_l7 (m n : Nat) (at_9 : Int) (t22 : Int) (t23 : Int) (c0 : Clock) (in_8 : List Event) (t21 : List Run) : Option (List (RV C)) := iterK (Q_sampler_Expect_7 m) (St.norm (keep 25 7)) n ({ T := [.dead, .dead, .fl (.one (.ptr 0 0)), .dead, .dead, .dead, .dead, .dead, .fl (.one (.sl 1)), .fl (.one (.int .i64 at_9)), .dead, .dead, .dead, .dead, .dead, .dead, .dead, .dead, .dead, .dead, .dead, .fl (.one (.sl 2)), .fl (.one (.int .i64 t22)), .fl (.one (.int .i64 t23))] ++ List.replicate 22 .dead, F := [[]], H := [.box 25 (cells_Clock c0), .row 32 true in_8, .row 54 true t21] } : St C) (KL_sampler_Expect_7 m)
noncomputable def b_sampler_Expect_l7 {R : Type} (m : Nat) (ret : List Event → Int → Option R) (k_l7 : Int → Int → Int → Clock → List Event → List Run → Option R) (at_9 : Int) (t22 : Int) (t23 : Int) (c0 : Clock) (in_8 : List Event) (t21 : List Run) : Option R :=
 bif decide (t23 < t22) then
 bif decide (0 ≤ t23) then
 bif decide (t23 < (t21.length : Int)) then
 bif decide ((in_8.length + 1) * 64 ≤ 140737488355328) then
 k_l7 (IntKind.i64.wrap (at_9 + (t21.getD t23.toNat dflt_Run).Ticks)) t22 (IntKind.i64.wrap (t23 + 1)) c0 (in_8 ++ [Event.mk 1 at_9 (IntKind.i64.wrap (at_9 + (t21.getD t23.toNat dflt_Run).Ticks)) (t21.getD t23.toNat dflt_Run).Level 0 (bs []) 0]) t21
 else
 none
 else
 none
 else
 none
 else
 (sampler_Decode m c0 in_8).bind fun r0 =>
 ret r0 0
theorem L_sampler_Expect_l7_step (m n : Nat) (at_9 : Int) (t22 : Int) (t23 : Int) (c0 : Clock) (in_8 : List Event) (t21 : List Run) : L_sampler_Expect_l7 m (n + 1) at_9 t22 t23 c0 in_8 t21 = b_sampler_Expect_l7 m (fun x0 x1 => some (w_sampler_Expect (x0, x1))) (fun at_9 t22 t23 c0 in_8 t21 => L_sampler_Expect_l7 m n at_9 t22 t23 c0 in_8 t21) at_9 t22 t23 c0 in_8 t21 := by kernel_rfl
theorem b_sampler_Expect_l7_map (m : Nat) {k_l7 : Int → Int → Int → Clock → List Event → List Run → Option (List (RV C))} {q_l7 : Int → Int → Int → Clock → List Event → List Run → Option (List Event × Int)} (h_l7 : ∀ at_9 t22 t23 c0 in_8 t21, k_l7 at_9 t22 t23 c0 in_8 t21 = (q_l7 at_9 t22 t23 c0 in_8 t21).map w_sampler_Expect) (at_9 : Int) (t22 : Int) (t23 : Int) (c0 : Clock) (in_8 : List Event) (t21 : List Run) : b_sampler_Expect_l7 m (fun x0 x1 => some (w_sampler_Expect (x0, x1))) k_l7 at_9 t22 t23 c0 in_8 t21 = (b_sampler_Expect_l7 m (fun x0 x1 => some (x0, x1)) q_l7 at_9 t22 t23 c0 in_8 t21).map w_sampler_Expect := by
  simp only [b_sampler_Expect_l7, cond_map, bind_map, map_none, map_some, h_l7]
noncomputable def sampler_Expect_l7 (m : Nat) : Nat → Int → Int → Int → Clock → List Event → List Run → Option (List Event × Int)
  | 0, _, _, _, _, _, _ => none
  | n + 1, at_9, t22, t23, c0, in_8, t21 => b_sampler_Expect_l7 m (fun x0 x1 => some (x0, x1)) (fun at_9 t22 t23 c0 in_8 t21 => sampler_Expect_l7 m n at_9 t22 t23 c0 in_8 t21) at_9 t22 t23 c0 in_8 t21
theorem L_sampler_Expect_l7_eq (m : Nat) : ∀ (n : Nat) (at_9 : Int) (t22 : Int) (t23 : Int) (c0 : Clock) (in_8 : List Event) (t21 : List Run), L_sampler_Expect_l7 m n at_9 t22 t23 c0 in_8 t21 = (sampler_Expect_l7 m n at_9 t22 t23 c0 in_8 t21).map w_sampler_Expect
  | 0, at_9, t22, t23, c0, in_8, t21 => by kernel_rfl
  | n + 1, at_9, t22, t23, c0, in_8, t21 => by
    rw [L_sampler_Expect_l7_step]
    exact b_sampler_Expect_l7_map m (fun at_9 t22 t23 c0 in_8 t21 => L_sampler_Expect_l7_eq m n at_9 t22 t23 c0 in_8 t21) at_9 t22 t23 c0 in_8 t21
noncomputable def b_sampler_Expect {R : Type} (m : Nat) (ret : List Event → Int → Option R) (k_l7 : Int → Int → Int → Clock → List Event → List Run → Option R) (c_0 : Clock) (l_1 : List Item) : Option R :=
 (sampler_Encode m c_0 l_1).bind fun r0 =>
 bif r0.snd != 0 then
 ret [] r0.snd
 else
 k_l7 0 (r0.fst.length : Int) 0 c_0 [] r0.fst
theorem sampler_Expect_pre (m : Nat) (c_0 : Clock) (l_1 : List Item) : funK Try.prog (Ψ_sampler_Expect m) keep m 1 25 [(dS of_Clock cells_Clock of_Clock_ok).e c_0, (dRow 49).e l_1] = b_sampler_Expect m (fun x0 x1 => some (w_sampler_Expect (x0, x1))) (fun at_9 t22 t23 c0 in_8 t21 => L_sampler_Expect_l7 m m at_9 t22 t23 c0 in_8 t21) c_0 l_1 := by kernel_rfl
theorem b_sampler_Expect_map (m : Nat) {k_l7 : Int → Int → Int → Clock → List Event → List Run → Option (List (RV C))} {q_l7 : Int → Int → Int → Clock → List Event → List Run → Option (List Event × Int)} (h_l7 : ∀ at_9 t22 t23 c0 in_8 t21, k_l7 at_9 t22 t23 c0 in_8 t21 = (q_l7 at_9 t22 t23 c0 in_8 t21).map w_sampler_Expect) (c_0 : Clock) (l_1 : List Item) : b_sampler_Expect m (fun x0 x1 => some (w_sampler_Expect (x0, x1))) k_l7 c_0 l_1 = (b_sampler_Expect m (fun x0 x1 => some (x0, x1)) q_l7 c_0 l_1).map w_sampler_Expect := by
  simp only [b_sampler_Expect, cond_map, bind_map, map_none, map_some, h_l7]
noncomputable def sampler_Expect (m : Nat) (c_0 : Clock) (l_1 : List Item) : Option (List Event × Int) := b_sampler_Expect m (fun x0 x1 => some (x0, x1)) (fun at_9 t22 t23 c0 in_8 t21 => sampler_Expect_l7 m m at_9 t22 t23 c0 in_8 t21) c_0 l_1
theorem sampler_Expect_fun (m : Nat) (c_0 : Clock) (l_1 : List Item) : funK Try.prog (Ψ_sampler_Expect m) keep m 1 25 [(dS of_Clock cells_Clock of_Clock_ok).e c_0, (dRow 49).e l_1] = (sampler_Expect m c_0 l_1).map w_sampler_Expect := by
  rw [sampler_Expect_pre]
  exact b_sampler_Expect_map m (fun at_9 t22 t23 c0 in_8 t21 => L_sampler_Expect_l7_eq m m at_9 t22 t23 c0 in_8 t21) c_0 l_1
noncomputable def K_sampler_Expect (m : Nat) : KnownF C := mkK (dCons (dS of_Clock cells_Clock of_Clock_ok) (dCons (dRow 49) dNil)) (fun a => sampler_Expect m a.1 a.2.1) w_sampler_Expect
theorem K_sampler_Expect_ok (m : Nat) : KnownAt C Try.prog 25 fun l => (K_sampler_Expect m).run _ l some :=
  mkK_known good fit (Ψ_sampler_Expect_ok m) (keep := keep) (m := m) (d := 1) fun a => sampler_Expect_fun m a.1 a.2.1
/-! ### signalbench/signalbenchref15.Events -/
def w_ref15_Events (b : List Event) : List (RV C) := [(dRow 32).e b]
noncomputable def Q_ref15_Events_4 (m : Nat) : St C → (Exit → St C → Option (List (RV C))) → Option (List (RV C)) := fun σ k => codeK Try.prog Ψ0 (callK Try.prog Ψ0 keep m 0) (keep 41) m (subC body41 [.r, .r, .r, .l, .r, .b, .o]) σ k
noncomputable def KL_ref15_Events_4 (m : Nat) : Exit → St C → Option (List (RV C)) := contK Try.prog Ψ0 (callK Try.prog Ψ0 keep m 0) (keep 41) m body41 [.r, .r, .r, .l, .r, .b, .o] (leaveK Try.prog Try.f41.results.toList (finK Try.prog Try.f41.resultTypes.toList))
noncomputable def L_ref15_Events_l4 (m n : Nat) (at_4 : Int) (i_5 : Int) (l_0 : List Run) (out_3 : List Event) : Option (List (RV C)) := iterK (Q_ref15_Events_4 m) (St.norm (keep 41 4)) n ({ T := [.fl (.one (.sl 0)), .dead, .dead, .fl (.one (.sl 1)), .fl (.one (.int .i64 at_4)), .fl (.one (.int .i64 i_5))] ++ List.replicate 32 .dead, F := [[]], H := [.row 54 false l_0, .row 32 true out_3] } : St C) (KL_ref15_Events_4 m)
noncomputable def b_ref15_Events_l4 {R : Type} (m : Nat) (ret : List Event → Option R) (k_l4 : Int → Int → List Run → List Event → Option R) (at_4 : Int) (i_5 : Int) (l_0 : List Run) (out_3 : List Event) : Option R :=
 bif decide (i_5 < (l_0.length : Int)) then
 bif decide (0 ≤ i_5) then
 bif decide (i_5 < (l_0.length : Int)) then
 bif decide (0 ≤ i_5) then
 bif decide (i_5 < (l_0.length : Int)) then
 bif decide ((out_3.length + 1) * 64 ≤ 140737488355328) then
 bif decide (0 ≤ i_5) then
 bif decide (i_5 < (l_0.length : Int)) then
 k_l4 (IntKind.i64.wrap (at_4 + (l_0.getD i_5.toNat dflt_Run).Ticks)) (IntKind.i64.wrap (i_5 + 1)) l_0 (out_3 ++ [Event.mk 1 at_4 (IntKind.i64.wrap (at_4 + (l_0.getD i_5.toNat dflt_Run).Ticks)) (l_0.getD i_5.toNat dflt_Run).Level 0 (bs []) 0])
 else
 none
 else
 none
 else
 none
 else
 none
 else
 none
 else
 none
 else
 none
 else
 ret out_3
theorem L_ref15_Events_l4_step (m n : Nat) (at_4 : Int) (i_5 : Int) (l_0 : List Run) (out_3 : List Event) : L_ref15_Events_l4 m (n + 1) at_4 i_5 l_0 out_3 = b_ref15_Events_l4 m (fun x0 => some (w_ref15_Events x0)) (fun at_4 i_5 l_0 out_3 => L_ref15_Events_l4 m n at_4 i_5 l_0 out_3) at_4 i_5 l_0 out_3 := by kernel_rfl
theorem b_ref15_Events_l4_map (m : Nat) {k_l4 : Int → Int → List Run → List Event → Option (List (RV C))} {q_l4 : Int → Int → List Run → List Event → Option (List Event)} (h_l4 : ∀ at_4 i_5 l_0 out_3, k_l4 at_4 i_5 l_0 out_3 = (q_l4 at_4 i_5 l_0 out_3).map w_ref15_Events) (at_4 : Int) (i_5 : Int) (l_0 : List Run) (out_3 : List Event) : b_ref15_Events_l4 m (fun x0 => some (w_ref15_Events x0)) k_l4 at_4 i_5 l_0 out_3 = (b_ref15_Events_l4 m (fun x0 => some x0) q_l4 at_4 i_5 l_0 out_3).map w_ref15_Events := by
  simp only [b_ref15_Events_l4, cond_map, bind_map, map_none, map_some, h_l4]
noncomputable def ref15_Events_l4 (m : Nat) : Nat → Int → Int → List Run → List Event → Option (List Event)
  | 0, _, _, _, _ => none
  | n + 1, at_4, i_5, l_0, out_3 => b_ref15_Events_l4 m (fun x0 => some x0) (fun at_4 i_5 l_0 out_3 => ref15_Events_l4 m n at_4 i_5 l_0 out_3) at_4 i_5 l_0 out_3
theorem L_ref15_Events_l4_eq (m : Nat) : ∀ (n : Nat) (at_4 : Int) (i_5 : Int) (l_0 : List Run) (out_3 : List Event), L_ref15_Events_l4 m n at_4 i_5 l_0 out_3 = (ref15_Events_l4 m n at_4 i_5 l_0 out_3).map w_ref15_Events
  | 0, at_4, i_5, l_0, out_3 => by kernel_rfl
  | n + 1, at_4, i_5, l_0, out_3 => by
    rw [L_ref15_Events_l4_step]
    exact b_ref15_Events_l4_map m (fun at_4 i_5 l_0 out_3 => L_ref15_Events_l4_eq m n at_4 i_5 l_0 out_3) at_4 i_5 l_0 out_3
noncomputable def b_ref15_Events {R : Type} (m : Nat) (ret : List Event → Option R) (k_l4 : Int → Int → List Run → List Event → Option R) (l_0 : List Run) : Option R :=
 k_l4 0 0 l_0 []
theorem ref15_Events_pre (m : Nat) (l_0 : List Run) : funK Try.prog Ψ0 keep m 1 41 [(dRow 54).e l_0] = b_ref15_Events m (fun x0 => some (w_ref15_Events x0)) (fun at_4 i_5 l_0 out_3 => L_ref15_Events_l4 m m at_4 i_5 l_0 out_3) l_0 := by kernel_rfl
theorem b_ref15_Events_map (m : Nat) {k_l4 : Int → Int → List Run → List Event → Option (List (RV C))} {q_l4 : Int → Int → List Run → List Event → Option (List Event)} (h_l4 : ∀ at_4 i_5 l_0 out_3, k_l4 at_4 i_5 l_0 out_3 = (q_l4 at_4 i_5 l_0 out_3).map w_ref15_Events) (l_0 : List Run) : b_ref15_Events m (fun x0 => some (w_ref15_Events x0)) k_l4 l_0 = (b_ref15_Events m (fun x0 => some x0) q_l4 l_0).map w_ref15_Events := by
  simp only [b_ref15_Events, cond_map, bind_map, map_none, map_some, h_l4]
noncomputable def ref15_Events (m : Nat) (l_0 : List Run) : Option (List Event) := b_ref15_Events m (fun x0 => some x0) (fun at_4 i_5 l_0 out_3 => ref15_Events_l4 m m at_4 i_5 l_0 out_3) l_0
theorem ref15_Events_fun (m : Nat) (l_0 : List Run) : funK Try.prog Ψ0 keep m 1 41 [(dRow 54).e l_0] = (ref15_Events m l_0).map w_ref15_Events := by
  rw [ref15_Events_pre]
  exact b_ref15_Events_map m (fun at_4 i_5 l_0 out_3 => L_ref15_Events_l4_eq m m at_4 i_5 l_0 out_3) l_0
noncomputable def K_ref15_Events (m : Nat) : KnownF C := mkK (dCons (dRow 54) dNil) (fun a => ref15_Events m a.1) w_ref15_Events
theorem K_ref15_Events_ok (m : Nat) : KnownAt C Try.prog 41 fun l => (K_ref15_Events m).run _ l some :=
  mkK_known good fit Ψ0_ok (keep := keep) (m := m) (d := 1) fun a => ref15_Events_fun m a.1
/-! ### signalbench/signalbenchref15.Expect -/
noncomputable def Ψ_ref15_Expect (m : Nat) : Known C := fun f => match f with
  | 24 => some (K_ref15_Encode m)
  | 41 => some (K_ref15_Events m)
  | 20 => some (K_ref15_Decode m)
  | _ => none
theorem Ψ_ref15_Expect_ok (m : Nat) : KnownOk C Try.prog (Ψ_ref15_Expect m) := by
  intro f φ h
  unfold Ψ_ref15_Expect at h
  split at h
  · injection h with h; subst h; exact K_ref15_Encode_ok m
  · injection h with h; subst h; exact K_ref15_Events_ok m
  · injection h with h; subst h; exact K_ref15_Decode_ok m
  · cases h
def w_ref15_Expect (b : List Event × Int) : List (RV C) := [(dRow 32).e b.1, (dInt .i64).e b.2]
noncomputable def b_ref15_Expect {R : Type} (m : Nat) (ret : List Event → Int → Option R) (c_0 : Clock) (l_1 : List Item) : Option R :=
 (ref15_Encode m c_0 l_1).bind fun r0 =>
 bif r0.snd != 0 then
 ret [] r0.snd
 else
 (ref15_Events m r0.fst).bind fun r1 =>
 (ref15_Decode m c_0 r1).bind fun r2 =>
 ret r2 0
theorem ref15_Expect_pre (m : Nat) (c_0 : Clock) (l_1 : List Item) : funK Try.prog (Ψ_ref15_Expect m) keep m 1 26 [(dS of_Clock cells_Clock of_Clock_ok).e c_0, (dRow 49).e l_1] = b_ref15_Expect m (fun x0 x1 => some (w_ref15_Expect (x0, x1))) c_0 l_1 := by kernel_rfl
theorem b_ref15_Expect_map (m : Nat) (c_0 : Clock) (l_1 : List Item) : b_ref15_Expect m (fun x0 x1 => some (w_ref15_Expect (x0, x1))) c_0 l_1 = (b_ref15_Expect m (fun x0 x1 => some (x0, x1)) c_0 l_1).map w_ref15_Expect := by
  simp only [b_ref15_Expect, cond_map, bind_map, map_none, map_some]
noncomputable def ref15_Expect (m : Nat) (c_0 : Clock) (l_1 : List Item) : Option (List Event × Int) := b_ref15_Expect m (fun x0 x1 => some (x0, x1)) c_0 l_1
theorem ref15_Expect_fun (m : Nat) (c_0 : Clock) (l_1 : List Item) : funK Try.prog (Ψ_ref15_Expect m) keep m 1 26 [(dS of_Clock cells_Clock of_Clock_ok).e c_0, (dRow 49).e l_1] = (ref15_Expect m c_0 l_1).map w_ref15_Expect := by
  rw [ref15_Expect_pre]
  exact b_ref15_Expect_map m c_0 l_1
noncomputable def K_ref15_Expect (m : Nat) : KnownF C := mkK (dCons (dS of_Clock cells_Clock of_Clock_ok) (dCons (dRow 49) dNil)) (fun a => ref15_Expect m a.1 a.2.1) w_ref15_Expect
theorem K_ref15_Expect_ok (m : Nat) : KnownAt C Try.prog 26 fun l => (K_ref15_Expect m).run _ l some :=
  mkK_known good fit (Ψ_ref15_Expect_ok m) (keep := keep) (m := m) (d := 1) fun a => ref15_Expect_fun m a.1 a.2.1
/-! ### signalbench/signalbenchlaw15.SamplerEncodes -/
noncomputable def Ψ_law15_SamplerEncodes (m : Nat) : Known C := fun f => match f with
  | 9 => some (K_law15_lives m)
  | 23 => some (K_law15_few m)
  | 21 => some (K_sampler_Encode m)
  | 24 => some (K_ref15_Encode m)
  | 25 => some (K_sampler_Expect m)
  | 26 => some (K_ref15_Expect m)
  | 12 => some (K_law15_same m)
  | _ => none
theorem Ψ_law15_SamplerEncodes_ok (m : Nat) : KnownOk C Try.prog (Ψ_law15_SamplerEncodes m) := by
  intro f φ h
  unfold Ψ_law15_SamplerEncodes at h
  split at h
  · injection h with h; subst h; exact K_law15_lives_ok m
  · injection h with h; subst h; exact K_law15_few_ok m
  · injection h with h; subst h; exact K_sampler_Encode_ok m
  · injection h with h; subst h; exact K_ref15_Encode_ok m
  · injection h with h; subst h; exact K_sampler_Expect_ok m
  · injection h with h; subst h; exact K_ref15_Expect_ok m
  · injection h with h; subst h; exact K_law15_same_ok m
  · cases h
def w_law15_SamplerEncodes (b : Bool) : List (RV C) := [dBool.e b]
noncomputable def Q_law15_SamplerEncodes_10 (m : Nat) : St C → (Exit → St C → Option (List (RV C))) → Option (List (RV C)) := fun σ k => codeK Try.prog (Ψ_law15_SamplerEncodes m) (callK Try.prog (Ψ_law15_SamplerEncodes m) keep m 0) (keep 8) m (subC body8 [.r, .r, .r, .r, .r, .r, .l, .r, .b, .o]) σ k
noncomputable def KL_law15_SamplerEncodes_10 (m : Nat) : Exit → St C → Option (List (RV C)) := contK Try.prog (Ψ_law15_SamplerEncodes m) (callK Try.prog (Ψ_law15_SamplerEncodes m) keep m 0) (keep 8) m body8 [.r, .r, .r, .r, .r, .r, .l, .r, .b, .o] (leaveK Try.prog Try.f8.results.toList (finK Try.prog Try.f8.resultTypes.toList))
noncomputable def L_law15_SamplerEncodes_l10 (m n : Nat) (i_9 : Int) (l_1 : List Item) (c1 : Clock) (a_5 : List Run) (b_7 : List Run) : Option (List (RV C)) := iterK (Q_law15_SamplerEncodes_10 m) (St.norm (keep 8 10)) n ({ T := [.dead, .fl (.one (.sl 0)), .fl (.one (.ptr 1 0)), .dead, .dead, .fl (.one (.sl 2)), .dead, .fl (.one (.sl 3)), .dead, .fl (.one (.int .i64 i_9))] ++ List.replicate 66 .dead, F := [[]], H := [.row 49 false l_1, .box 25 (cells_Clock c1), .row 54 true a_5, .row 54 true b_7] } : St C) (KL_law15_SamplerEncodes_10 m)
noncomputable def b_law15_SamplerEncodes_l10 {R : Type} (m : Nat) (ret : Bool → Option R) (k_l10 : Int → List Item → Clock → List Run → List Run → Option R) (i_9 : Int) (l_1 : List Item) (c1 : Clock) (a_5 : List Run) (b_7 : List Run) : Option R :=
 bif decide (i_9 < (a_5.length : Int)) then
 bif decide (0 ≤ i_9) then
 bif decide (i_9 < (a_5.length : Int)) then
 bif decide (0 ≤ i_9) then
 bif decide (i_9 < (b_7.length : Int)) then
 bif !((a_5.getD i_9.toNat dflt_Run).Level == (b_7.getD i_9.toNat dflt_Run).Level && ((a_5.getD i_9.toNat dflt_Run).Ticks == (b_7.getD i_9.toNat dflt_Run).Ticks && true)) then
 ret false
 else
 k_l10 (IntKind.i64.wrap (i_9 + 1)) l_1 c1 a_5 b_7
 else
 none
 else
 none
 else
 none
 else
 none
 else
 (sampler_Expect m c1 l_1).bind fun r0 =>
 (ref15_Expect m c1 l_1).bind fun r1 =>
 bif r0.snd == r1.snd then
 ((law15_same m r0.fst r1.fst).bind fun r2 =>
 ret r2)
 else
 ret false
theorem L_law15_SamplerEncodes_l10_step (m n : Nat) (i_9 : Int) (l_1 : List Item) (c1 : Clock) (a_5 : List Run) (b_7 : List Run) : L_law15_SamplerEncodes_l10 m (n + 1) i_9 l_1 c1 a_5 b_7 = b_law15_SamplerEncodes_l10 m (fun x0 => some (w_law15_SamplerEncodes x0)) (fun i_9 l_1 c1 a_5 b_7 => L_law15_SamplerEncodes_l10 m n i_9 l_1 c1 a_5 b_7) i_9 l_1 c1 a_5 b_7 := by kernel_rfl
theorem b_law15_SamplerEncodes_l10_map (m : Nat) {k_l10 : Int → List Item → Clock → List Run → List Run → Option (List (RV C))} {q_l10 : Int → List Item → Clock → List Run → List Run → Option (Bool)} (h_l10 : ∀ i_9 l_1 c1 a_5 b_7, k_l10 i_9 l_1 c1 a_5 b_7 = (q_l10 i_9 l_1 c1 a_5 b_7).map w_law15_SamplerEncodes) (i_9 : Int) (l_1 : List Item) (c1 : Clock) (a_5 : List Run) (b_7 : List Run) : b_law15_SamplerEncodes_l10 m (fun x0 => some (w_law15_SamplerEncodes x0)) k_l10 i_9 l_1 c1 a_5 b_7 = (b_law15_SamplerEncodes_l10 m (fun x0 => some x0) q_l10 i_9 l_1 c1 a_5 b_7).map w_law15_SamplerEncodes := by
  simp only [b_law15_SamplerEncodes_l10, cond_map, bind_map, map_none, map_some, h_l10]
noncomputable def law15_SamplerEncodes_l10 (m : Nat) : Nat → Int → List Item → Clock → List Run → List Run → Option (Bool)
  | 0, _, _, _, _, _ => none
  | n + 1, i_9, l_1, c1, a_5, b_7 => b_law15_SamplerEncodes_l10 m (fun x0 => some x0) (fun i_9 l_1 c1 a_5 b_7 => law15_SamplerEncodes_l10 m n i_9 l_1 c1 a_5 b_7) i_9 l_1 c1 a_5 b_7
theorem L_law15_SamplerEncodes_l10_eq (m : Nat) : ∀ (n : Nat) (i_9 : Int) (l_1 : List Item) (c1 : Clock) (a_5 : List Run) (b_7 : List Run), L_law15_SamplerEncodes_l10 m n i_9 l_1 c1 a_5 b_7 = (law15_SamplerEncodes_l10 m n i_9 l_1 c1 a_5 b_7).map w_law15_SamplerEncodes
  | 0, i_9, l_1, c1, a_5, b_7 => by kernel_rfl
  | n + 1, i_9, l_1, c1, a_5, b_7 => by
    rw [L_law15_SamplerEncodes_l10_step]
    exact b_law15_SamplerEncodes_l10_map m (fun i_9 l_1 c1 a_5 b_7 => L_law15_SamplerEncodes_l10_eq m n i_9 l_1 c1 a_5 b_7) i_9 l_1 c1 a_5 b_7
noncomputable def b_law15_SamplerEncodes {R : Type} (m : Nat) (ret : Bool → Option R) (k_l10 : Int → List Item → Clock → List Run → List Run → Option R) (c_0 : Clock) (l_1 : List Item) : Option R :=
 (law15_lives m).bind fun r0 =>
 bif !r0 then
 ret false
 else
 (law15_few m l_1).bind fun r1 =>
 bif !r1 then
 ret true
 else
 (sampler_Encode m c_0 l_1).bind fun r2 =>
 (ref15_Encode m c_0 l_1).bind fun r3 =>
 bif r2.snd != r3.snd then
 ret false
 else
 bif (r2.fst.length : Int) != (r3.fst.length : Int) then
 ret false
 else
 k_l10 0 l_1 c_0 r2.fst r3.fst
theorem law15_SamplerEncodes_pre (m : Nat) (c_0 : Clock) (l_1 : List Item) : funK Try.prog (Ψ_law15_SamplerEncodes m) keep m 1 8 [(dS of_Clock cells_Clock of_Clock_ok).e c_0, (dRow 49).e l_1] = b_law15_SamplerEncodes m (fun x0 => some (w_law15_SamplerEncodes x0)) (fun i_9 l_1 c1 a_5 b_7 => L_law15_SamplerEncodes_l10 m m i_9 l_1 c1 a_5 b_7) c_0 l_1 := by kernel_rfl
theorem b_law15_SamplerEncodes_map (m : Nat) {k_l10 : Int → List Item → Clock → List Run → List Run → Option (List (RV C))} {q_l10 : Int → List Item → Clock → List Run → List Run → Option (Bool)} (h_l10 : ∀ i_9 l_1 c1 a_5 b_7, k_l10 i_9 l_1 c1 a_5 b_7 = (q_l10 i_9 l_1 c1 a_5 b_7).map w_law15_SamplerEncodes) (c_0 : Clock) (l_1 : List Item) : b_law15_SamplerEncodes m (fun x0 => some (w_law15_SamplerEncodes x0)) k_l10 c_0 l_1 = (b_law15_SamplerEncodes m (fun x0 => some x0) q_l10 c_0 l_1).map w_law15_SamplerEncodes := by
  simp only [b_law15_SamplerEncodes, cond_map, bind_map, map_none, map_some, h_l10]
noncomputable def law15_SamplerEncodes (m : Nat) (c_0 : Clock) (l_1 : List Item) : Option (Bool) := b_law15_SamplerEncodes m (fun x0 => some x0) (fun i_9 l_1 c1 a_5 b_7 => law15_SamplerEncodes_l10 m m i_9 l_1 c1 a_5 b_7) c_0 l_1
theorem law15_SamplerEncodes_fun (m : Nat) (c_0 : Clock) (l_1 : List Item) : funK Try.prog (Ψ_law15_SamplerEncodes m) keep m 1 8 [(dS of_Clock cells_Clock of_Clock_ok).e c_0, (dRow 49).e l_1] = (law15_SamplerEncodes m c_0 l_1).map w_law15_SamplerEncodes := by
  rw [law15_SamplerEncodes_pre]
  exact b_law15_SamplerEncodes_map m (fun i_9 l_1 c1 a_5 b_7 => L_law15_SamplerEncodes_l10_eq m m i_9 l_1 c1 a_5 b_7) c_0 l_1
noncomputable def K_law15_SamplerEncodes (m : Nat) : KnownF C := mkK (dCons (dS of_Clock cells_Clock of_Clock_ok) (dCons (dRow 49) dNil)) (fun a => law15_SamplerEncodes m a.1 a.2.1) w_law15_SamplerEncodes
theorem K_law15_SamplerEncodes_ok (m : Nat) : KnownAt C Try.prog 8 fun l => (K_law15_SamplerEncodes m).run _ l some :=
  mkK_known good fit (Ψ_law15_SamplerEncodes_ok m) (keep := keep) (m := m) (d := 1) fun a => law15_SamplerEncodes_fun m a.1 a.2.1
end Go.Abs.K
