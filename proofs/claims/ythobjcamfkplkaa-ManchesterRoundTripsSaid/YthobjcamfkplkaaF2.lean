/- Plain functions for the functions of the seat, printed by a program of this claim's own, with their proofs. -/
import Derived.Test.YthobjcamfkplkaaF1
set_option linter.unusedVariables false
set_option linter.unusedSimpArgs false
set_option maxRecDepth 100000
namespace Go.Abs.K
open Go Go.Abs Go.Proofs
/-! ### signalbench/signalbenchlaw17.ManchesterRoundTrips -/
noncomputable def Ψ_law17_ManchesterRoundTrips (m : Nat) : Known C := fun f => match f with
  | 15 => some (K_manchester_Expect m)
  | 14 => some (K_manchester_Encode m)
  | 12 => some (K_law17_awake m)
  | 26 => some (K_law17_found m)
  | _ => none
theorem Ψ_law17_ManchesterRoundTrips_ok (m : Nat) : KnownOk C Try.prog (Ψ_law17_ManchesterRoundTrips m) := by
  intro f φ h
  unfold Ψ_law17_ManchesterRoundTrips at h
  split at h
  · injection h with h; subst h; exact K_manchester_Expect_ok m
  · injection h with h; subst h; exact K_manchester_Encode_ok m
  · injection h with h; subst h; exact K_law17_awake_ok m
  · injection h with h; subst h; exact K_law17_found_ok m
  · cases h
def w_law17_ManchesterRoundTrips (b : Bool) : List (RV C) := [dBool.e b]
noncomputable def Q_law17_ManchesterRoundTrips_9 (m : Nat) : St C → (Exit → St C → Option (List (RV C))) → Option (List (RV C)) := fun σ k => codeK Try.prog (Ψ_law17_ManchesterRoundTrips m) (callK Try.prog (Ψ_law17_ManchesterRoundTrips m) keep m 0) (keep 6) m (subC body6 [.r, .r, .r, .r, .r, .r, .l, .r, .b, .o]) σ k
noncomputable def KL_law17_ManchesterRoundTrips_9 (m : Nat) : Exit → St C → Option (List (RV C)) := contK Try.prog (Ψ_law17_ManchesterRoundTrips m) (callK Try.prog (Ψ_law17_ManchesterRoundTrips m) keep m 0) (keep 6) m body6 [.r, .r, .r, .r, .r, .r, .l, .r, .b, .o] (leaveK Try.prog Try.f6.results.toList (finK Try.prog Try.f6.resultTypes.toList))
noncomputable def L_law17_ManchesterRoundTrips_l9 (m n : Nat) (at_9 : Int) (i_10 : Int) (l_1 : List Item) (m_5 : List Event) : Option (List (RV C)) := iterK (Q_law17_ManchesterRoundTrips_9 m) (St.norm (keep 6 9)) n ({ T := [.dead, .fl (.one (.sl 0)), .dead, .dead, .dead, .fl (.one (.sl 1)), .dead, .dead, .dead, .fl (.one (.int .i64 at_9)), .fl (.one (.int .i64 i_10))] ++ List.replicate 49 .dead, F := [[]], H := [.row 52 false l_1, .row 29 true m_5] } : St C) (KL_law17_ManchesterRoundTrips_9 m)
noncomputable def b_law17_ManchesterRoundTrips_l9 {R : Type} (m : Nat) (ret : Bool → Option R) (k_l9 : Int → Int → List Item → List Event → Option R) (at_9 : Int) (i_10 : Int) (l_1 : List Item) (m_5 : List Event) : Option R :=
 bif decide (i_10 < (l_1.length : Int)) then
 (bif decide (0 ≤ i_10) then
 (bif decide (i_10 < (l_1.length : Int)) then
 ((law17_found m m_5 at_9 (l_1.getD i_10.toNat dflt_Item)).bind fun r0 =>
 bif decide (r0 < 0) then
 ret false
 else
 k_l9 (IntKind.i64.wrap (at_9 + r0)) (IntKind.i64.wrap (i_10 + 1)) l_1 m_5)
 else
 none)
 else
 none)
 else
 bif at_9 == (m_5.length : Int) then
 ((law17_awake m).bind fun r1 =>
 ret r1)
 else
 ret false
theorem L_law17_ManchesterRoundTrips_l9_step (m n : Nat) (at_9 : Int) (i_10 : Int) (l_1 : List Item) (m_5 : List Event) : L_law17_ManchesterRoundTrips_l9 m (n + 1) at_9 i_10 l_1 m_5 = b_law17_ManchesterRoundTrips_l9 m (fun x0 => some (w_law17_ManchesterRoundTrips x0)) (fun at_9 i_10 l_1 m_5 => L_law17_ManchesterRoundTrips_l9 m n at_9 i_10 l_1 m_5) at_9 i_10 l_1 m_5 := by kernel_rfl
theorem b_law17_ManchesterRoundTrips_l9_map (m : Nat) {k_l9 : Int → Int → List Item → List Event → Option (List (RV C))} {q_l9 : Int → Int → List Item → List Event → Option (Bool)} (h_l9 : ∀ at_9 i_10 l_1 m_5, k_l9 at_9 i_10 l_1 m_5 = (q_l9 at_9 i_10 l_1 m_5).map w_law17_ManchesterRoundTrips) (at_9 : Int) (i_10 : Int) (l_1 : List Item) (m_5 : List Event) : b_law17_ManchesterRoundTrips_l9 m (fun x0 => some (w_law17_ManchesterRoundTrips x0)) k_l9 at_9 i_10 l_1 m_5 = (b_law17_ManchesterRoundTrips_l9 m (fun x0 => some x0) q_l9 at_9 i_10 l_1 m_5).map w_law17_ManchesterRoundTrips := by
  simp only [b_law17_ManchesterRoundTrips_l9, cond_map, bind_map, map_none, map_some, h_l9]
noncomputable def law17_ManchesterRoundTrips_l9 (m : Nat) : Nat → Int → Int → List Item → List Event → Option (Bool)
  | 0, _, _, _, _ => none
  | n + 1, at_9, i_10, l_1, m_5 => b_law17_ManchesterRoundTrips_l9 m (fun x0 => some x0) (fun at_9 i_10 l_1 m_5 => law17_ManchesterRoundTrips_l9 m n at_9 i_10 l_1 m_5) at_9 i_10 l_1 m_5
theorem L_law17_ManchesterRoundTrips_l9_eq (m : Nat) : ∀ (n : Nat) (at_9 : Int) (i_10 : Int) (l_1 : List Item) (m_5 : List Event), L_law17_ManchesterRoundTrips_l9 m n at_9 i_10 l_1 m_5 = (law17_ManchesterRoundTrips_l9 m n at_9 i_10 l_1 m_5).map w_law17_ManchesterRoundTrips
  | 0, at_9, i_10, l_1, m_5 => by kernel_rfl
  | n + 1, at_9, i_10, l_1, m_5 => by
    rw [L_law17_ManchesterRoundTrips_l9_step]
    exact b_law17_ManchesterRoundTrips_l9_map m (fun at_9 i_10 l_1 m_5 => L_law17_ManchesterRoundTrips_l9_eq m n at_9 i_10 l_1 m_5) at_9 i_10 l_1 m_5
noncomputable def b_law17_ManchesterRoundTrips {R : Type} (m : Nat) (ret : Bool → Option R) (k_l9 : Int → Int → List Item → List Event → Option R) (c_0 : Manchester) (l_1 : List Item) : Option R :=
 (manchester_Expect m c_0 l_1).bind fun r0 =>
 (manchester_Encode m c_0 l_1).bind fun r1 =>
 bif r0.snd != r1.snd then
 ret false
 else
 bif r0.snd != 0 then
 (bif (r0.fst.length : Int) == 0 then
 ((law17_awake m).bind fun r2 =>
 ret r2)
 else
 ret false)
 else
 k_l9 0 0 l_1 r0.fst
theorem law17_ManchesterRoundTrips_pre (m : Nat) (c_0 : Manchester) (l_1 : List Item) : funK Try.prog (Ψ_law17_ManchesterRoundTrips m) keep m 1 6 [(dS of_Manchester cells_Manchester of_Manchester_ok).e c_0, (dRow 52).e l_1] = b_law17_ManchesterRoundTrips m (fun x0 => some (w_law17_ManchesterRoundTrips x0)) (fun at_9 i_10 l_1 m_5 => L_law17_ManchesterRoundTrips_l9 m m at_9 i_10 l_1 m_5) c_0 l_1 := by kernel_rfl
theorem b_law17_ManchesterRoundTrips_map (m : Nat) {k_l9 : Int → Int → List Item → List Event → Option (List (RV C))} {q_l9 : Int → Int → List Item → List Event → Option (Bool)} (h_l9 : ∀ at_9 i_10 l_1 m_5, k_l9 at_9 i_10 l_1 m_5 = (q_l9 at_9 i_10 l_1 m_5).map w_law17_ManchesterRoundTrips) (c_0 : Manchester) (l_1 : List Item) : b_law17_ManchesterRoundTrips m (fun x0 => some (w_law17_ManchesterRoundTrips x0)) k_l9 c_0 l_1 = (b_law17_ManchesterRoundTrips m (fun x0 => some x0) q_l9 c_0 l_1).map w_law17_ManchesterRoundTrips := by
  simp only [b_law17_ManchesterRoundTrips, cond_map, bind_map, map_none, map_some, h_l9]
noncomputable def law17_ManchesterRoundTrips (m : Nat) (c_0 : Manchester) (l_1 : List Item) : Option (Bool) := b_law17_ManchesterRoundTrips m (fun x0 => some x0) (fun at_9 i_10 l_1 m_5 => law17_ManchesterRoundTrips_l9 m m at_9 i_10 l_1 m_5) c_0 l_1
theorem law17_ManchesterRoundTrips_fun (m : Nat) (c_0 : Manchester) (l_1 : List Item) : funK Try.prog (Ψ_law17_ManchesterRoundTrips m) keep m 1 6 [(dS of_Manchester cells_Manchester of_Manchester_ok).e c_0, (dRow 52).e l_1] = (law17_ManchesterRoundTrips m c_0 l_1).map w_law17_ManchesterRoundTrips := by
  rw [law17_ManchesterRoundTrips_pre]
  exact b_law17_ManchesterRoundTrips_map m (fun at_9 i_10 l_1 m_5 => L_law17_ManchesterRoundTrips_l9_eq m m at_9 i_10 l_1 m_5) c_0 l_1
noncomputable def K_law17_ManchesterRoundTrips (m : Nat) : KnownF C := mkK (dCons (dS of_Manchester cells_Manchester of_Manchester_ok) (dCons (dRow 52) dNil)) (fun a => law17_ManchesterRoundTrips m a.1 a.2.1) w_law17_ManchesterRoundTrips
theorem K_law17_ManchesterRoundTrips_ok (m : Nat) : KnownAt C Try.prog 6 fun l => (K_law17_ManchesterRoundTrips m).run _ l some :=
  mkK_known good fit (Ψ_law17_ManchesterRoundTrips_ok m) (keep := keep) (m := m) (d := 1) fun a => law17_ManchesterRoundTrips_fun m a.1 a.2.1
/-! ### signalbench/signalbenchlaw17.chain -/
noncomputable def Ψ_law17_chain (m : Nat) : Known C := fun f => match f with
  | 48 => some (K_ref07_Valid m)
  | _ => none
theorem Ψ_law17_chain_ok (m : Nat) : KnownOk C Try.prog (Ψ_law17_chain m) := by
  intro f φ h
  unfold Ψ_law17_chain at h
  split at h
  · injection h with h; subst h; exact K_ref07_Valid_ok m
  · cases h
def w_law17_chain (b : Bool) : List (RV C) := [dBool.e b]
noncomputable def Q_law17_chain_2 (m : Nat) : St C → (Exit → St C → Option (List (RV C))) → Option (List (RV C)) := fun σ k => codeK Try.prog (Ψ_law17_chain m) (callK Try.prog (Ψ_law17_chain m) keep m 0) (keep 27) m (subC body27 [.r, .l, .r, .b, .o]) σ k
noncomputable def KL_law17_chain_2 (m : Nat) : Exit → St C → Option (List (RV C)) := contK Try.prog (Ψ_law17_chain m) (callK Try.prog (Ψ_law17_chain m) keep m 0) (keep 27) m body27 [.r, .l, .r, .b, .o] (leaveK Try.prog Try.f27.results.toList (finK Try.prog Try.f27.resultTypes.toList))
noncomputable def L_law17_chain_l2 (m n : Nat) (i_3 : Int) (l_0 : List Event) : Option (List (RV C)) := iterK (Q_law17_chain_2 m) (St.norm (keep 27 2)) n ({ T := [.fl (.one (.sl 0)), .dead, .dead, .fl (.one (.int .i64 i_3))] ++ List.replicate 54 .dead, F := [[]], H := [.row 29 false l_0] } : St C) (KL_law17_chain_2 m)
noncomputable def b_law17_chain_l2 {R : Type} (m : Nat) (ret : Bool → Option R) (k_l2 : Int → List Event → Option R) (i_3 : Int) (l_0 : List Event) : Option R :=
 bif decide (i_3 < (l_0.length : Int)) then
 (bif decide (0 ≤ i_3) then
 (bif decide (i_3 < (l_0.length : Int)) then
 ((ref07_Valid m (l_0.getD i_3.toNat dflt_Event)).bind fun r0 =>
 bif !r0 then
 ret false
 else
 bif (l_0.getD i_3.toNat dflt_Event).Kind != 1 then
 ret false
 else
 bif (l_0.getD i_3.toNat dflt_Event).Fault != 0 then
 ret false
 else
 bif decide ((l_0.getD i_3.toNat dflt_Event).From ≥ (l_0.getD i_3.toNat dflt_Event).To) then
 ret false
 else
 bif decide ((l_0.getD i_3.toNat dflt_Event).Value < 0) then
 ret false
 else
 bif decide ((l_0.getD i_3.toNat dflt_Event).Value > 1) then
 ret false
 else
 bif decide (i_3 > 0) then
 bif decide (0 ≤ IntKind.i64.wrap (i_3 - 1)) then
 bif decide (IntKind.i64.wrap (i_3 - 1) < (l_0.length : Int)) then
 bif (l_0.getD i_3.toNat dflt_Event).From != (l_0.getD (IntKind.i64.wrap (i_3 - 1)).toNat dflt_Event).To then
 ret false
 else
 k_l2 (IntKind.i64.wrap (i_3 + 1)) l_0
 else
 none
 else
 none
 else
 k_l2 (IntKind.i64.wrap (i_3 + 1)) l_0)
 else
 none)
 else
 none)
 else
 ret true
theorem L_law17_chain_l2_step (m n : Nat) (i_3 : Int) (l_0 : List Event) : L_law17_chain_l2 m (n + 1) i_3 l_0 = b_law17_chain_l2 m (fun x0 => some (w_law17_chain x0)) (fun i_3 l_0 => L_law17_chain_l2 m n i_3 l_0) i_3 l_0 := by kernel_rfl
theorem b_law17_chain_l2_map (m : Nat) {k_l2 : Int → List Event → Option (List (RV C))} {q_l2 : Int → List Event → Option (Bool)} (h_l2 : ∀ i_3 l_0, k_l2 i_3 l_0 = (q_l2 i_3 l_0).map w_law17_chain) (i_3 : Int) (l_0 : List Event) : b_law17_chain_l2 m (fun x0 => some (w_law17_chain x0)) k_l2 i_3 l_0 = (b_law17_chain_l2 m (fun x0 => some x0) q_l2 i_3 l_0).map w_law17_chain := by
  simp only [b_law17_chain_l2, cond_map, bind_map, map_none, map_some, h_l2]
noncomputable def law17_chain_l2 (m : Nat) : Nat → Int → List Event → Option (Bool)
  | 0, _, _ => none
  | n + 1, i_3, l_0 => b_law17_chain_l2 m (fun x0 => some x0) (fun i_3 l_0 => law17_chain_l2 m n i_3 l_0) i_3 l_0
theorem L_law17_chain_l2_eq (m : Nat) : ∀ (n : Nat) (i_3 : Int) (l_0 : List Event), L_law17_chain_l2 m n i_3 l_0 = (law17_chain_l2 m n i_3 l_0).map w_law17_chain
  | 0, i_3, l_0 => by kernel_rfl
  | n + 1, i_3, l_0 => by
    rw [L_law17_chain_l2_step]
    exact b_law17_chain_l2_map m (fun i_3 l_0 => L_law17_chain_l2_eq m n i_3 l_0) i_3 l_0
noncomputable def b_law17_chain {R : Type} (m : Nat) (ret : Bool → Option R) (k_l2 : Int → List Event → Option R) (l_0 : List Event) : Option R :=
 k_l2 0 l_0
theorem law17_chain_pre (m : Nat) (l_0 : List Event) : funK Try.prog (Ψ_law17_chain m) keep m 1 27 [(dRow 29).e l_0] = b_law17_chain m (fun x0 => some (w_law17_chain x0)) (fun i_3 l_0 => L_law17_chain_l2 m m i_3 l_0) l_0 := by kernel_rfl
theorem b_law17_chain_map (m : Nat) {k_l2 : Int → List Event → Option (List (RV C))} {q_l2 : Int → List Event → Option (Bool)} (h_l2 : ∀ i_3 l_0, k_l2 i_3 l_0 = (q_l2 i_3 l_0).map w_law17_chain) (l_0 : List Event) : b_law17_chain m (fun x0 => some (w_law17_chain x0)) k_l2 l_0 = (b_law17_chain m (fun x0 => some x0) q_l2 l_0).map w_law17_chain := by
  simp only [b_law17_chain, cond_map, bind_map, map_none, map_some, h_l2]
noncomputable def law17_chain (m : Nat) (l_0 : List Event) : Option (Bool) := b_law17_chain m (fun x0 => some x0) (fun i_3 l_0 => law17_chain_l2 m m i_3 l_0) l_0
theorem law17_chain_fun (m : Nat) (l_0 : List Event) : funK Try.prog (Ψ_law17_chain m) keep m 1 27 [(dRow 29).e l_0] = (law17_chain m l_0).map w_law17_chain := by
  rw [law17_chain_pre]
  exact b_law17_chain_map m (fun i_3 l_0 => L_law17_chain_l2_eq m m i_3 l_0) l_0
noncomputable def K_law17_chain (m : Nat) : KnownF C := mkK (dCons (dRow 29) dNil) (fun a => law17_chain m a.1) w_law17_chain
theorem K_law17_chain_ok (m : Nat) : KnownAt C Try.prog 27 fun l => (K_law17_chain m).run _ l some :=
  mkK_known good fit (Ψ_law17_chain_ok m) (keep := keep) (m := m) (d := 1) fun a => law17_chain_fun m a.1
/-! ### signalbench/signalbenchlaw17.ManchesterPieces -/
noncomputable def Ψ_law17_ManchesterPieces (m : Nat) : Known C := fun f => match f with
  | 27 => some (K_law17_chain m)
  | 12 => some (K_law17_awake m)
  | 18 => some (K_manchester_Decode m)
  | 21 => some (K_ref07_Same m)
  | _ => none
theorem Ψ_law17_ManchesterPieces_ok (m : Nat) : KnownOk C Try.prog (Ψ_law17_ManchesterPieces m) := by
  intro f φ h
  unfold Ψ_law17_ManchesterPieces at h
  split at h
  · injection h with h; subst h; exact K_law17_chain_ok m
  · injection h with h; subst h; exact K_law17_awake_ok m
  · injection h with h; subst h; exact K_manchester_Decode_ok m
  · injection h with h; subst h; exact K_ref07_Same_ok m
  · cases h
def w_law17_ManchesterPieces (b : Bool) : List (RV C) := [dBool.e b]
noncomputable def b_law17_ManchesterPieces {R : Type} (m : Nat) (ret : Bool → Option R) (c_0 : Manchester) (l_1 : List Event) (number_2 : Int) (at_3 : Int) : Option R :=
 bif decide ((l_1.length : Int) > 2000) then
 ((law17_awake m).bind fun r0 =>
 ret r0)
 else
 bif decide (number_2 < 0) then
 ((law17_awake m).bind fun r1 =>
 ret r1)
 else
 bif decide (number_2 ≥ (l_1.length : Int)) then
 ((law17_awake m).bind fun r2 =>
 ret r2)
 else
 (law17_chain m l_1).bind fun r3 =>
 bif !r3 then
 ((law17_awake m).bind fun r4 =>
 ret r4)
 else
 bif decide (0 ≤ number_2) then
 (bif decide (number_2 < (l_1.length : Int)) then
 (bif decide (at_3 ≤ (l_1.getD number_2.toNat dflt_Event).From) then
 ((law17_awake m).bind fun r5 =>
 ret r5)
 else
 bif decide (at_3 ≥ (l_1.getD number_2.toNat dflt_Event).To) then
 ((law17_awake m).bind fun r6 =>
 ret r6)
 else
 bif decide (0 ≤ IntKind.i64.wrap ((l_1.length : Int) + 1)) then
 (bif decide (IntKind.i64.wrap ((l_1.length : Int) + 1) * 64 ≤ 140737488355328) then
 (bif decide (0 ≤ number_2) then
 (bif decide (number_2 ≤ (l_1.length : Int)) then
 (bif decide (0 ≤ number_2) then
 (bif decide ((0 + (List.drop 0 (List.take number_2.toNat l_1)).length) * 64 ≤ 140737488355328) then
 (bif decide (((List.replicate 0 (Event.mk 0 0 0 0 0 (bs []) 0) ++ List.drop 0 (List.take number_2.toNat l_1)).length + 2) * 64 ≤ 140737488355328) then
 (bif decide ((l_1.length : Int) ≤ (l_1.length : Int)) then
 (bif decide (0 ≤ IntKind.i64.wrap (number_2 + 1)) then
 (bif decide (IntKind.i64.wrap (number_2 + 1) ≤ (l_1.length : Int)) then
 (bif decide (((List.replicate 0 (Event.mk 0 0 0 0 0 (bs []) 0) ++ List.drop 0 (List.take number_2.toNat l_1) ++ [Event.mk (l_1.getD number_2.toNat dflt_Event).Kind (l_1.getD number_2.toNat dflt_Event).From at_3 (l_1.getD number_2.toNat dflt_Event).Value (l_1.getD number_2.toNat dflt_Event).Aux (l_1.getD number_2.toNat dflt_Event).Data (l_1.getD number_2.toNat dflt_Event).Fault, Event.mk (l_1.getD number_2.toNat dflt_Event).Kind at_3 (l_1.getD number_2.toNat dflt_Event).To (l_1.getD number_2.toNat dflt_Event).Value (l_1.getD number_2.toNat dflt_Event).Aux (l_1.getD number_2.toNat dflt_Event).Data (l_1.getD number_2.toNat dflt_Event).Fault]).length + (List.drop (IntKind.i64.wrap (number_2 + 1)).toNat (List.take ((l_1.length : Int)).toNat l_1)).length) * 64 ≤ 140737488355328) then
 ((manchester_Decode m c_0 (List.replicate 0 (Event.mk 0 0 0 0 0 (bs []) 0) ++ List.drop 0 (List.take number_2.toNat l_1) ++ [Event.mk (l_1.getD number_2.toNat dflt_Event).Kind (l_1.getD number_2.toNat dflt_Event).From at_3 (l_1.getD number_2.toNat dflt_Event).Value (l_1.getD number_2.toNat dflt_Event).Aux (l_1.getD number_2.toNat dflt_Event).Data (l_1.getD number_2.toNat dflt_Event).Fault, Event.mk (l_1.getD number_2.toNat dflt_Event).Kind at_3 (l_1.getD number_2.toNat dflt_Event).To (l_1.getD number_2.toNat dflt_Event).Value (l_1.getD number_2.toNat dflt_Event).Aux (l_1.getD number_2.toNat dflt_Event).Data (l_1.getD number_2.toNat dflt_Event).Fault] ++ List.drop (IntKind.i64.wrap (number_2 + 1)).toNat (List.take ((l_1.length : Int)).toNat l_1))).bind fun r7 =>
 (manchester_Decode m c_0 l_1).bind fun r8 =>
 (ref07_Same m r7 r8).bind fun r9 =>
 bif r9 then
 ((law17_awake m).bind fun r10 =>
 ret r10)
 else
 ret false)
 else
 none)
 else
 none)
 else
 none)
 else
 none)
 else
 none)
 else
 none)
 else
 none)
 else
 none)
 else
 none)
 else
 none)
 else
 none)
 else
 none)
 else
 none
theorem law17_ManchesterPieces_pre (m : Nat) (c_0 : Manchester) (l_1 : List Event) (number_2 : Int) (at_3 : Int) : funK Try.prog (Ψ_law17_ManchesterPieces m) keep m 1 7 [(dS of_Manchester cells_Manchester of_Manchester_ok).e c_0, (dRow 29).e l_1, (dInt .i64).e number_2, (dInt .i64).e at_3] = b_law17_ManchesterPieces m (fun x0 => some (w_law17_ManchesterPieces x0)) c_0 l_1 number_2 at_3 := by kernel_rfl
theorem b_law17_ManchesterPieces_map (m : Nat) (c_0 : Manchester) (l_1 : List Event) (number_2 : Int) (at_3 : Int) : b_law17_ManchesterPieces m (fun x0 => some (w_law17_ManchesterPieces x0)) c_0 l_1 number_2 at_3 = (b_law17_ManchesterPieces m (fun x0 => some x0) c_0 l_1 number_2 at_3).map w_law17_ManchesterPieces := by
  simp only [b_law17_ManchesterPieces, cond_map, bind_map, map_none, map_some]
noncomputable def law17_ManchesterPieces (m : Nat) (c_0 : Manchester) (l_1 : List Event) (number_2 : Int) (at_3 : Int) : Option (Bool) := b_law17_ManchesterPieces m (fun x0 => some x0) c_0 l_1 number_2 at_3
theorem law17_ManchesterPieces_fun (m : Nat) (c_0 : Manchester) (l_1 : List Event) (number_2 : Int) (at_3 : Int) : funK Try.prog (Ψ_law17_ManchesterPieces m) keep m 1 7 [(dS of_Manchester cells_Manchester of_Manchester_ok).e c_0, (dRow 29).e l_1, (dInt .i64).e number_2, (dInt .i64).e at_3] = (law17_ManchesterPieces m c_0 l_1 number_2 at_3).map w_law17_ManchesterPieces := by
  rw [law17_ManchesterPieces_pre]
  exact b_law17_ManchesterPieces_map m c_0 l_1 number_2 at_3
noncomputable def K_law17_ManchesterPieces (m : Nat) : KnownF C := mkK (dCons (dS of_Manchester cells_Manchester of_Manchester_ok) (dCons (dRow 29) (dCons (dInt .i64) (dCons (dInt .i64) dNil)))) (fun a => law17_ManchesterPieces m a.1 a.2.1 a.2.2.1 a.2.2.2.1) w_law17_ManchesterPieces
theorem K_law17_ManchesterPieces_ok (m : Nat) : KnownAt C Try.prog 7 fun l => (K_law17_ManchesterPieces m).run _ l some :=
  mkK_known good fit (Ψ_law17_ManchesterPieces_ok m) (keep := keep) (m := m) (d := 1) fun a => law17_ManchesterPieces_fun m a.1 a.2.1 a.2.2.1 a.2.2.2.1
/-! ### signalbench/signalbenchlaw17.ManchesterInverts -/
noncomputable def Ψ_law17_ManchesterInverts (m : Nat) : Known C := fun f => match f with
  | 12 => some (K_law17_awake m)
  | 14 => some (K_manchester_Encode m)
  | 18 => some (K_manchester_Decode m)
  | 21 => some (K_ref07_Same m)
  | 28 => some (K_ref08_Invert m)
  | 24 => some (K_ref08_Same m)
  | _ => none
theorem Ψ_law17_ManchesterInverts_ok (m : Nat) : KnownOk C Try.prog (Ψ_law17_ManchesterInverts m) := by
  intro f φ h
  unfold Ψ_law17_ManchesterInverts at h
  split at h
  · injection h with h; subst h; exact K_law17_awake_ok m
  · injection h with h; subst h; exact K_manchester_Encode_ok m
  · injection h with h; subst h; exact K_manchester_Decode_ok m
  · injection h with h; subst h; exact K_ref07_Same_ok m
  · injection h with h; subst h; exact K_ref08_Invert_ok m
  · injection h with h; subst h; exact K_ref08_Same_ok m
  · cases h
def w_law17_ManchesterInverts (b : Bool) : List (RV C) := [dBool.e b]
noncomputable def Q_law17_ManchesterInverts_7 (m : Nat) : St C → (Exit → St C → Option (List (RV C))) → Option (List (RV C)) := fun σ k => codeK Try.prog (Ψ_law17_ManchesterInverts m) (callK Try.prog (Ψ_law17_ManchesterInverts m) keep m 0) (keep 8) m (subC body8 [.r, .r, .r, .r, .r, .l, .r, .b, .o]) σ k
noncomputable def KL_law17_ManchesterInverts_7 (m : Nat) : Exit → St C → Option (List (RV C)) := contK Try.prog (Ψ_law17_ManchesterInverts m) (callK Try.prog (Ψ_law17_ManchesterInverts m) keep m 0) (keep 8) m body8 [.r, .r, .r, .r, .r, .l, .r, .b, .o] (leaveK Try.prog Try.f8.results.toList (finK Try.prog Try.f8.resultTypes.toList))
noncomputable def L_law17_ManchesterInverts_l7 (m n : Nat) (i_9 : Int) (l_1 : List Event) (items_2 : List Item) (c2 : Manchester) (c3 : Manchester) (m_8 : List Event) : Option (List (RV C)) := iterK (Q_law17_ManchesterInverts_7 m) (St.norm (keep 8 7)) n ({ T := [.dead, .fl (.one (.sl 0)), .fl (.one (.sl 1)), .fl (.one (.ptr 2 0)), .dead, .dead, .dead, .fl (.one (.ptr 3 0)), .fl (.one (.sl 4)), .fl (.one (.int .i64 i_9))] ++ List.replicate 81 .dead, F := [[]], H := [.row 29 false l_1, .row 52 false items_2, .box 25 (cells_Manchester c2), .box 25 (cells_Manchester c3), .row 29 true m_8] } : St C) (KL_law17_ManchesterInverts_7 m)
noncomputable def b_law17_ManchesterInverts_l7 {R : Type} (m : Nat) (ret : Bool → Option R) (k_l7 : Int → List Event → List Item → Manchester → Manchester → List Event → Option R) (i_9 : Int) (l_1 : List Event) (items_2 : List Item) (c2 : Manchester) (c3 : Manchester) (m_8 : List Event) : Option R :=
 bif decide (i_9 < (l_1.length : Int)) then
 bif decide (0 ≤ i_9) then
 bif decide (i_9 < (l_1.length : Int)) then
 bif (l_1.getD i_9.toNat dflt_Event).Kind == 1 then
 bif (l_1.getD i_9.toNat dflt_Event).Value == 0 then
 bif decide ((m_8.length + 1) * 64 ≤ 140737488355328) then
 k_l7 (IntKind.i64.wrap (i_9 + 1)) l_1 items_2 c2 c3 (m_8 ++ [Event.mk (l_1.getD i_9.toNat dflt_Event).Kind (l_1.getD i_9.toNat dflt_Event).From (l_1.getD i_9.toNat dflt_Event).To (IntKind.i64.wrap (1 - (l_1.getD i_9.toNat dflt_Event).Value)) (l_1.getD i_9.toNat dflt_Event).Aux (l_1.getD i_9.toNat dflt_Event).Data (l_1.getD i_9.toNat dflt_Event).Fault])
 else
 none
 else
 bif (l_1.getD i_9.toNat dflt_Event).Value == 1 then
 bif decide ((m_8.length + 1) * 64 ≤ 140737488355328) then
 k_l7 (IntKind.i64.wrap (i_9 + 1)) l_1 items_2 c2 c3 (m_8 ++ [Event.mk (l_1.getD i_9.toNat dflt_Event).Kind (l_1.getD i_9.toNat dflt_Event).From (l_1.getD i_9.toNat dflt_Event).To (IntKind.i64.wrap (1 - (l_1.getD i_9.toNat dflt_Event).Value)) (l_1.getD i_9.toNat dflt_Event).Aux (l_1.getD i_9.toNat dflt_Event).Data (l_1.getD i_9.toNat dflt_Event).Fault])
 else
 none
 else
 bif decide ((m_8.length + 1) * 64 ≤ 140737488355328) then
 k_l7 (IntKind.i64.wrap (i_9 + 1)) l_1 items_2 c2 c3 (m_8 ++ [l_1.getD i_9.toNat dflt_Event])
 else
 none
 else
 bif decide ((m_8.length + 1) * 64 ≤ 140737488355328) then
 k_l7 (IntKind.i64.wrap (i_9 + 1)) l_1 items_2 c2 c3 (m_8 ++ [l_1.getD i_9.toNat dflt_Event])
 else
 none
 else
 none
 else
 none
 else
 (manchester_Encode m c2 items_2).bind fun r0 =>
 (manchester_Encode m c3 items_2).bind fun r1 =>
 (manchester_Decode m c2 l_1).bind fun r2 =>
 (manchester_Decode m c3 m_8).bind fun r3 =>
 (ref07_Same m r2 r3).bind fun r4 =>
 bif r4 then
 (bif r0.snd == r1.snd then
 ((ref08_Invert m r0.fst).bind fun r5 =>
 (ref08_Same m r5 r1.fst).bind fun r6 =>
 bif r6 then
 ((law17_awake m).bind fun r7 =>
 ret r7)
 else
 ret false)
 else
 ret false)
 else
 ret false
theorem L_law17_ManchesterInverts_l7_step (m n : Nat) (i_9 : Int) (l_1 : List Event) (items_2 : List Item) (c2 : Manchester) (c3 : Manchester) (m_8 : List Event) : L_law17_ManchesterInverts_l7 m (n + 1) i_9 l_1 items_2 c2 c3 m_8 = b_law17_ManchesterInverts_l7 m (fun x0 => some (w_law17_ManchesterInverts x0)) (fun i_9 l_1 items_2 c2 c3 m_8 => L_law17_ManchesterInverts_l7 m n i_9 l_1 items_2 c2 c3 m_8) i_9 l_1 items_2 c2 c3 m_8 := by kernel_rfl
theorem b_law17_ManchesterInverts_l7_map (m : Nat) {k_l7 : Int → List Event → List Item → Manchester → Manchester → List Event → Option (List (RV C))} {q_l7 : Int → List Event → List Item → Manchester → Manchester → List Event → Option (Bool)} (h_l7 : ∀ i_9 l_1 items_2 c2 c3 m_8, k_l7 i_9 l_1 items_2 c2 c3 m_8 = (q_l7 i_9 l_1 items_2 c2 c3 m_8).map w_law17_ManchesterInverts) (i_9 : Int) (l_1 : List Event) (items_2 : List Item) (c2 : Manchester) (c3 : Manchester) (m_8 : List Event) : b_law17_ManchesterInverts_l7 m (fun x0 => some (w_law17_ManchesterInverts x0)) k_l7 i_9 l_1 items_2 c2 c3 m_8 = (b_law17_ManchesterInverts_l7 m (fun x0 => some x0) q_l7 i_9 l_1 items_2 c2 c3 m_8).map w_law17_ManchesterInverts := by
  simp only [b_law17_ManchesterInverts_l7, cond_map, bind_map, map_none, map_some, h_l7]
noncomputable def law17_ManchesterInverts_l7 (m : Nat) : Nat → Int → List Event → List Item → Manchester → Manchester → List Event → Option (Bool)
  | 0, _, _, _, _, _, _ => none
  | n + 1, i_9, l_1, items_2, c2, c3, m_8 => b_law17_ManchesterInverts_l7 m (fun x0 => some x0) (fun i_9 l_1 items_2 c2 c3 m_8 => law17_ManchesterInverts_l7 m n i_9 l_1 items_2 c2 c3 m_8) i_9 l_1 items_2 c2 c3 m_8
theorem L_law17_ManchesterInverts_l7_eq (m : Nat) : ∀ (n : Nat) (i_9 : Int) (l_1 : List Event) (items_2 : List Item) (c2 : Manchester) (c3 : Manchester) (m_8 : List Event), L_law17_ManchesterInverts_l7 m n i_9 l_1 items_2 c2 c3 m_8 = (law17_ManchesterInverts_l7 m n i_9 l_1 items_2 c2 c3 m_8).map w_law17_ManchesterInverts
  | 0, i_9, l_1, items_2, c2, c3, m_8 => by kernel_rfl
  | n + 1, i_9, l_1, items_2, c2, c3, m_8 => by
    rw [L_law17_ManchesterInverts_l7_step]
    exact b_law17_ManchesterInverts_l7_map m (fun i_9 l_1 items_2 c2 c3 m_8 => L_law17_ManchesterInverts_l7_eq m n i_9 l_1 items_2 c2 c3 m_8) i_9 l_1 items_2 c2 c3 m_8
noncomputable def b_law17_ManchesterInverts {R : Type} (m : Nat) (ret : Bool → Option R) (k_l7 : Int → List Event → List Item → Manchester → Manchester → List Event → Option R) (c_0 : Manchester) (l_1 : List Event) (items_2 : List Item) : Option R :=
 bif decide ((l_1.length : Int) > 2000) then
 ((law17_awake m).bind fun r0 =>
 ret r0)
 else
 bif decide ((l_1.length : Int) * 64 ≤ 140737488355328) then
 k_l7 0 l_1 items_2 c_0 { c_0 with Ieee := !c_0.Ieee } (List.replicate 0 (Event.mk 0 0 0 0 0 (bs []) 0))
 else
 none
theorem law17_ManchesterInverts_pre (m : Nat) (c_0 : Manchester) (l_1 : List Event) (items_2 : List Item) : funK Try.prog (Ψ_law17_ManchesterInverts m) keep m 1 8 [(dS of_Manchester cells_Manchester of_Manchester_ok).e c_0, (dRow 29).e l_1, (dRow 52).e items_2] = b_law17_ManchesterInverts m (fun x0 => some (w_law17_ManchesterInverts x0)) (fun i_9 l_1 items_2 c2 c3 m_8 => L_law17_ManchesterInverts_l7 m m i_9 l_1 items_2 c2 c3 m_8) c_0 l_1 items_2 := by kernel_rfl
theorem b_law17_ManchesterInverts_map (m : Nat) {k_l7 : Int → List Event → List Item → Manchester → Manchester → List Event → Option (List (RV C))} {q_l7 : Int → List Event → List Item → Manchester → Manchester → List Event → Option (Bool)} (h_l7 : ∀ i_9 l_1 items_2 c2 c3 m_8, k_l7 i_9 l_1 items_2 c2 c3 m_8 = (q_l7 i_9 l_1 items_2 c2 c3 m_8).map w_law17_ManchesterInverts) (c_0 : Manchester) (l_1 : List Event) (items_2 : List Item) : b_law17_ManchesterInverts m (fun x0 => some (w_law17_ManchesterInverts x0)) k_l7 c_0 l_1 items_2 = (b_law17_ManchesterInverts m (fun x0 => some x0) q_l7 c_0 l_1 items_2).map w_law17_ManchesterInverts := by
  simp only [b_law17_ManchesterInverts, cond_map, bind_map, map_none, map_some, h_l7]
noncomputable def law17_ManchesterInverts (m : Nat) (c_0 : Manchester) (l_1 : List Event) (items_2 : List Item) : Option (Bool) := b_law17_ManchesterInverts m (fun x0 => some x0) (fun i_9 l_1 items_2 c2 c3 m_8 => law17_ManchesterInverts_l7 m m i_9 l_1 items_2 c2 c3 m_8) c_0 l_1 items_2
theorem law17_ManchesterInverts_fun (m : Nat) (c_0 : Manchester) (l_1 : List Event) (items_2 : List Item) : funK Try.prog (Ψ_law17_ManchesterInverts m) keep m 1 8 [(dS of_Manchester cells_Manchester of_Manchester_ok).e c_0, (dRow 29).e l_1, (dRow 52).e items_2] = (law17_ManchesterInverts m c_0 l_1 items_2).map w_law17_ManchesterInverts := by
  rw [law17_ManchesterInverts_pre]
  exact b_law17_ManchesterInverts_map m (fun i_9 l_1 items_2 c2 c3 m_8 => L_law17_ManchesterInverts_l7_eq m m i_9 l_1 items_2 c2 c3 m_8) c_0 l_1 items_2
noncomputable def K_law17_ManchesterInverts (m : Nat) : KnownF C := mkK (dCons (dS of_Manchester cells_Manchester of_Manchester_ok) (dCons (dRow 29) (dCons (dRow 52) dNil))) (fun a => law17_ManchesterInverts m a.1 a.2.1 a.2.2.1) w_law17_ManchesterInverts
theorem K_law17_ManchesterInverts_ok (m : Nat) : KnownAt C Try.prog 8 fun l => (K_law17_ManchesterInverts m).run _ l some :=
  mkK_known good fit (Ψ_law17_ManchesterInverts_ok m) (keep := keep) (m := m) (d := 1) fun a => law17_ManchesterInverts_fun m a.1 a.2.1 a.2.2.1
/-! ### signalbench/signalbenchref08.Long -/
noncomputable def Ψ_ref08_Long (m : Nat) : Known C := fun f => match f with
  | 49 => some (K_ref08_Valid m)
  | _ => none
theorem Ψ_ref08_Long_ok (m : Nat) : KnownOk C Try.prog (Ψ_ref08_Long m) := by
  intro f φ h
  unfold Ψ_ref08_Long at h
  split at h
  · injection h with h; subst h; exact K_ref08_Valid_ok m
  · cases h
def w_ref08_Long (b : Int) : List (RV C) := [(dInt .i64).e b]
noncomputable def Q_ref08_Long_5 (m : Nat) : St C → (Exit → St C → Option (List (RV C))) → Option (List (RV C)) := fun σ k => codeK Try.prog (Ψ_ref08_Long m) (callK Try.prog (Ψ_ref08_Long m) keep m 0) (keep 29) m (subC body29 [.r, .r, .r, .l, .r, .b, .o]) σ k
noncomputable def KL_ref08_Long_5 (m : Nat) : Exit → St C → Option (List (RV C)) := contK Try.prog (Ψ_ref08_Long m) (callK Try.prog (Ψ_ref08_Long m) keep m 0) (keep 29) m body29 [.r, .r, .r, .l, .r, .b, .o] (leaveK Try.prog Try.f29.results.toList (finK Try.prog Try.f29.resultTypes.toList))
noncomputable def L_ref08_Long_l5 (m n : Nat) (sum_3 : Int) (i_4 : Int) (l_0 : List Run) : Option (List (RV C)) := iterK (Q_ref08_Long_5 m) (St.norm (keep 29 5)) n ({ T := [.fl (.one (.sl 0)), .dead, .dead, .fl (.one (.int .i64 sum_3)), .fl (.one (.int .i64 i_4))] ++ List.replicate 17 .dead, F := [[]], H := [.row 59 false l_0] } : St C) (KL_ref08_Long_5 m)
noncomputable def b_ref08_Long_l5 {R : Type} (m : Nat) (ret : Int → Option R) (k_l5 : Int → Int → List Run → Option R) (sum_3 : Int) (i_4 : Int) (l_0 : List Run) : Option R :=
 bif decide (i_4 < (l_0.length : Int)) then
 bif decide (0 ≤ i_4) then
 bif decide (i_4 < (l_0.length : Int)) then
 k_l5 (IntKind.i64.wrap (sum_3 + (l_0.getD i_4.toNat dflt_Run).Ticks)) (IntKind.i64.wrap (i_4 + 1)) l_0
 else
 none
 else
 none
 else
 ret sum_3
theorem L_ref08_Long_l5_step (m n : Nat) (sum_3 : Int) (i_4 : Int) (l_0 : List Run) : L_ref08_Long_l5 m (n + 1) sum_3 i_4 l_0 = b_ref08_Long_l5 m (fun x0 => some (w_ref08_Long x0)) (fun sum_3 i_4 l_0 => L_ref08_Long_l5 m n sum_3 i_4 l_0) sum_3 i_4 l_0 := by kernel_rfl
theorem b_ref08_Long_l5_map (m : Nat) {k_l5 : Int → Int → List Run → Option (List (RV C))} {q_l5 : Int → Int → List Run → Option (Int)} (h_l5 : ∀ sum_3 i_4 l_0, k_l5 sum_3 i_4 l_0 = (q_l5 sum_3 i_4 l_0).map w_ref08_Long) (sum_3 : Int) (i_4 : Int) (l_0 : List Run) : b_ref08_Long_l5 m (fun x0 => some (w_ref08_Long x0)) k_l5 sum_3 i_4 l_0 = (b_ref08_Long_l5 m (fun x0 => some x0) q_l5 sum_3 i_4 l_0).map w_ref08_Long := by
  simp only [b_ref08_Long_l5, cond_map, bind_map, map_none, map_some, h_l5]
noncomputable def ref08_Long_l5 (m : Nat) : Nat → Int → Int → List Run → Option (Int)
  | 0, _, _, _ => none
  | n + 1, sum_3, i_4, l_0 => b_ref08_Long_l5 m (fun x0 => some x0) (fun sum_3 i_4 l_0 => ref08_Long_l5 m n sum_3 i_4 l_0) sum_3 i_4 l_0
theorem L_ref08_Long_l5_eq (m : Nat) : ∀ (n : Nat) (sum_3 : Int) (i_4 : Int) (l_0 : List Run), L_ref08_Long_l5 m n sum_3 i_4 l_0 = (ref08_Long_l5 m n sum_3 i_4 l_0).map w_ref08_Long
  | 0, sum_3, i_4, l_0 => by kernel_rfl
  | n + 1, sum_3, i_4, l_0 => by
    rw [L_ref08_Long_l5_step]
    exact b_ref08_Long_l5_map m (fun sum_3 i_4 l_0 => L_ref08_Long_l5_eq m n sum_3 i_4 l_0) sum_3 i_4 l_0
noncomputable def b_ref08_Long {R : Type} (m : Nat) (ret : Int → Option R) (k_l5 : Int → Int → List Run → Option R) (l_0 : List Run) : Option R :=
 (ref08_Valid m l_0).bind fun r0 =>
 bif !r0 then
 ret 0
 else
 k_l5 0 0 l_0
theorem ref08_Long_pre (m : Nat) (l_0 : List Run) : funK Try.prog (Ψ_ref08_Long m) keep m 1 29 [(dRow 59).e l_0] = b_ref08_Long m (fun x0 => some (w_ref08_Long x0)) (fun sum_3 i_4 l_0 => L_ref08_Long_l5 m m sum_3 i_4 l_0) l_0 := by kernel_rfl
theorem b_ref08_Long_map (m : Nat) {k_l5 : Int → Int → List Run → Option (List (RV C))} {q_l5 : Int → Int → List Run → Option (Int)} (h_l5 : ∀ sum_3 i_4 l_0, k_l5 sum_3 i_4 l_0 = (q_l5 sum_3 i_4 l_0).map w_ref08_Long) (l_0 : List Run) : b_ref08_Long m (fun x0 => some (w_ref08_Long x0)) k_l5 l_0 = (b_ref08_Long m (fun x0 => some x0) q_l5 l_0).map w_ref08_Long := by
  simp only [b_ref08_Long, cond_map, bind_map, map_none, map_some, h_l5]
noncomputable def ref08_Long (m : Nat) (l_0 : List Run) : Option (Int) := b_ref08_Long m (fun x0 => some x0) (fun sum_3 i_4 l_0 => ref08_Long_l5 m m sum_3 i_4 l_0) l_0
theorem ref08_Long_fun (m : Nat) (l_0 : List Run) : funK Try.prog (Ψ_ref08_Long m) keep m 1 29 [(dRow 59).e l_0] = (ref08_Long m l_0).map w_ref08_Long := by
  rw [ref08_Long_pre]
  exact b_ref08_Long_map m (fun sum_3 i_4 l_0 => L_ref08_Long_l5_eq m m sum_3 i_4 l_0) l_0
noncomputable def K_ref08_Long (m : Nat) : KnownF C := mkK (dCons (dRow 59) dNil) (fun a => ref08_Long m a.1) w_ref08_Long
theorem K_ref08_Long_ok (m : Nat) : KnownAt C Try.prog 29 fun l => (K_ref08_Long m).run _ l some :=
  mkK_known good fit (Ψ_ref08_Long_ok m) (keep := keep) (m := m) (d := 1) fun a => ref08_Long_fun m a.1
/-! ### signalbench/signalbenchlaw17.ManchesterResumes -/
noncomputable def Ψ_law17_ManchesterResumes (m : Nat) : Known C := fun f => match f with
  | 14 => some (K_manchester_Encode m)
  | 29 => some (K_ref08_Long m)
  | 12 => some (K_law17_awake m)
  | 18 => some (K_manchester_Decode m)
  | 15 => some (K_manchester_Expect m)
  | _ => none
theorem Ψ_law17_ManchesterResumes_ok (m : Nat) : KnownOk C Try.prog (Ψ_law17_ManchesterResumes m) := by
  intro f φ h
  unfold Ψ_law17_ManchesterResumes at h
  split at h
  · injection h with h; subst h; exact K_manchester_Encode_ok m
  · injection h with h; subst h; exact K_ref08_Long_ok m
  · injection h with h; subst h; exact K_law17_awake_ok m
  · injection h with h; subst h; exact K_manchester_Decode_ok m
  · injection h with h; subst h; exact K_manchester_Expect_ok m
  · cases h
def w_law17_ManchesterResumes (b : Bool) : List (RV C) := [dBool.e b]
noncomputable def Q_law17_ManchesterResumes_7 (m : Nat) : St C → (Exit → St C → Option (List (RV C))) → Option (List (RV C)) := fun σ k => codeK Try.prog (Ψ_law17_ManchesterResumes m) (callK Try.prog (Ψ_law17_ManchesterResumes m) keep m 0) (keep 9) m (subC body9 [.r, .r, .r, .r, .r, .l, .r, .b, .o]) σ k
noncomputable def KL_law17_ManchesterResumes_7 (m : Nat) : Exit → St C → Option (List (RV C)) := contK Try.prog (Ψ_law17_ManchesterResumes m) (callK Try.prog (Ψ_law17_ManchesterResumes m) keep m 0) (keep 9) m body9 [.r, .r, .r, .r, .r, .l, .r, .b, .o] (leaveK Try.prog Try.f9.results.toList (finK Try.prog Try.f9.resultTypes.toList))
noncomputable def Q_law17_ManchesterResumes_15 (m : Nat) : St C → (Exit → St C → Option (List (RV C))) → Option (List (RV C)) := fun σ k => codeK Try.prog (Ψ_law17_ManchesterResumes m) (callK Try.prog (Ψ_law17_ManchesterResumes m) keep m 0) (keep 9) m (subC body9 [.r, .r, .r, .r, .r, .r, .r, .l, .r, .b, .o]) σ k
noncomputable def KL_law17_ManchesterResumes_15 (m : Nat) : Exit → St C → Option (List (RV C)) := contK Try.prog (Ψ_law17_ManchesterResumes m) (callK Try.prog (Ψ_law17_ManchesterResumes m) keep m 0) (keep 9) m body9 [.r, .r, .r, .r, .r, .r, .r, .l, .r, .b, .o] (leaveK Try.prog Try.f9.results.toList (finK Try.prog Try.f9.resultTypes.toList))
noncomputable def Q_law17_ManchesterResumes_24 (m : Nat) : St C → (Exit → St C → Option (List (RV C))) → Option (List (RV C)) := fun σ k => codeK Try.prog (Ψ_law17_ManchesterResumes m) (callK Try.prog (Ψ_law17_ManchesterResumes m) keep m 0) (keep 9) m (subC body9 [.r, .r, .r, .r, .r, .r, .r, .r, .r, .r, .r, .l, .r, .b, .o]) σ k
noncomputable def KL_law17_ManchesterResumes_24 (m : Nat) : Exit → St C → Option (List (RV C)) := contK Try.prog (Ψ_law17_ManchesterResumes m) (callK Try.prog (Ψ_law17_ManchesterResumes m) keep m 0) (keep 9) m body9 [.r, .r, .r, .r, .r, .r, .r, .r, .r, .r, .r, .l, .r, .b, .o] (leaveK Try.prog Try.f9.results.toList (finK Try.prog Try.f9.resultTypes.toList))
noncomputable def L_law17_ManchesterResumes_l7 (m n : Nat) (begin_9 : Int) (i_11 : Int) (ahead_1 : List Run) (l_2 : List Item) (c2 : Manchester) (runs_7 : List Run) (all_10 : List Event) : Option (List (RV C)) := iterK (Q_law17_ManchesterResumes_7 m) (St.norm (keep 9 7)) n ({ T := [.dead, .fl (.one (.sl 0)), .fl (.one (.sl 1)), .fl (.one (.ptr 2 0)), .dead, .dead, .dead, .fl (.one (.sl 3)), .dead, .fl (.one (.int .i64 begin_9)), .fl (.one (.sl 4)), .fl (.one (.int .i64 i_11))] ++ List.replicate 170 .dead, F := [[]], H := [.row 59 false ahead_1, .row 52 false l_2, .box 25 (cells_Manchester c2), .row 59 true runs_7, .row 29 true all_10] } : St C) (KL_law17_ManchesterResumes_7 m)
noncomputable def L_law17_ManchesterResumes_l15 (m n : Nat) (begin_9 : Int) (end_12 : Int) (i_13 : Int) (l_2 : List Item) (c1 : Manchester) (runs_7 : List Run) (all_10 : List Event) : Option (List (RV C)) := iterK (Q_law17_ManchesterResumes_15 m) (St.norm (keep 9 15)) n ({ T := [.dead, .dead, .fl (.one (.sl 0)), .fl (.one (.ptr 1 0)), .dead, .dead, .dead, .fl (.one (.sl 2)), .dead, .fl (.one (.int .i64 begin_9)), .fl (.one (.sl 3)), .dead, .fl (.one (.int .i64 end_12)), .fl (.one (.int .i64 i_13))] ++ List.replicate 168 .dead, F := [[]], H := [.row 52 false l_2, .box 25 (cells_Manchester c1), .row 59 true runs_7, .row 29 true all_10] } : St C) (KL_law17_ManchesterResumes_15 m)
noncomputable def L_law17_ManchesterResumes_l24 (m n : Nat) (begin_9 : Int) (i_17 : Int) (m_14 : List Event) (want_15 : List Event) : Option (List (RV C)) := iterK (Q_law17_ManchesterResumes_24 m) (St.norm (keep 9 24)) n ({ T := [.dead, .dead, .dead, .dead, .dead, .dead, .dead, .dead, .dead, .fl (.one (.int .i64 begin_9)), .dead, .dead, .dead, .dead, .fl (.one (.sl 0)), .fl (.one (.sl 1)), .dead, .fl (.one (.int .i64 i_17))] ++ List.replicate 164 .dead, F := [[]], H := [.row 29 true m_14, .row 29 true want_15] } : St C) (KL_law17_ManchesterResumes_24 m)
noncomputable def b_law17_ManchesterResumes_l24 {R : Type} (m : Nat) (ret : Bool → Option R) (k_l24 : Int → Int → List Event → List Event → Option R) (begin_9 : Int) (i_17 : Int) (m_14 : List Event) (want_15 : List Event) : Option R :=
 bif decide (i_17 < (want_15.length : Int)) then
 bif decide (0 ≤ IntKind.i64.wrap (IntKind.i64.wrap ((m_14.length : Int) - (want_15.length : Int)) + i_17)) then
 bif decide (IntKind.i64.wrap (IntKind.i64.wrap ((m_14.length : Int) - (want_15.length : Int)) + i_17) < (m_14.length : Int)) then
 bif decide (0 ≤ i_17) then
 bif decide (i_17 < (want_15.length : Int)) then
 bif !((m_14.getD (IntKind.i64.wrap (IntKind.i64.wrap ((m_14.length : Int) - (want_15.length : Int)) + i_17)).toNat dflt_Event).Kind == (want_15.getD i_17.toNat dflt_Event).Kind && (IntKind.i64.wrap ((m_14.getD (IntKind.i64.wrap (IntKind.i64.wrap ((m_14.length : Int) - (want_15.length : Int)) + i_17)).toNat dflt_Event).From - begin_9) == (want_15.getD i_17.toNat dflt_Event).From && (IntKind.i64.wrap ((m_14.getD (IntKind.i64.wrap (IntKind.i64.wrap ((m_14.length : Int) - (want_15.length : Int)) + i_17)).toNat dflt_Event).To - begin_9) == (want_15.getD i_17.toNat dflt_Event).To && ((m_14.getD (IntKind.i64.wrap (IntKind.i64.wrap ((m_14.length : Int) - (want_15.length : Int)) + i_17)).toNat dflt_Event).Value == (want_15.getD i_17.toNat dflt_Event).Value && ((m_14.getD (IntKind.i64.wrap (IntKind.i64.wrap ((m_14.length : Int) - (want_15.length : Int)) + i_17)).toNat dflt_Event).Aux == (want_15.getD i_17.toNat dflt_Event).Aux && ((m_14.getD (IntKind.i64.wrap (IntKind.i64.wrap ((m_14.length : Int) - (want_15.length : Int)) + i_17)).toNat dflt_Event).Data == (want_15.getD i_17.toNat dflt_Event).Data && ((m_14.getD (IntKind.i64.wrap (IntKind.i64.wrap ((m_14.length : Int) - (want_15.length : Int)) + i_17)).toNat dflt_Event).Fault == (want_15.getD i_17.toNat dflt_Event).Fault && true))))))) then
 ret false
 else
 k_l24 begin_9 (IntKind.i64.wrap (i_17 + 1)) m_14 want_15
 else
 none
 else
 none
 else
 none
 else
 none
 else
 (law17_awake m).bind fun r0 =>
 ret r0
theorem L_law17_ManchesterResumes_l24_step (m n : Nat) (begin_9 : Int) (i_17 : Int) (m_14 : List Event) (want_15 : List Event) : L_law17_ManchesterResumes_l24 m (n + 1) begin_9 i_17 m_14 want_15 = b_law17_ManchesterResumes_l24 m (fun x0 => some (w_law17_ManchesterResumes x0)) (fun begin_9 i_17 m_14 want_15 => L_law17_ManchesterResumes_l24 m n begin_9 i_17 m_14 want_15) begin_9 i_17 m_14 want_15 := by kernel_rfl
theorem b_law17_ManchesterResumes_l24_map (m : Nat) {k_l24 : Int → Int → List Event → List Event → Option (List (RV C))} {q_l24 : Int → Int → List Event → List Event → Option (Bool)} (h_l24 : ∀ begin_9 i_17 m_14 want_15, k_l24 begin_9 i_17 m_14 want_15 = (q_l24 begin_9 i_17 m_14 want_15).map w_law17_ManchesterResumes) (begin_9 : Int) (i_17 : Int) (m_14 : List Event) (want_15 : List Event) : b_law17_ManchesterResumes_l24 m (fun x0 => some (w_law17_ManchesterResumes x0)) k_l24 begin_9 i_17 m_14 want_15 = (b_law17_ManchesterResumes_l24 m (fun x0 => some x0) q_l24 begin_9 i_17 m_14 want_15).map w_law17_ManchesterResumes := by
  simp only [b_law17_ManchesterResumes_l24, cond_map, bind_map, map_none, map_some, h_l24]
noncomputable def law17_ManchesterResumes_l24 (m : Nat) : Nat → Int → Int → List Event → List Event → Option (Bool)
  | 0, _, _, _, _ => none
  | n + 1, begin_9, i_17, m_14, want_15 => b_law17_ManchesterResumes_l24 m (fun x0 => some x0) (fun begin_9 i_17 m_14 want_15 => law17_ManchesterResumes_l24 m n begin_9 i_17 m_14 want_15) begin_9 i_17 m_14 want_15
theorem L_law17_ManchesterResumes_l24_eq (m : Nat) : ∀ (n : Nat) (begin_9 : Int) (i_17 : Int) (m_14 : List Event) (want_15 : List Event), L_law17_ManchesterResumes_l24 m n begin_9 i_17 m_14 want_15 = (law17_ManchesterResumes_l24 m n begin_9 i_17 m_14 want_15).map w_law17_ManchesterResumes
  | 0, begin_9, i_17, m_14, want_15 => by kernel_rfl
  | n + 1, begin_9, i_17, m_14, want_15 => by
    rw [L_law17_ManchesterResumes_l24_step]
    exact b_law17_ManchesterResumes_l24_map m (fun begin_9 i_17 m_14 want_15 => L_law17_ManchesterResumes_l24_eq m n begin_9 i_17 m_14 want_15) begin_9 i_17 m_14 want_15
noncomputable def b_law17_ManchesterResumes_l15 {R : Type} (m : Nat) (ret : Bool → Option R) (k_l15 : Int → Int → Int → List Item → Manchester → List Run → List Event → Option R) (k_l24 : Int → Int → List Event → List Event → Option R) (begin_9 : Int) (end_12 : Int) (i_13 : Int) (l_2 : List Item) (c1 : Manchester) (runs_7 : List Run) (all_10 : List Event) : Option R :=
 bif decide (i_13 < (runs_7.length : Int)) then
 bif decide (0 ≤ i_13) then
 bif decide (i_13 < (runs_7.length : Int)) then
 bif decide (0 ≤ i_13) then
 bif decide (i_13 < (runs_7.length : Int)) then
 bif decide ((all_10.length + 1) * 64 ≤ 140737488355328) then
 bif decide (0 ≤ i_13) then
 bif decide (i_13 < (runs_7.length : Int)) then
 k_l15 begin_9 (IntKind.i64.wrap (end_12 + (runs_7.getD i_13.toNat dflt_Run).Ticks)) (IntKind.i64.wrap (i_13 + 1)) l_2 c1 runs_7 (all_10 ++ [Event.mk 1 end_12 (IntKind.i64.wrap (end_12 + (runs_7.getD i_13.toNat dflt_Run).Ticks)) (runs_7.getD i_13.toNat dflt_Run).Level 0 (bs []) 0])
 else
 none
 else
 none
 else
 none
 else
 none
 else
 none
 else
 none
 else
 none
 else
 (manchester_Decode m c1 all_10).bind fun r0 =>
 (manchester_Expect m c1 l_2).bind fun r1 =>
 bif r1.snd != 0 then
 ret false
 else
 bif decide ((r0.length : Int) < (r1.fst.length : Int)) then
 ret false
 else
 k_l24 begin_9 0 r0 r1.fst
theorem L_law17_ManchesterResumes_l15_step (m n : Nat) (begin_9 : Int) (end_12 : Int) (i_13 : Int) (l_2 : List Item) (c1 : Manchester) (runs_7 : List Run) (all_10 : List Event) : L_law17_ManchesterResumes_l15 m (n + 1) begin_9 end_12 i_13 l_2 c1 runs_7 all_10 = b_law17_ManchesterResumes_l15 m (fun x0 => some (w_law17_ManchesterResumes x0)) (fun begin_9 end_12 i_13 l_2 c1 runs_7 all_10 => L_law17_ManchesterResumes_l15 m n begin_9 end_12 i_13 l_2 c1 runs_7 all_10) (fun begin_9 i_17 m_14 want_15 => L_law17_ManchesterResumes_l24 m m begin_9 i_17 m_14 want_15) begin_9 end_12 i_13 l_2 c1 runs_7 all_10 := by kernel_rfl
theorem b_law17_ManchesterResumes_l15_map (m : Nat) {k_l15 : Int → Int → Int → List Item → Manchester → List Run → List Event → Option (List (RV C))} {q_l15 : Int → Int → Int → List Item → Manchester → List Run → List Event → Option (Bool)} (h_l15 : ∀ begin_9 end_12 i_13 l_2 c1 runs_7 all_10, k_l15 begin_9 end_12 i_13 l_2 c1 runs_7 all_10 = (q_l15 begin_9 end_12 i_13 l_2 c1 runs_7 all_10).map w_law17_ManchesterResumes) {k_l24 : Int → Int → List Event → List Event → Option (List (RV C))} {q_l24 : Int → Int → List Event → List Event → Option (Bool)} (h_l24 : ∀ begin_9 i_17 m_14 want_15, k_l24 begin_9 i_17 m_14 want_15 = (q_l24 begin_9 i_17 m_14 want_15).map w_law17_ManchesterResumes) (begin_9 : Int) (end_12 : Int) (i_13 : Int) (l_2 : List Item) (c1 : Manchester) (runs_7 : List Run) (all_10 : List Event) : b_law17_ManchesterResumes_l15 m (fun x0 => some (w_law17_ManchesterResumes x0)) k_l15 k_l24 begin_9 end_12 i_13 l_2 c1 runs_7 all_10 = (b_law17_ManchesterResumes_l15 m (fun x0 => some x0) q_l15 q_l24 begin_9 end_12 i_13 l_2 c1 runs_7 all_10).map w_law17_ManchesterResumes := by
  simp only [b_law17_ManchesterResumes_l15, cond_map, bind_map, map_none, map_some, h_l15, h_l24]
noncomputable def law17_ManchesterResumes_l15 (m : Nat) : Nat → Int → Int → Int → List Item → Manchester → List Run → List Event → Option (Bool)
  | 0, _, _, _, _, _, _, _ => none
  | n + 1, begin_9, end_12, i_13, l_2, c1, runs_7, all_10 => b_law17_ManchesterResumes_l15 m (fun x0 => some x0) (fun begin_9 end_12 i_13 l_2 c1 runs_7 all_10 => law17_ManchesterResumes_l15 m n begin_9 end_12 i_13 l_2 c1 runs_7 all_10) (fun begin_9 i_17 m_14 want_15 => law17_ManchesterResumes_l24 m m begin_9 i_17 m_14 want_15) begin_9 end_12 i_13 l_2 c1 runs_7 all_10
theorem L_law17_ManchesterResumes_l15_eq (m : Nat) : ∀ (n : Nat) (begin_9 : Int) (end_12 : Int) (i_13 : Int) (l_2 : List Item) (c1 : Manchester) (runs_7 : List Run) (all_10 : List Event), L_law17_ManchesterResumes_l15 m n begin_9 end_12 i_13 l_2 c1 runs_7 all_10 = (law17_ManchesterResumes_l15 m n begin_9 end_12 i_13 l_2 c1 runs_7 all_10).map w_law17_ManchesterResumes
  | 0, begin_9, end_12, i_13, l_2, c1, runs_7, all_10 => by kernel_rfl
  | n + 1, begin_9, end_12, i_13, l_2, c1, runs_7, all_10 => by
    rw [L_law17_ManchesterResumes_l15_step]
    exact b_law17_ManchesterResumes_l15_map m (fun begin_9 end_12 i_13 l_2 c1 runs_7 all_10 => L_law17_ManchesterResumes_l15_eq m n begin_9 end_12 i_13 l_2 c1 runs_7 all_10) (fun begin_9 i_17 m_14 want_15 => L_law17_ManchesterResumes_l24_eq m m begin_9 i_17 m_14 want_15) begin_9 end_12 i_13 l_2 c1 runs_7 all_10
noncomputable def b_law17_ManchesterResumes_l7 {R : Type} (m : Nat) (ret : Bool → Option R) (k_l7 : Int → Int → List Run → List Item → Manchester → List Run → List Event → Option R) (k_l15 : Int → Int → Int → List Item → Manchester → List Run → List Event → Option R) (begin_9 : Int) (i_11 : Int) (ahead_1 : List Run) (l_2 : List Item) (c2 : Manchester) (runs_7 : List Run) (all_10 : List Event) : Option R :=
 bif decide (i_11 < (ahead_1.length : Int)) then
 (bif decide (0 ≤ i_11) then
 (bif decide (i_11 < (ahead_1.length : Int)) then
 (bif decide ((ahead_1.getD i_11.toNat dflt_Run).Level < 0) then
 ((law17_awake m).bind fun r0 =>
 ret r0)
 else
 bif decide (0 ≤ i_11) then
 (bif decide (i_11 < (ahead_1.length : Int)) then
 (bif decide ((ahead_1.getD i_11.toNat dflt_Run).Level > 1) then
 ((law17_awake m).bind fun r1 =>
 ret r1)
 else
 bif decide (0 ≤ i_11) then
 (bif decide (i_11 < (ahead_1.length : Int)) then
 (bif decide ((ahead_1.getD i_11.toNat dflt_Run).Ticks < 1) then
 ((law17_awake m).bind fun r2 =>
 ret r2)
 else
 bif decide (0 ≤ i_11) then
 (bif decide (i_11 < (ahead_1.length : Int)) then
 (bif decide ((ahead_1.getD i_11.toNat dflt_Run).Ticks > 1048576) then
 ((law17_awake m).bind fun r3 =>
 ret r3)
 else
 bif decide (0 ≤ i_11) then
 bif decide (i_11 < (ahead_1.length : Int)) then
 bif decide (0 ≤ i_11) then
 bif decide (i_11 < (ahead_1.length : Int)) then
 bif decide ((all_10.length + 1) * 64 ≤ 140737488355328) then
 bif decide (0 ≤ i_11) then
 bif decide (i_11 < (ahead_1.length : Int)) then
 k_l7 (IntKind.i64.wrap (begin_9 + (ahead_1.getD i_11.toNat dflt_Run).Ticks)) (IntKind.i64.wrap (i_11 + 1)) ahead_1 l_2 c2 runs_7 (all_10 ++ [Event.mk 1 begin_9 (IntKind.i64.wrap (begin_9 + (ahead_1.getD i_11.toNat dflt_Run).Ticks)) (ahead_1.getD i_11.toNat dflt_Run).Level 0 (bs []) 0])
 else
 none
 else
 none
 else
 none
 else
 none
 else
 none
 else
 none
 else
 none)
 else
 none)
 else
 none)
 else
 none)
 else
 none)
 else
 none)
 else
 none)
 else
 none)
 else
 none)
 else
 k_l15 begin_9 begin_9 0 l_2 c2 runs_7 all_10
theorem L_law17_ManchesterResumes_l7_step (m n : Nat) (begin_9 : Int) (i_11 : Int) (ahead_1 : List Run) (l_2 : List Item) (c2 : Manchester) (runs_7 : List Run) (all_10 : List Event) : L_law17_ManchesterResumes_l7 m (n + 1) begin_9 i_11 ahead_1 l_2 c2 runs_7 all_10 = b_law17_ManchesterResumes_l7 m (fun x0 => some (w_law17_ManchesterResumes x0)) (fun begin_9 i_11 ahead_1 l_2 c2 runs_7 all_10 => L_law17_ManchesterResumes_l7 m n begin_9 i_11 ahead_1 l_2 c2 runs_7 all_10) (fun begin_9 end_12 i_13 l_2 c1 runs_7 all_10 => L_law17_ManchesterResumes_l15 m m begin_9 end_12 i_13 l_2 c1 runs_7 all_10) begin_9 i_11 ahead_1 l_2 c2 runs_7 all_10 := by kernel_rfl
theorem b_law17_ManchesterResumes_l7_map (m : Nat) {k_l7 : Int → Int → List Run → List Item → Manchester → List Run → List Event → Option (List (RV C))} {q_l7 : Int → Int → List Run → List Item → Manchester → List Run → List Event → Option (Bool)} (h_l7 : ∀ begin_9 i_11 ahead_1 l_2 c2 runs_7 all_10, k_l7 begin_9 i_11 ahead_1 l_2 c2 runs_7 all_10 = (q_l7 begin_9 i_11 ahead_1 l_2 c2 runs_7 all_10).map w_law17_ManchesterResumes) {k_l15 : Int → Int → Int → List Item → Manchester → List Run → List Event → Option (List (RV C))} {q_l15 : Int → Int → Int → List Item → Manchester → List Run → List Event → Option (Bool)} (h_l15 : ∀ begin_9 end_12 i_13 l_2 c1 runs_7 all_10, k_l15 begin_9 end_12 i_13 l_2 c1 runs_7 all_10 = (q_l15 begin_9 end_12 i_13 l_2 c1 runs_7 all_10).map w_law17_ManchesterResumes) (begin_9 : Int) (i_11 : Int) (ahead_1 : List Run) (l_2 : List Item) (c2 : Manchester) (runs_7 : List Run) (all_10 : List Event) : b_law17_ManchesterResumes_l7 m (fun x0 => some (w_law17_ManchesterResumes x0)) k_l7 k_l15 begin_9 i_11 ahead_1 l_2 c2 runs_7 all_10 = (b_law17_ManchesterResumes_l7 m (fun x0 => some x0) q_l7 q_l15 begin_9 i_11 ahead_1 l_2 c2 runs_7 all_10).map w_law17_ManchesterResumes := by
  simp only [b_law17_ManchesterResumes_l7, cond_map, bind_map, map_none, map_some, h_l7, h_l15]
noncomputable def law17_ManchesterResumes_l7 (m : Nat) : Nat → Int → Int → List Run → List Item → Manchester → List Run → List Event → Option (Bool)
  | 0, _, _, _, _, _, _, _ => none
  | n + 1, begin_9, i_11, ahead_1, l_2, c2, runs_7, all_10 => b_law17_ManchesterResumes_l7 m (fun x0 => some x0) (fun begin_9 i_11 ahead_1 l_2 c2 runs_7 all_10 => law17_ManchesterResumes_l7 m n begin_9 i_11 ahead_1 l_2 c2 runs_7 all_10) (fun begin_9 end_12 i_13 l_2 c1 runs_7 all_10 => law17_ManchesterResumes_l15 m m begin_9 end_12 i_13 l_2 c1 runs_7 all_10) begin_9 i_11 ahead_1 l_2 c2 runs_7 all_10
theorem L_law17_ManchesterResumes_l7_eq (m : Nat) : ∀ (n : Nat) (begin_9 : Int) (i_11 : Int) (ahead_1 : List Run) (l_2 : List Item) (c2 : Manchester) (runs_7 : List Run) (all_10 : List Event), L_law17_ManchesterResumes_l7 m n begin_9 i_11 ahead_1 l_2 c2 runs_7 all_10 = (law17_ManchesterResumes_l7 m n begin_9 i_11 ahead_1 l_2 c2 runs_7 all_10).map w_law17_ManchesterResumes
  | 0, begin_9, i_11, ahead_1, l_2, c2, runs_7, all_10 => by kernel_rfl
  | n + 1, begin_9, i_11, ahead_1, l_2, c2, runs_7, all_10 => by
    rw [L_law17_ManchesterResumes_l7_step]
    exact b_law17_ManchesterResumes_l7_map m (fun begin_9 i_11 ahead_1 l_2 c2 runs_7 all_10 => L_law17_ManchesterResumes_l7_eq m n begin_9 i_11 ahead_1 l_2 c2 runs_7 all_10) (fun begin_9 end_12 i_13 l_2 c1 runs_7 all_10 => L_law17_ManchesterResumes_l15_eq m m begin_9 end_12 i_13 l_2 c1 runs_7 all_10) begin_9 i_11 ahead_1 l_2 c2 runs_7 all_10
noncomputable def b_law17_ManchesterResumes {R : Type} (m : Nat) (ret : Bool → Option R) (k_l7 : Int → Int → List Run → List Item → Manchester → List Run → List Event → Option R) (c_0 : Manchester) (ahead_1 : List Run) (l_2 : List Item) : Option R :=
 (manchester_Encode m c_0 l_2).bind fun r0 =>
 bif r0.snd != 0 then
 ((law17_awake m).bind fun r1 =>
 ret r1)
 else
 bif decide ((ahead_1.length : Int) > 200) then
 ((law17_awake m).bind fun r2 =>
 ret r2)
 else
 (ref08_Long m r0.fst).bind fun r3 =>
 bif decide (r3 > 549755813888) then
 ((law17_awake m).bind fun r4 =>
 ret r4)
 else
 k_l7 0 0 ahead_1 l_2 c_0 r0.fst []
theorem law17_ManchesterResumes_pre (m : Nat) (c_0 : Manchester) (ahead_1 : List Run) (l_2 : List Item) : funK Try.prog (Ψ_law17_ManchesterResumes m) keep m 1 9 [(dS of_Manchester cells_Manchester of_Manchester_ok).e c_0, (dRow 59).e ahead_1, (dRow 52).e l_2] = b_law17_ManchesterResumes m (fun x0 => some (w_law17_ManchesterResumes x0)) (fun begin_9 i_11 ahead_1 l_2 c2 runs_7 all_10 => L_law17_ManchesterResumes_l7 m m begin_9 i_11 ahead_1 l_2 c2 runs_7 all_10) c_0 ahead_1 l_2 := by kernel_rfl
theorem b_law17_ManchesterResumes_map (m : Nat) {k_l7 : Int → Int → List Run → List Item → Manchester → List Run → List Event → Option (List (RV C))} {q_l7 : Int → Int → List Run → List Item → Manchester → List Run → List Event → Option (Bool)} (h_l7 : ∀ begin_9 i_11 ahead_1 l_2 c2 runs_7 all_10, k_l7 begin_9 i_11 ahead_1 l_2 c2 runs_7 all_10 = (q_l7 begin_9 i_11 ahead_1 l_2 c2 runs_7 all_10).map w_law17_ManchesterResumes) (c_0 : Manchester) (ahead_1 : List Run) (l_2 : List Item) : b_law17_ManchesterResumes m (fun x0 => some (w_law17_ManchesterResumes x0)) k_l7 c_0 ahead_1 l_2 = (b_law17_ManchesterResumes m (fun x0 => some x0) q_l7 c_0 ahead_1 l_2).map w_law17_ManchesterResumes := by
  simp only [b_law17_ManchesterResumes, cond_map, bind_map, map_none, map_some, h_l7]
noncomputable def law17_ManchesterResumes (m : Nat) (c_0 : Manchester) (ahead_1 : List Run) (l_2 : List Item) : Option (Bool) := b_law17_ManchesterResumes m (fun x0 => some x0) (fun begin_9 i_11 ahead_1 l_2 c2 runs_7 all_10 => law17_ManchesterResumes_l7 m m begin_9 i_11 ahead_1 l_2 c2 runs_7 all_10) c_0 ahead_1 l_2
theorem law17_ManchesterResumes_fun (m : Nat) (c_0 : Manchester) (ahead_1 : List Run) (l_2 : List Item) : funK Try.prog (Ψ_law17_ManchesterResumes m) keep m 1 9 [(dS of_Manchester cells_Manchester of_Manchester_ok).e c_0, (dRow 59).e ahead_1, (dRow 52).e l_2] = (law17_ManchesterResumes m c_0 ahead_1 l_2).map w_law17_ManchesterResumes := by
  rw [law17_ManchesterResumes_pre]
  exact b_law17_ManchesterResumes_map m (fun begin_9 i_11 ahead_1 l_2 c2 runs_7 all_10 => L_law17_ManchesterResumes_l7_eq m m begin_9 i_11 ahead_1 l_2 c2 runs_7 all_10) c_0 ahead_1 l_2
noncomputable def K_law17_ManchesterResumes (m : Nat) : KnownF C := mkK (dCons (dS of_Manchester cells_Manchester of_Manchester_ok) (dCons (dRow 59) (dCons (dRow 52) dNil))) (fun a => law17_ManchesterResumes m a.1 a.2.1 a.2.2.1) w_law17_ManchesterResumes
theorem K_law17_ManchesterResumes_ok (m : Nat) : KnownAt C Try.prog 9 fun l => (K_law17_ManchesterResumes m).run _ l some :=
  mkK_known good fit (Ψ_law17_ManchesterResumes_ok m) (keep := keep) (m := m) (d := 1) fun a => law17_ManchesterResumes_fun m a.1 a.2.1 a.2.2.1
end Go.Abs.K
