/- Plain functions for the functions of the seat, printed by a program of this claim's own, with their proofs. -/
import Derived.Test.YtdimnfdmnhiadaaB
set_option linter.unusedVariables false
set_option linter.unusedSimpArgs false
set_option maxRecDepth 100000
namespace Go.Abs.K
open Go Go.Abs Go.Proofs
/-! ### signalbench/octet.PutUint -/
def w_octet_PutUint (b : List Int) : List (RV C) := [(dRow 5).e b]
noncomputable def Q_octet_PutUint_2 (m : Nat) : St C → (Exit → St C → Option (List (RV C))) → Option (List (RV C)) := fun σ k => codeK Try.prog Ψ0 (callK Try.prog Ψ0 keep m 0) (keep 9) m (subC body9 [.r, .r, .l, .b, .o]) σ k
noncomputable def KL_octet_PutUint_2 (m : Nat) : Exit → St C → Option (List (RV C)) := contK Try.prog Ψ0 (callK Try.prog Ψ0 keep m 0) (keep 9) m body9 [.r, .r, .l, .b, .o] (leaveK Try.prog Try.f9.results.toList (finK Try.prog Try.f9.resultTypes.toList))
noncomputable def L_octet_PutUint_l2 (m n : Nat) (n_1 : Int) (b_0 : List Int) : Option (List (RV C)) := iterK (Q_octet_PutUint_2 m) (St.norm (keep 9 2)) n ({ T := [.fl (.one (.tsl 0)), .fl (.one (.int .u64 n_1))] ++ List.replicate 25 .dead, F := [[]], H := [.row 5 false b_0] } : St C) (KL_octet_PutUint_2 m)
noncomputable def L_octet_PutUint_l2s1 (m n : Nat) (n_1 : Int) (b_0 : List Int) : Option (List (RV C)) := iterK (Q_octet_PutUint_2 m) (St.norm (keep 9 2)) n ({ T := [.fl (.one (.sl 0)), .fl (.one (.int .u64 n_1))] ++ List.replicate 25 .dead, F := [[]], H := [.row 5 true b_0] } : St C) (KL_octet_PutUint_2 m)
noncomputable def b_octet_PutUint_l2s1 {R : Type} (m : Nat) (ret : List Int → Option R) (k_l2s1 : Int → List Int → Option R) (n_1 : Int) (b_0 : List Int) : Option R :=
 bif decide (n_1 ≥ 128) then
 bif decide ((b_0.length + 1) * 1 ≤ 140737488355328) then
 k_l2s1 (n_1.fdiv 128) (b_0 ++ [IntKind.u8.wrap (((BitVec.ofInt 8 (IntKind.u8.wrap (IntKind.u64.wrap (((BitVec.ofInt 64 n_1 &&& BitVec.ofInt 64 127).toNat : Int)))) ||| BitVec.ofInt 8 128).toNat : Int))])
 else
 none
 else
 bif decide ((b_0.length + 1) * 1 ≤ 140737488355328) then
 ret (b_0 ++ [IntKind.u8.wrap n_1])
 else
 none
theorem L_octet_PutUint_l2s1_step (m n : Nat) (n_1 : Int) (b_0 : List Int) : L_octet_PutUint_l2s1 m (n + 1) n_1 b_0 = b_octet_PutUint_l2s1 m (fun x0 => some (w_octet_PutUint x0)) (fun n_1 b_0 => L_octet_PutUint_l2s1 m n n_1 b_0) n_1 b_0 := by kernel_rfl
theorem b_octet_PutUint_l2s1_map (m : Nat) {k_l2s1 : Int → List Int → Option (List (RV C))} {q_l2s1 : Int → List Int → Option (List Int)} (h_l2s1 : ∀ n_1 b_0, k_l2s1 n_1 b_0 = (q_l2s1 n_1 b_0).map w_octet_PutUint) (n_1 : Int) (b_0 : List Int) : b_octet_PutUint_l2s1 m (fun x0 => some (w_octet_PutUint x0)) k_l2s1 n_1 b_0 = (b_octet_PutUint_l2s1 m (fun x0 => some x0) q_l2s1 n_1 b_0).map w_octet_PutUint := by
  simp only [b_octet_PutUint_l2s1, cond_map, bind_map, map_none, map_some, h_l2s1]
noncomputable def octet_PutUint_l2s1 (m : Nat) : Nat → Int → List Int → Option (List Int)
  | 0, _, _ => none
  | n + 1, n_1, b_0 => b_octet_PutUint_l2s1 m (fun x0 => some x0) (fun n_1 b_0 => octet_PutUint_l2s1 m n n_1 b_0) n_1 b_0
theorem L_octet_PutUint_l2s1_eq (m : Nat) : ∀ (n : Nat) (n_1 : Int) (b_0 : List Int), L_octet_PutUint_l2s1 m n n_1 b_0 = (octet_PutUint_l2s1 m n n_1 b_0).map w_octet_PutUint
  | 0, n_1, b_0 => by kernel_rfl
  | n + 1, n_1, b_0 => by
    rw [L_octet_PutUint_l2s1_step]
    exact b_octet_PutUint_l2s1_map m (fun n_1 b_0 => L_octet_PutUint_l2s1_eq m n n_1 b_0) n_1 b_0
noncomputable def b_octet_PutUint_l2 {R : Type} (m : Nat) (ret : List Int → Option R) (k_l2s1 : Int → List Int → Option R) (n_1 : Int) (b_0 : List Int) : Option R :=
 bif decide (n_1 ≥ 128) then
 bif decide ((b_0.length + 1) * 1 ≤ 140737488355328) then
 k_l2s1 (n_1.fdiv 128) (b_0 ++ [IntKind.u8.wrap (((BitVec.ofInt 8 (IntKind.u8.wrap (IntKind.u64.wrap (((BitVec.ofInt 64 n_1 &&& BitVec.ofInt 64 127).toNat : Int)))) ||| BitVec.ofInt 8 128).toNat : Int))])
 else
 none
 else
 bif decide ((b_0.length + 1) * 1 ≤ 140737488355328) then
 ret (b_0 ++ [IntKind.u8.wrap n_1])
 else
 none
theorem L_octet_PutUint_l2_step (m n : Nat) (n_1 : Int) (b_0 : List Int) : L_octet_PutUint_l2 m (n + 1) n_1 b_0 = b_octet_PutUint_l2 m (fun x0 => some (w_octet_PutUint x0)) (fun n_1 b_0 => L_octet_PutUint_l2s1 m n n_1 b_0) n_1 b_0 := by kernel_rfl
theorem b_octet_PutUint_l2_map (m : Nat) {k_l2s1 : Int → List Int → Option (List (RV C))} {q_l2s1 : Int → List Int → Option (List Int)} (h_l2s1 : ∀ n_1 b_0, k_l2s1 n_1 b_0 = (q_l2s1 n_1 b_0).map w_octet_PutUint) (n_1 : Int) (b_0 : List Int) : b_octet_PutUint_l2 m (fun x0 => some (w_octet_PutUint x0)) k_l2s1 n_1 b_0 = (b_octet_PutUint_l2 m (fun x0 => some x0) q_l2s1 n_1 b_0).map w_octet_PutUint := by
  simp only [b_octet_PutUint_l2, cond_map, bind_map, map_none, map_some, h_l2s1]
noncomputable def octet_PutUint_l2 (m : Nat) : Nat → Int → List Int → Option (List Int)
  | 0, _, _ => none
  | n + 1, n_1, b_0 => b_octet_PutUint_l2 m (fun x0 => some x0) (fun n_1 b_0 => octet_PutUint_l2s1 m n n_1 b_0) n_1 b_0
theorem L_octet_PutUint_l2_eq (m : Nat) : ∀ (n : Nat) (n_1 : Int) (b_0 : List Int), L_octet_PutUint_l2 m n n_1 b_0 = (octet_PutUint_l2 m n n_1 b_0).map w_octet_PutUint
  | 0, n_1, b_0 => by kernel_rfl
  | n + 1, n_1, b_0 => by
    rw [L_octet_PutUint_l2_step]
    exact b_octet_PutUint_l2_map m (fun n_1 b_0 => L_octet_PutUint_l2s1_eq m n n_1 b_0) n_1 b_0
noncomputable def b_octet_PutUint {R : Type} (m : Nat) (ret : List Int → Option R) (k_l2 : Int → List Int → Option R) (b_0 : List Int) (n_1 : Int) : Option R :=
 bif decide ((b_0.length : Int) ≤ (b_0.length : Int)) then
 bif decide ((b_0.length : Int) = (b_0.length : Int)) then
 k_l2 n_1 (List.drop 0 (List.take ((b_0.length : Int)).toNat b_0))
 else
 none
 else
 none
theorem octet_PutUint_pre (m : Nat) (b_0 : List Int) (n_1 : Int) : funK Try.prog Ψ0 keep m 1 9 [(dRow 5).e b_0, (dInt .u64).e n_1] = b_octet_PutUint m (fun x0 => some (w_octet_PutUint x0)) (fun n_1 b_0 => L_octet_PutUint_l2 m m n_1 b_0) b_0 n_1 := by kernel_rfl
theorem b_octet_PutUint_map (m : Nat) {k_l2 : Int → List Int → Option (List (RV C))} {q_l2 : Int → List Int → Option (List Int)} (h_l2 : ∀ n_1 b_0, k_l2 n_1 b_0 = (q_l2 n_1 b_0).map w_octet_PutUint) (b_0 : List Int) (n_1 : Int) : b_octet_PutUint m (fun x0 => some (w_octet_PutUint x0)) k_l2 b_0 n_1 = (b_octet_PutUint m (fun x0 => some x0) q_l2 b_0 n_1).map w_octet_PutUint := by
  simp only [b_octet_PutUint, cond_map, bind_map, map_none, map_some, h_l2]
noncomputable def octet_PutUint (m : Nat) (b_0 : List Int) (n_1 : Int) : Option (List Int) := b_octet_PutUint m (fun x0 => some x0) (fun n_1 b_0 => octet_PutUint_l2 m m n_1 b_0) b_0 n_1
theorem octet_PutUint_fun (m : Nat) (b_0 : List Int) (n_1 : Int) : funK Try.prog Ψ0 keep m 1 9 [(dRow 5).e b_0, (dInt .u64).e n_1] = (octet_PutUint m b_0 n_1).map w_octet_PutUint := by
  rw [octet_PutUint_pre]
  exact b_octet_PutUint_map m (fun n_1 b_0 => L_octet_PutUint_l2_eq m m n_1 b_0) b_0 n_1
noncomputable def K_octet_PutUint (m : Nat) : KnownF C := mkK (dCons (dRow 5) (dCons (dInt .u64) dNil)) (fun a => octet_PutUint m a.1 a.2.1) w_octet_PutUint
theorem K_octet_PutUint_ok (m : Nat) : KnownAt C Try.prog 9 fun l => (K_octet_PutUint m).run _ l some :=
  mkK_known good fit Ψ0_ok (keep := keep) (m := m) (d := 1) fun a => octet_PutUint_fun m a.1 a.2.1
/-! ### signalbench/signalbenchref02.PutUint -/
def w_ref02_PutUint (b : List Int) : List (RV C) := [(dRow 5).e b]
noncomputable def Q_ref02_PutUint_3 (m : Nat) : St C → (Exit → St C → Option (List (RV C))) → Option (List (RV C)) := fun σ k => codeK Try.prog Ψ0 (callK Try.prog Ψ0 keep m 0) (keep 10) m (subC body10 [.r, .r, .r, .l, .b, .o]) σ k
noncomputable def KL_ref02_PutUint_3 (m : Nat) : Exit → St C → Option (List (RV C)) := contK Try.prog Ψ0 (callK Try.prog Ψ0 keep m 0) (keep 10) m body10 [.r, .r, .r, .l, .b, .o] (leaveK Try.prog Try.f10.results.toList (finK Try.prog Try.f10.resultTypes.toList))
noncomputable def L_ref02_PutUint_l3 (m n : Nat) (n_1 : Int) (out_5 : List Int) : Option (List (RV C)) := iterK (Q_ref02_PutUint_3 m) (St.norm (keep 10 3)) n ({ T := [.dead, .fl (.one (.int .u64 n_1)), .dead, .dead, .dead, .fl (.one (.sl 0))] ++ List.replicate 23 .dead, F := [[]], H := [.row 5 true out_5] } : St C) (KL_ref02_PutUint_3 m)
noncomputable def b_ref02_PutUint_l3 {R : Type} (m : Nat) (ret : List Int → Option R) (k_l3 : Int → List Int → Option R) (n_1 : Int) (out_5 : List Int) : Option R :=
 bif decide (n_1 ≥ 128) then
 bif decide ((out_5.length + 1) * 1 ≤ 140737488355328) then
 k_l3 (IntKind.u64.wrap (n_1.tdiv 128)) (out_5 ++ [IntKind.u8.wrap (IntKind.u8.wrap (n_1.tmod 128) + 128)])
 else
 none
 else
 bif decide ((out_5.length + 1) * 1 ≤ 140737488355328) then
 ret (out_5 ++ [IntKind.u8.wrap n_1])
 else
 none
theorem L_ref02_PutUint_l3_step (m n : Nat) (n_1 : Int) (out_5 : List Int) : L_ref02_PutUint_l3 m (n + 1) n_1 out_5 = b_ref02_PutUint_l3 m (fun x0 => some (w_ref02_PutUint x0)) (fun n_1 out_5 => L_ref02_PutUint_l3 m n n_1 out_5) n_1 out_5 := by kernel_rfl
theorem b_ref02_PutUint_l3_map (m : Nat) {k_l3 : Int → List Int → Option (List (RV C))} {q_l3 : Int → List Int → Option (List Int)} (h_l3 : ∀ n_1 out_5, k_l3 n_1 out_5 = (q_l3 n_1 out_5).map w_ref02_PutUint) (n_1 : Int) (out_5 : List Int) : b_ref02_PutUint_l3 m (fun x0 => some (w_ref02_PutUint x0)) k_l3 n_1 out_5 = (b_ref02_PutUint_l3 m (fun x0 => some x0) q_l3 n_1 out_5).map w_ref02_PutUint := by
  simp only [b_ref02_PutUint_l3, cond_map, bind_map, map_none, map_some, h_l3]
noncomputable def ref02_PutUint_l3 (m : Nat) : Nat → Int → List Int → Option (List Int)
  | 0, _, _ => none
  | n + 1, n_1, out_5 => b_ref02_PutUint_l3 m (fun x0 => some x0) (fun n_1 out_5 => ref02_PutUint_l3 m n n_1 out_5) n_1 out_5
theorem L_ref02_PutUint_l3_eq (m : Nat) : ∀ (n : Nat) (n_1 : Int) (out_5 : List Int), L_ref02_PutUint_l3 m n n_1 out_5 = (ref02_PutUint_l3 m n n_1 out_5).map w_ref02_PutUint
  | 0, n_1, out_5 => by kernel_rfl
  | n + 1, n_1, out_5 => by
    rw [L_ref02_PutUint_l3_step]
    exact b_ref02_PutUint_l3_map m (fun n_1 out_5 => L_ref02_PutUint_l3_eq m n n_1 out_5) n_1 out_5
noncomputable def b_ref02_PutUint {R : Type} (m : Nat) (ret : List Int → Option R) (k_l3 : Int → List Int → Option R) (b_0 : List Int) (n_1 : Int) : Option R :=
 bif decide (0 ≤ IntKind.i64.wrap ((b_0.length : Int) + 10)) then
 bif decide (IntKind.i64.wrap ((b_0.length : Int) + 10) * 1 ≤ 140737488355328) then
 bif decide ((0 + b_0.length) * 1 ≤ 140737488355328) then
 k_l3 n_1 (List.replicate 0 0 ++ b_0)
 else
 none
 else
 none
 else
 none
theorem ref02_PutUint_pre (m : Nat) (b_0 : List Int) (n_1 : Int) : funK Try.prog Ψ0 keep m 1 10 [(dRow 5).e b_0, (dInt .u64).e n_1] = b_ref02_PutUint m (fun x0 => some (w_ref02_PutUint x0)) (fun n_1 out_5 => L_ref02_PutUint_l3 m m n_1 out_5) b_0 n_1 := by kernel_rfl
theorem b_ref02_PutUint_map (m : Nat) {k_l3 : Int → List Int → Option (List (RV C))} {q_l3 : Int → List Int → Option (List Int)} (h_l3 : ∀ n_1 out_5, k_l3 n_1 out_5 = (q_l3 n_1 out_5).map w_ref02_PutUint) (b_0 : List Int) (n_1 : Int) : b_ref02_PutUint m (fun x0 => some (w_ref02_PutUint x0)) k_l3 b_0 n_1 = (b_ref02_PutUint m (fun x0 => some x0) q_l3 b_0 n_1).map w_ref02_PutUint := by
  simp only [b_ref02_PutUint, cond_map, bind_map, map_none, map_some, h_l3]
noncomputable def ref02_PutUint (m : Nat) (b_0 : List Int) (n_1 : Int) : Option (List Int) := b_ref02_PutUint m (fun x0 => some x0) (fun n_1 out_5 => ref02_PutUint_l3 m m n_1 out_5) b_0 n_1
theorem ref02_PutUint_fun (m : Nat) (b_0 : List Int) (n_1 : Int) : funK Try.prog Ψ0 keep m 1 10 [(dRow 5).e b_0, (dInt .u64).e n_1] = (ref02_PutUint m b_0 n_1).map w_ref02_PutUint := by
  rw [ref02_PutUint_pre]
  exact b_ref02_PutUint_map m (fun n_1 out_5 => L_ref02_PutUint_l3_eq m m n_1 out_5) b_0 n_1
noncomputable def K_ref02_PutUint (m : Nat) : KnownF C := mkK (dCons (dRow 5) (dCons (dInt .u64) dNil)) (fun a => ref02_PutUint m a.1 a.2.1) w_ref02_PutUint
theorem K_ref02_PutUint_ok (m : Nat) : KnownAt C Try.prog 10 fun l => (K_ref02_PutUint m).run _ l some :=
  mkK_known good fit Ψ0_ok (keep := keep) (m := m) (d := 1) fun a => ref02_PutUint_fun m a.1 a.2.1
/-! ### signalbench/octet.PutInt -/
noncomputable def Ψ_octet_PutInt (m : Nat) : Known C := fun f => match f with
  | 9 => some (K_octet_PutUint m)
  | _ => none
theorem Ψ_octet_PutInt_ok (m : Nat) : KnownOk C Try.prog (Ψ_octet_PutInt m) := by
  intro f φ h
  unfold Ψ_octet_PutInt at h
  split at h
  · injection h with h; subst h; exact K_octet_PutUint_ok m
  · cases h
def w_octet_PutInt (b : List Int) : List (RV C) := [(dRow 5).e b]
noncomputable def b_octet_PutInt {R : Type} (m : Nat) (ret : List Int → Option R) (b_0 : List Int) (n_1 : Int) : Option R :=
 bif decide (n_1 < 0) then
 ((octet_PutUint m b_0 (IntKind.u64.wrap (IntKind.u64.wrap (IntKind.u64.wrap (IntKind.i64.wrap (0 - IntKind.i64.wrap (n_1 + 1))) * 2) + 1))).bind fun r0 =>
 ret r0)
 else
 (octet_PutUint m b_0 (IntKind.u64.wrap (IntKind.u64.wrap n_1 * 2))).bind fun r1 =>
 ret r1
theorem octet_PutInt_pre (m : Nat) (b_0 : List Int) (n_1 : Int) : funK Try.prog (Ψ_octet_PutInt m) keep m 1 11 [(dRow 5).e b_0, (dInt .i64).e n_1] = b_octet_PutInt m (fun x0 => some (w_octet_PutInt x0)) b_0 n_1 := by kernel_rfl
theorem b_octet_PutInt_map (m : Nat) (b_0 : List Int) (n_1 : Int) : b_octet_PutInt m (fun x0 => some (w_octet_PutInt x0)) b_0 n_1 = (b_octet_PutInt m (fun x0 => some x0) b_0 n_1).map w_octet_PutInt := by
  simp only [b_octet_PutInt, cond_map, bind_map, map_none, map_some]
noncomputable def octet_PutInt (m : Nat) (b_0 : List Int) (n_1 : Int) : Option (List Int) := b_octet_PutInt m (fun x0 => some x0) b_0 n_1
theorem octet_PutInt_fun (m : Nat) (b_0 : List Int) (n_1 : Int) : funK Try.prog (Ψ_octet_PutInt m) keep m 1 11 [(dRow 5).e b_0, (dInt .i64).e n_1] = (octet_PutInt m b_0 n_1).map w_octet_PutInt := by
  rw [octet_PutInt_pre]
  exact b_octet_PutInt_map m b_0 n_1
noncomputable def K_octet_PutInt (m : Nat) : KnownF C := mkK (dCons (dRow 5) (dCons (dInt .i64) dNil)) (fun a => octet_PutInt m a.1 a.2.1) w_octet_PutInt
theorem K_octet_PutInt_ok (m : Nat) : KnownAt C Try.prog 11 fun l => (K_octet_PutInt m).run _ l some :=
  mkK_known good fit (Ψ_octet_PutInt_ok m) (keep := keep) (m := m) (d := 1) fun a => octet_PutInt_fun m a.1 a.2.1
/-! ### signalbench/signalbenchref02.zigzag -/
def w_ref02_zigzag (b : Int) : List (RV C) := [(dInt .u64).e b]
noncomputable def b_ref02_zigzag {R : Type} (m : Nat) (ret : Int → Option R) (n_0 : Int) : Option R :=
 bif decide (n_0 ≥ 0) then
 ret (IntKind.u64.wrap (2 * IntKind.u64.wrap n_0))
 else
 ret (IntKind.u64.wrap (IntKind.u64.wrap (2 * IntKind.u64.wrap (IntKind.i64.wrap (0 - IntKind.i64.wrap (n_0 + 1)))) + 1))
theorem ref02_zigzag_pre (m : Nat) (n_0 : Int) : funK Try.prog Ψ0 keep m 1 24 [(dInt .i64).e n_0] = b_ref02_zigzag m (fun x0 => some (w_ref02_zigzag x0)) n_0 := by kernel_rfl
theorem b_ref02_zigzag_map (m : Nat) (n_0 : Int) : b_ref02_zigzag m (fun x0 => some (w_ref02_zigzag x0)) n_0 = (b_ref02_zigzag m (fun x0 => some x0) n_0).map w_ref02_zigzag := by
  simp only [b_ref02_zigzag, cond_map, bind_map, map_none, map_some]
noncomputable def ref02_zigzag (m : Nat) (n_0 : Int) : Option (Int) := b_ref02_zigzag m (fun x0 => some x0) n_0
theorem ref02_zigzag_fun (m : Nat) (n_0 : Int) : funK Try.prog Ψ0 keep m 1 24 [(dInt .i64).e n_0] = (ref02_zigzag m n_0).map w_ref02_zigzag := by
  rw [ref02_zigzag_pre]
  exact b_ref02_zigzag_map m n_0
noncomputable def K_ref02_zigzag (m : Nat) : KnownF C := mkK (dCons (dInt .i64) dNil) (fun a => ref02_zigzag m a.1) w_ref02_zigzag
theorem K_ref02_zigzag_ok (m : Nat) : KnownAt C Try.prog 24 fun l => (K_ref02_zigzag m).run _ l some :=
  mkK_known good fit Ψ0_ok (keep := keep) (m := m) (d := 1) fun a => ref02_zigzag_fun m a.1
/-! ### signalbench/signalbenchref02.PutInt -/
noncomputable def Ψ_ref02_PutInt (m : Nat) : Known C := fun f => match f with
  | 24 => some (K_ref02_zigzag m)
  | 10 => some (K_ref02_PutUint m)
  | _ => none
theorem Ψ_ref02_PutInt_ok (m : Nat) : KnownOk C Try.prog (Ψ_ref02_PutInt m) := by
  intro f φ h
  unfold Ψ_ref02_PutInt at h
  split at h
  · injection h with h; subst h; exact K_ref02_zigzag_ok m
  · injection h with h; subst h; exact K_ref02_PutUint_ok m
  · cases h
def w_ref02_PutInt (b : List Int) : List (RV C) := [(dRow 5).e b]
noncomputable def b_ref02_PutInt {R : Type} (m : Nat) (ret : List Int → Option R) (b_0 : List Int) (n_1 : Int) : Option R :=
 (ref02_zigzag m n_1).bind fun r0 =>
 (ref02_PutUint m b_0 r0).bind fun r1 =>
 ret r1
theorem ref02_PutInt_pre (m : Nat) (b_0 : List Int) (n_1 : Int) : funK Try.prog (Ψ_ref02_PutInt m) keep m 1 12 [(dRow 5).e b_0, (dInt .i64).e n_1] = b_ref02_PutInt m (fun x0 => some (w_ref02_PutInt x0)) b_0 n_1 := by kernel_rfl
theorem b_ref02_PutInt_map (m : Nat) (b_0 : List Int) (n_1 : Int) : b_ref02_PutInt m (fun x0 => some (w_ref02_PutInt x0)) b_0 n_1 = (b_ref02_PutInt m (fun x0 => some x0) b_0 n_1).map w_ref02_PutInt := by
  simp only [b_ref02_PutInt, cond_map, bind_map, map_none, map_some]
noncomputable def ref02_PutInt (m : Nat) (b_0 : List Int) (n_1 : Int) : Option (List Int) := b_ref02_PutInt m (fun x0 => some x0) b_0 n_1
theorem ref02_PutInt_fun (m : Nat) (b_0 : List Int) (n_1 : Int) : funK Try.prog (Ψ_ref02_PutInt m) keep m 1 12 [(dRow 5).e b_0, (dInt .i64).e n_1] = (ref02_PutInt m b_0 n_1).map w_ref02_PutInt := by
  rw [ref02_PutInt_pre]
  exact b_ref02_PutInt_map m b_0 n_1
noncomputable def K_ref02_PutInt (m : Nat) : KnownF C := mkK (dCons (dRow 5) (dCons (dInt .i64) dNil)) (fun a => ref02_PutInt m a.1 a.2.1) w_ref02_PutInt
theorem K_ref02_PutInt_ok (m : Nat) : KnownAt C Try.prog 12 fun l => (K_ref02_PutInt m).run _ l some :=
  mkK_known good fit (Ψ_ref02_PutInt_ok m) (keep := keep) (m := m) (d := 1) fun a => ref02_PutInt_fun m a.1 a.2.1
/-! ### signalbench/octet.PutText -/
noncomputable def Ψ_octet_PutText (m : Nat) : Known C := fun f => match f with
  | 9 => some (K_octet_PutUint m)
  | _ => none
theorem Ψ_octet_PutText_ok (m : Nat) : KnownOk C Try.prog (Ψ_octet_PutText m) := by
  intro f φ h
  unfold Ψ_octet_PutText at h
  split at h
  · injection h with h; subst h; exact K_octet_PutUint_ok m
  · cases h
def w_octet_PutText (b : List Int) : List (RV C) := [(dRow 5).e b]
noncomputable def b_octet_PutText {R : Type} (m : Nat) (ret : List Int → Option R) (b_0 : List Int) (s_1 : ByteArray) : Option R :=
 (octet_PutUint m b_0 (IntKind.u64.wrap ((s_1.size : Int)))).bind fun r0 =>
 bif decide ((r0.length + (ofBytes s_1).length) * 1 ≤ 140737488355328) then
 ret (r0 ++ ofBytes s_1)
 else
 none
theorem octet_PutText_pre (m : Nat) (b_0 : List Int) (s_1 : ByteArray) : funK Try.prog (Ψ_octet_PutText m) keep m 1 13 [(dRow 5).e b_0, dStr.e s_1] = b_octet_PutText m (fun x0 => some (w_octet_PutText x0)) b_0 s_1 := by kernel_rfl
theorem b_octet_PutText_map (m : Nat) (b_0 : List Int) (s_1 : ByteArray) : b_octet_PutText m (fun x0 => some (w_octet_PutText x0)) b_0 s_1 = (b_octet_PutText m (fun x0 => some x0) b_0 s_1).map w_octet_PutText := by
  simp only [b_octet_PutText, cond_map, bind_map, map_none, map_some]
noncomputable def octet_PutText (m : Nat) (b_0 : List Int) (s_1 : ByteArray) : Option (List Int) := b_octet_PutText m (fun x0 => some x0) b_0 s_1
theorem octet_PutText_fun (m : Nat) (b_0 : List Int) (s_1 : ByteArray) : funK Try.prog (Ψ_octet_PutText m) keep m 1 13 [(dRow 5).e b_0, dStr.e s_1] = (octet_PutText m b_0 s_1).map w_octet_PutText := by
  rw [octet_PutText_pre]
  exact b_octet_PutText_map m b_0 s_1
noncomputable def K_octet_PutText (m : Nat) : KnownF C := mkK (dCons (dRow 5) (dCons dStr dNil)) (fun a => octet_PutText m a.1 a.2.1) w_octet_PutText
theorem K_octet_PutText_ok (m : Nat) : KnownAt C Try.prog 13 fun l => (K_octet_PutText m).run _ l some :=
  mkK_known good fit (Ψ_octet_PutText_ok m) (keep := keep) (m := m) (d := 1) fun a => octet_PutText_fun m a.1 a.2.1
/-! ### signalbench/signalbenchref02.PutText -/
noncomputable def Ψ_ref02_PutText (m : Nat) : Known C := fun f => match f with
  | 10 => some (K_ref02_PutUint m)
  | _ => none
theorem Ψ_ref02_PutText_ok (m : Nat) : KnownOk C Try.prog (Ψ_ref02_PutText m) := by
  intro f φ h
  unfold Ψ_ref02_PutText at h
  split at h
  · injection h with h; subst h; exact K_ref02_PutUint_ok m
  · cases h
def w_ref02_PutText (b : List Int) : List (RV C) := [(dRow 5).e b]
noncomputable def b_ref02_PutText {R : Type} (m : Nat) (ret : List Int → Option R) (b_0 : List Int) (s_1 : ByteArray) : Option R :=
 (ref02_PutUint m b_0 (IntKind.u64.wrap ((s_1.size : Int)))).bind fun r0 =>
 bif decide ((r0.length + (ofBytes s_1).length) * 1 ≤ 140737488355328) then
 ret (r0 ++ ofBytes s_1)
 else
 none
theorem ref02_PutText_pre (m : Nat) (b_0 : List Int) (s_1 : ByteArray) : funK Try.prog (Ψ_ref02_PutText m) keep m 1 14 [(dRow 5).e b_0, dStr.e s_1] = b_ref02_PutText m (fun x0 => some (w_ref02_PutText x0)) b_0 s_1 := by kernel_rfl
theorem b_ref02_PutText_map (m : Nat) (b_0 : List Int) (s_1 : ByteArray) : b_ref02_PutText m (fun x0 => some (w_ref02_PutText x0)) b_0 s_1 = (b_ref02_PutText m (fun x0 => some x0) b_0 s_1).map w_ref02_PutText := by
  simp only [b_ref02_PutText, cond_map, bind_map, map_none, map_some]
noncomputable def ref02_PutText (m : Nat) (b_0 : List Int) (s_1 : ByteArray) : Option (List Int) := b_ref02_PutText m (fun x0 => some x0) b_0 s_1
theorem ref02_PutText_fun (m : Nat) (b_0 : List Int) (s_1 : ByteArray) : funK Try.prog (Ψ_ref02_PutText m) keep m 1 14 [(dRow 5).e b_0, dStr.e s_1] = (ref02_PutText m b_0 s_1).map w_ref02_PutText := by
  rw [ref02_PutText_pre]
  exact b_ref02_PutText_map m b_0 s_1
noncomputable def K_ref02_PutText (m : Nat) : KnownF C := mkK (dCons (dRow 5) (dCons dStr dNil)) (fun a => ref02_PutText m a.1 a.2.1) w_ref02_PutText
theorem K_ref02_PutText_ok (m : Nat) : KnownAt C Try.prog 14 fun l => (K_ref02_PutText m).run _ l some :=
  mkK_known good fit (Ψ_ref02_PutText_ok m) (keep := keep) (m := m) (d := 1) fun a => ref02_PutText_fun m a.1 a.2.1
/-! ### signalbench/octet.TakeUint -/
def w_octet_TakeUint (b : Int × Int × Int) : List (RV C) := [(dInt .u64).e b.1, (dInt .i64).e b.2.1, (dInt .i64).e b.2.2]
noncomputable def Q_octet_TakeUint_6 (m : Nat) : St C → (Exit → St C → Option (List (RV C))) → Option (List (RV C)) := fun σ k => codeK Try.prog Ψ0 (callK Try.prog Ψ0 keep m 0) (keep 16) m (subC body16 [.r, .r, .r, .r, .b, .o]) σ k
noncomputable def KL_octet_TakeUint_6 (m : Nat) : Exit → St C → Option (List (RV C)) := contK Try.prog Ψ0 (callK Try.prog Ψ0 keep m 0) (keep 16) m body16 [.r, .r, .r, .r, .b, .o] (leaveK Try.prog Try.f16.results.toList (finK Try.prog Try.f16.resultTypes.toList))
noncomputable def L_octet_TakeUint_l6 (m n : Nat) (b_0 : ByteArray) (at_1 : Int) (n_7 : Int) (k_8 : Int) : Option (List (RV C)) := iterK (Q_octet_TakeUint_6 m) (St.norm (keep 16 6)) n ({ T := [.fl (.one (.str b_0)), .fl (.one (.int .i64 at_1)), .dead, .dead, .dead, .dead, .dead, .fl (.one (.int .u64 n_7)), .fl (.one (.int .i64 k_8))] ++ List.replicate 46 .dead, F := [[]], H := [] } : St C) (KL_octet_TakeUint_6 m)
noncomputable def b_octet_TakeUint_l6 {R : Type} (m : Nat) (ret : Int → Int → Int → Option R) (k_l6 : ByteArray → Int → Int → Int → Option R) (b_0 : ByteArray) (at_1 : Int) (n_7 : Int) (k_8 : Int) : Option R :=
 bif decide (at_1 ≥ (b_0.size : Int)) then
 ret 0 0 5
 else
 bif decide (0 ≤ at_1) then
 bif decide (at_1 < (b_0.size : Int)) then
 bif k_8 == 9 then
 bif decide (byteAt b_0 at_1 > 1) then
 ret 0 0 4
 else
 bif decide (k_8 > 0) then
 bif byteAt b_0 at_1 == 0 then
 ret 0 0 4
 else
 bif decide (IntKind.i64.wrap (7 * k_8) < 0) then
 none
 else
 bif decide (byteAt b_0 at_1 < 128) then
 ret (IntKind.u64.wrap (((BitVec.ofInt 64 n_7 ||| BitVec.ofInt 64 (IntKind.u64.wrap (IntKind.u64.wrap (IntKind.u8.wrap (((BitVec.ofInt 8 (byteAt b_0 at_1) &&& BitVec.ofInt 8 127).toNat : Int))) * 2 ^ min (IntKind.i64.wrap (7 * k_8)).toNat 64))).toNat : Int))) (IntKind.i64.wrap (at_1 + 1)) 0
 else
 k_l6 b_0 (IntKind.i64.wrap (at_1 + 1)) (IntKind.u64.wrap (((BitVec.ofInt 64 n_7 ||| BitVec.ofInt 64 (IntKind.u64.wrap (IntKind.u64.wrap (IntKind.u8.wrap (((BitVec.ofInt 8 (byteAt b_0 at_1) &&& BitVec.ofInt 8 127).toNat : Int))) * 2 ^ min (IntKind.i64.wrap (7 * k_8)).toNat 64))).toNat : Int))) (IntKind.i64.wrap (k_8 + 1))
 else
 bif decide (IntKind.i64.wrap (7 * k_8) < 0) then
 none
 else
 bif decide (byteAt b_0 at_1 < 128) then
 ret (IntKind.u64.wrap (((BitVec.ofInt 64 n_7 ||| BitVec.ofInt 64 (IntKind.u64.wrap (IntKind.u64.wrap (IntKind.u8.wrap (((BitVec.ofInt 8 (byteAt b_0 at_1) &&& BitVec.ofInt 8 127).toNat : Int))) * 2 ^ min (IntKind.i64.wrap (7 * k_8)).toNat 64))).toNat : Int))) (IntKind.i64.wrap (at_1 + 1)) 0
 else
 k_l6 b_0 (IntKind.i64.wrap (at_1 + 1)) (IntKind.u64.wrap (((BitVec.ofInt 64 n_7 ||| BitVec.ofInt 64 (IntKind.u64.wrap (IntKind.u64.wrap (IntKind.u8.wrap (((BitVec.ofInt 8 (byteAt b_0 at_1) &&& BitVec.ofInt 8 127).toNat : Int))) * 2 ^ min (IntKind.i64.wrap (7 * k_8)).toNat 64))).toNat : Int))) (IntKind.i64.wrap (k_8 + 1))
 else
 bif decide (k_8 > 0) then
 bif byteAt b_0 at_1 == 0 then
 ret 0 0 4
 else
 bif decide (IntKind.i64.wrap (7 * k_8) < 0) then
 none
 else
 bif decide (byteAt b_0 at_1 < 128) then
 ret (IntKind.u64.wrap (((BitVec.ofInt 64 n_7 ||| BitVec.ofInt 64 (IntKind.u64.wrap (IntKind.u64.wrap (IntKind.u8.wrap (((BitVec.ofInt 8 (byteAt b_0 at_1) &&& BitVec.ofInt 8 127).toNat : Int))) * 2 ^ min (IntKind.i64.wrap (7 * k_8)).toNat 64))).toNat : Int))) (IntKind.i64.wrap (at_1 + 1)) 0
 else
 k_l6 b_0 (IntKind.i64.wrap (at_1 + 1)) (IntKind.u64.wrap (((BitVec.ofInt 64 n_7 ||| BitVec.ofInt 64 (IntKind.u64.wrap (IntKind.u64.wrap (IntKind.u8.wrap (((BitVec.ofInt 8 (byteAt b_0 at_1) &&& BitVec.ofInt 8 127).toNat : Int))) * 2 ^ min (IntKind.i64.wrap (7 * k_8)).toNat 64))).toNat : Int))) (IntKind.i64.wrap (k_8 + 1))
 else
 bif decide (IntKind.i64.wrap (7 * k_8) < 0) then
 none
 else
 bif decide (byteAt b_0 at_1 < 128) then
 ret (IntKind.u64.wrap (((BitVec.ofInt 64 n_7 ||| BitVec.ofInt 64 (IntKind.u64.wrap (IntKind.u64.wrap (IntKind.u8.wrap (((BitVec.ofInt 8 (byteAt b_0 at_1) &&& BitVec.ofInt 8 127).toNat : Int))) * 2 ^ min (IntKind.i64.wrap (7 * k_8)).toNat 64))).toNat : Int))) (IntKind.i64.wrap (at_1 + 1)) 0
 else
 k_l6 b_0 (IntKind.i64.wrap (at_1 + 1)) (IntKind.u64.wrap (((BitVec.ofInt 64 n_7 ||| BitVec.ofInt 64 (IntKind.u64.wrap (IntKind.u64.wrap (IntKind.u8.wrap (((BitVec.ofInt 8 (byteAt b_0 at_1) &&& BitVec.ofInt 8 127).toNat : Int))) * 2 ^ min (IntKind.i64.wrap (7 * k_8)).toNat 64))).toNat : Int))) (IntKind.i64.wrap (k_8 + 1))
 else
 none
 else
 none
theorem L_octet_TakeUint_l6_step (m n : Nat) (b_0 : ByteArray) (at_1 : Int) (n_7 : Int) (k_8 : Int) : L_octet_TakeUint_l6 m (n + 1) b_0 at_1 n_7 k_8 = b_octet_TakeUint_l6 m (fun x0 x1 x2 => some (w_octet_TakeUint (x0, x1, x2))) (fun b_0 at_1 n_7 k_8 => L_octet_TakeUint_l6 m n b_0 at_1 n_7 k_8) b_0 at_1 n_7 k_8 := by kernel_rfl
theorem b_octet_TakeUint_l6_map (m : Nat) {k_l6 : ByteArray → Int → Int → Int → Option (List (RV C))} {q_l6 : ByteArray → Int → Int → Int → Option (Int × Int × Int)} (h_l6 : ∀ b_0 at_1 n_7 k_8, k_l6 b_0 at_1 n_7 k_8 = (q_l6 b_0 at_1 n_7 k_8).map w_octet_TakeUint) (b_0 : ByteArray) (at_1 : Int) (n_7 : Int) (k_8 : Int) : b_octet_TakeUint_l6 m (fun x0 x1 x2 => some (w_octet_TakeUint (x0, x1, x2))) k_l6 b_0 at_1 n_7 k_8 = (b_octet_TakeUint_l6 m (fun x0 x1 x2 => some (x0, x1, x2)) q_l6 b_0 at_1 n_7 k_8).map w_octet_TakeUint := by
  simp only [b_octet_TakeUint_l6, cond_map, bind_map, map_none, map_some, h_l6]
noncomputable def octet_TakeUint_l6 (m : Nat) : Nat → ByteArray → Int → Int → Int → Option (Int × Int × Int)
  | 0, _, _, _, _ => none
  | n + 1, b_0, at_1, n_7, k_8 => b_octet_TakeUint_l6 m (fun x0 x1 x2 => some (x0, x1, x2)) (fun b_0 at_1 n_7 k_8 => octet_TakeUint_l6 m n b_0 at_1 n_7 k_8) b_0 at_1 n_7 k_8
theorem L_octet_TakeUint_l6_eq (m : Nat) : ∀ (n : Nat) (b_0 : ByteArray) (at_1 : Int) (n_7 : Int) (k_8 : Int), L_octet_TakeUint_l6 m n b_0 at_1 n_7 k_8 = (octet_TakeUint_l6 m n b_0 at_1 n_7 k_8).map w_octet_TakeUint
  | 0, b_0, at_1, n_7, k_8 => by kernel_rfl
  | n + 1, b_0, at_1, n_7, k_8 => by
    rw [L_octet_TakeUint_l6_step]
    exact b_octet_TakeUint_l6_map m (fun b_0 at_1 n_7 k_8 => L_octet_TakeUint_l6_eq m n b_0 at_1 n_7 k_8) b_0 at_1 n_7 k_8
noncomputable def b_octet_TakeUint {R : Type} (m : Nat) (ret : Int → Int → Int → Option R) (k_l6 : ByteArray → Int → Int → Int → Option R) (b_0 : ByteArray) (at_1 : Int) : Option R :=
 bif decide (at_1 < 0) then
 ret 0 0 1
 else
 bif decide (at_1 > (b_0.size : Int)) then
 ret 0 0 1
 else
 k_l6 b_0 at_1 0 0
theorem octet_TakeUint_pre (m : Nat) (b_0 : ByteArray) (at_1 : Int) : funK Try.prog Ψ0 keep m 1 16 [dStr.e b_0, (dInt .i64).e at_1] = b_octet_TakeUint m (fun x0 x1 x2 => some (w_octet_TakeUint (x0, x1, x2))) (fun b_0 at_1 n_7 k_8 => L_octet_TakeUint_l6 m m b_0 at_1 n_7 k_8) b_0 at_1 := by kernel_rfl
theorem b_octet_TakeUint_map (m : Nat) {k_l6 : ByteArray → Int → Int → Int → Option (List (RV C))} {q_l6 : ByteArray → Int → Int → Int → Option (Int × Int × Int)} (h_l6 : ∀ b_0 at_1 n_7 k_8, k_l6 b_0 at_1 n_7 k_8 = (q_l6 b_0 at_1 n_7 k_8).map w_octet_TakeUint) (b_0 : ByteArray) (at_1 : Int) : b_octet_TakeUint m (fun x0 x1 x2 => some (w_octet_TakeUint (x0, x1, x2))) k_l6 b_0 at_1 = (b_octet_TakeUint m (fun x0 x1 x2 => some (x0, x1, x2)) q_l6 b_0 at_1).map w_octet_TakeUint := by
  simp only [b_octet_TakeUint, cond_map, bind_map, map_none, map_some, h_l6]
noncomputable def octet_TakeUint (m : Nat) (b_0 : ByteArray) (at_1 : Int) : Option (Int × Int × Int) := b_octet_TakeUint m (fun x0 x1 x2 => some (x0, x1, x2)) (fun b_0 at_1 n_7 k_8 => octet_TakeUint_l6 m m b_0 at_1 n_7 k_8) b_0 at_1
theorem octet_TakeUint_fun (m : Nat) (b_0 : ByteArray) (at_1 : Int) : funK Try.prog Ψ0 keep m 1 16 [dStr.e b_0, (dInt .i64).e at_1] = (octet_TakeUint m b_0 at_1).map w_octet_TakeUint := by
  rw [octet_TakeUint_pre]
  exact b_octet_TakeUint_map m (fun b_0 at_1 n_7 k_8 => L_octet_TakeUint_l6_eq m m b_0 at_1 n_7 k_8) b_0 at_1
noncomputable def K_octet_TakeUint (m : Nat) : KnownF C := mkK (dCons dStr (dCons (dInt .i64) dNil)) (fun a => octet_TakeUint m a.1 a.2.1) w_octet_TakeUint
theorem K_octet_TakeUint_ok (m : Nat) : KnownAt C Try.prog 16 fun l => (K_octet_TakeUint m).run _ l some :=
  mkK_known good fit Ψ0_ok (keep := keep) (m := m) (d := 1) fun a => octet_TakeUint_fun m a.1 a.2.1
/-! ### signalbench/signalbenchlaw02.awake -/
noncomputable def Ψ_law02_awake (m : Nat) : Known C := fun f => match f with
  | 16 => some (K_octet_TakeUint m)
  | 9 => some (K_octet_PutUint m)
  | 11 => some (K_octet_PutInt m)
  | 13 => some (K_octet_PutText m)
  | _ => none
theorem Ψ_law02_awake_ok (m : Nat) : KnownOk C Try.prog (Ψ_law02_awake m) := by
  intro f φ h
  unfold Ψ_law02_awake at h
  split at h
  · injection h with h; subst h; exact K_octet_TakeUint_ok m
  · injection h with h; subst h; exact K_octet_PutUint_ok m
  · injection h with h; subst h; exact K_octet_PutInt_ok m
  · injection h with h; subst h; exact K_octet_PutText_ok m
  · cases h
def w_law02_awake (b : Bool) : List (RV C) := [dBool.e b]
noncomputable def b_law02_awake {R : Type} (m : Nat) (ret : Bool → Option R) : Option R :=
 (octet_TakeUint m (bs [172, 2]) 0).bind fun r0 =>
 (octet_TakeUint m (bs [128, 0]) 0).bind fun r1 =>
 (octet_PutUint m [97] 300).bind fun r2 =>
 bif (toBytes r2).toList == (bs [97, 172, 2]).toList then
 ((octet_PutInt m [] (-1)).bind fun r3 =>
 bif (toBytes r3).toList == (bs [1]).toList then
 ((octet_PutText m [] (bs [97, 98])).bind fun r4 =>
 bif (toBytes r4).toList == (bs [2, 97, 98]).toList then
 bif r0.fst == 300 then
 bif r0.snd.fst == 2 then
 bif r0.snd.snd == 0 then
 ret (r1.snd.snd == 4)
 else
 ret false
 else
 ret false
 else
 ret false
 else
 ret false)
 else
 ret false)
 else
 ret false
theorem law02_awake_pre (m : Nat) : funK Try.prog (Ψ_law02_awake m) keep m 1 15 [] = b_law02_awake m (fun x0 => some (w_law02_awake x0)) := by kernel_rfl
theorem b_law02_awake_map (m : Nat) : b_law02_awake m (fun x0 => some (w_law02_awake x0)) = (b_law02_awake m (fun x0 => some x0)).map w_law02_awake := by
  simp only [b_law02_awake, cond_map, bind_map, map_none, map_some]
noncomputable def law02_awake (m : Nat) : Option (Bool) := b_law02_awake m (fun x0 => some x0)
theorem law02_awake_fun (m : Nat) : funK Try.prog (Ψ_law02_awake m) keep m 1 15 [] = (law02_awake m).map w_law02_awake := by
  rw [law02_awake_pre]
  exact b_law02_awake_map m
noncomputable def K_law02_awake (m : Nat) : KnownF C := mkK dNil (fun a => law02_awake m) w_law02_awake
theorem K_law02_awake_ok (m : Nat) : KnownAt C Try.prog 15 fun l => (K_law02_awake m).run _ l some :=
  mkK_known good fit (Ψ_law02_awake_ok m) (keep := keep) (m := m) (d := 1) fun a => law02_awake_fun m
/-! ### signalbench/signalbenchlaw02.OctetPuts -/
noncomputable def Ψ_law02_OctetPuts (m : Nat) : Known C := fun f => match f with
  | 9 => some (K_octet_PutUint m)
  | 10 => some (K_ref02_PutUint m)
  | 11 => some (K_octet_PutInt m)
  | 12 => some (K_ref02_PutInt m)
  | 13 => some (K_octet_PutText m)
  | 14 => some (K_ref02_PutText m)
  | 15 => some (K_law02_awake m)
  | _ => none
theorem Ψ_law02_OctetPuts_ok (m : Nat) : KnownOk C Try.prog (Ψ_law02_OctetPuts m) := by
  intro f φ h
  unfold Ψ_law02_OctetPuts at h
  split at h
  · injection h with h; subst h; exact K_octet_PutUint_ok m
  · injection h with h; subst h; exact K_ref02_PutUint_ok m
  · injection h with h; subst h; exact K_octet_PutInt_ok m
  · injection h with h; subst h; exact K_ref02_PutInt_ok m
  · injection h with h; subst h; exact K_octet_PutText_ok m
  · injection h with h; subst h; exact K_ref02_PutText_ok m
  · injection h with h; subst h; exact K_law02_awake_ok m
  · cases h
def w_law02_OctetPuts (b : Bool) : List (RV C) := [dBool.e b]
noncomputable def b_law02_OctetPuts {R : Type} (m : Nat) (ret : Bool → Option R) (b_0 : List Int) (n_1 : Int) (i_2 : Int) : Option R :=
 (octet_PutUint m b_0 n_1).bind fun r0 =>
 (ref02_PutUint m b_0 n_1).bind fun r1 =>
 bif !(toBytes r0).toList == (toBytes r1).toList then
 ret false
 else
 (octet_PutInt m b_0 i_2).bind fun r2 =>
 (ref02_PutInt m b_0 i_2).bind fun r3 =>
 bif !(toBytes r2).toList == (toBytes r3).toList then
 ret false
 else
 (octet_PutText m b_0 (toBytes b_0)).bind fun r4 =>
 (ref02_PutText m b_0 (toBytes b_0)).bind fun r5 =>
 bif (toBytes r4).toList == (toBytes r5).toList then
 ((law02_awake m).bind fun r6 =>
 ret r6)
 else
 ret false
theorem law02_OctetPuts_pre (m : Nat) (b_0 : List Int) (n_1 : Int) (i_2 : Int) : funK Try.prog (Ψ_law02_OctetPuts m) keep m 1 3 [(dRow 5).e b_0, (dInt .u64).e n_1, (dInt .i64).e i_2] = b_law02_OctetPuts m (fun x0 => some (w_law02_OctetPuts x0)) b_0 n_1 i_2 := by kernel_rfl
theorem b_law02_OctetPuts_map (m : Nat) (b_0 : List Int) (n_1 : Int) (i_2 : Int) : b_law02_OctetPuts m (fun x0 => some (w_law02_OctetPuts x0)) b_0 n_1 i_2 = (b_law02_OctetPuts m (fun x0 => some x0) b_0 n_1 i_2).map w_law02_OctetPuts := by
  simp only [b_law02_OctetPuts, cond_map, bind_map, map_none, map_some]
noncomputable def law02_OctetPuts (m : Nat) (b_0 : List Int) (n_1 : Int) (i_2 : Int) : Option (Bool) := b_law02_OctetPuts m (fun x0 => some x0) b_0 n_1 i_2
theorem law02_OctetPuts_fun (m : Nat) (b_0 : List Int) (n_1 : Int) (i_2 : Int) : funK Try.prog (Ψ_law02_OctetPuts m) keep m 1 3 [(dRow 5).e b_0, (dInt .u64).e n_1, (dInt .i64).e i_2] = (law02_OctetPuts m b_0 n_1 i_2).map w_law02_OctetPuts := by
  rw [law02_OctetPuts_pre]
  exact b_law02_OctetPuts_map m b_0 n_1 i_2
noncomputable def K_law02_OctetPuts (m : Nat) : KnownF C := mkK (dCons (dRow 5) (dCons (dInt .u64) (dCons (dInt .i64) dNil))) (fun a => law02_OctetPuts m a.1 a.2.1 a.2.2.1) w_law02_OctetPuts
theorem K_law02_OctetPuts_ok (m : Nat) : KnownAt C Try.prog 3 fun l => (K_law02_OctetPuts m).run _ l some :=
  mkK_known good fit (Ψ_law02_OctetPuts_ok m) (keep := keep) (m := m) (d := 1) fun a => law02_OctetPuts_fun m a.1 a.2.1 a.2.2.1
/-! ### signalbench/signalbenchlaw02.OctetShortest -/
noncomputable def Ψ_law02_OctetShortest (m : Nat) : Known C := fun f => match f with
  | 16 => some (K_octet_TakeUint m)
  | 15 => some (K_law02_awake m)
  | 9 => some (K_octet_PutUint m)
  | _ => none
theorem Ψ_law02_OctetShortest_ok (m : Nat) : KnownOk C Try.prog (Ψ_law02_OctetShortest m) := by
  intro f φ h
  unfold Ψ_law02_OctetShortest at h
  split at h
  · injection h with h; subst h; exact K_octet_TakeUint_ok m
  · injection h with h; subst h; exact K_law02_awake_ok m
  · injection h with h; subst h; exact K_octet_PutUint_ok m
  · cases h
def w_law02_OctetShortest (b : Bool) : List (RV C) := [dBool.e b]
noncomputable def b_law02_OctetShortest {R : Type} (m : Nat) (ret : Bool → Option R) (b_0 : ByteArray) (at_1 : Int) : Option R :=
 (octet_TakeUint m b_0 at_1).bind fun r0 =>
 bif r0.snd.snd != 0 then
 (bif r0.fst == 0 then
 (bif r0.snd.fst == 0 then
 ((law02_awake m).bind fun r1 =>
 ret r1)
 else
 ret false)
 else
 ret false)
 else
 bif decide (at_1 < 0) then
 ret false
 else
 bif decide (r0.snd.fst ≤ at_1) then
 ret false
 else
 bif decide (r0.snd.fst > (b_0.size : Int)) then
 ret false
 else
 bif decide (IntKind.i64.wrap (r0.snd.fst - at_1) > 10) then
 ret false
 else
 (octet_PutUint m [] r0.fst).bind fun r2 =>
 bif decide (0 ≤ r0.snd.fst) then
 (bif decide (r0.snd.fst ≤ (b_0.size : Int)) then
 (bif decide (0 ≤ at_1) then
 (bif decide (at_1 ≤ r0.snd.fst) then
 (bif (toBytes r2).toList == (b_0.extract at_1.toNat r0.snd.fst.toNat).toList then
 ((law02_awake m).bind fun r3 =>
 ret r3)
 else
 ret false)
 else
 none)
 else
 none)
 else
 none)
 else
 none
theorem law02_OctetShortest_pre (m : Nat) (b_0 : ByteArray) (at_1 : Int) : funK Try.prog (Ψ_law02_OctetShortest m) keep m 1 4 [dStr.e b_0, (dInt .i64).e at_1] = b_law02_OctetShortest m (fun x0 => some (w_law02_OctetShortest x0)) b_0 at_1 := by kernel_rfl
theorem b_law02_OctetShortest_map (m : Nat) (b_0 : ByteArray) (at_1 : Int) : b_law02_OctetShortest m (fun x0 => some (w_law02_OctetShortest x0)) b_0 at_1 = (b_law02_OctetShortest m (fun x0 => some x0) b_0 at_1).map w_law02_OctetShortest := by
  simp only [b_law02_OctetShortest, cond_map, bind_map, map_none, map_some]
noncomputable def law02_OctetShortest (m : Nat) (b_0 : ByteArray) (at_1 : Int) : Option (Bool) := b_law02_OctetShortest m (fun x0 => some x0) b_0 at_1
theorem law02_OctetShortest_fun (m : Nat) (b_0 : ByteArray) (at_1 : Int) : funK Try.prog (Ψ_law02_OctetShortest m) keep m 1 4 [dStr.e b_0, (dInt .i64).e at_1] = (law02_OctetShortest m b_0 at_1).map w_law02_OctetShortest := by
  rw [law02_OctetShortest_pre]
  exact b_law02_OctetShortest_map m b_0 at_1
noncomputable def K_law02_OctetShortest (m : Nat) : KnownF C := mkK (dCons dStr (dCons (dInt .i64) dNil)) (fun a => law02_OctetShortest m a.1 a.2.1) w_law02_OctetShortest
theorem K_law02_OctetShortest_ok (m : Nat) : KnownAt C Try.prog 4 fun l => (K_law02_OctetShortest m).run _ l some :=
  mkK_known good fit (Ψ_law02_OctetShortest_ok m) (keep := keep) (m := m) (d := 1) fun a => law02_OctetShortest_fun m a.1 a.2.1
/-! ### signalbench/signalbenchlaw02.OctetApart -/
noncomputable def Ψ_law02_OctetApart (m : Nat) : Known C := fun f => match f with
  | 15 => some (K_law02_awake m)
  | 9 => some (K_octet_PutUint m)
  | 16 => some (K_octet_TakeUint m)
  | _ => none
theorem Ψ_law02_OctetApart_ok (m : Nat) : KnownOk C Try.prog (Ψ_law02_OctetApart m) := by
  intro f φ h
  unfold Ψ_law02_OctetApart at h
  split at h
  · injection h with h; subst h; exact K_law02_awake_ok m
  · injection h with h; subst h; exact K_octet_PutUint_ok m
  · injection h with h; subst h; exact K_octet_TakeUint_ok m
  · cases h
def w_law02_OctetApart (b : Bool) : List (RV C) := [dBool.e b]
noncomputable def b_law02_OctetApart {R : Type} (m : Nat) (ret : Bool → Option R) (b_0 : List Int) (n_1 : Int) (behind_2 : ByteArray) : Option R :=
 bif decide ((b_0.length : Int) > 1048576) then
 ((law02_awake m).bind fun r0 =>
 ret r0)
 else
 bif decide ((behind_2.size : Int) > 1048576) then
 ((law02_awake m).bind fun r1 =>
 ret r1)
 else
 (octet_PutUint m b_0 n_1).bind fun r2 =>
 (octet_PutUint m b_0 (IntKind.u64.wrap (n_1.tdiv 2))).bind fun r3 =>
 bif decide ((r2.length : Int) ≤ (b_0.length : Int)) then
 ret false
 else
 bif decide ((r3.length : Int) ≤ (b_0.length : Int)) then
 ret false
 else
 bif decide ((b_0.length : Int) < (r3.length : Int)) then
 (bif !(toBytes r2).toList == (toBytes r2).toList then
 ret false
 else
 (octet_TakeUint m (toBytes r2) ((b_0.length : Int))).bind fun r4 =>
 bif decide ((((toBytes r2).size + behind_2.size) : Int) > 9223372036854775807) then
 none
 else
 (octet_TakeUint m (toBytes r2 ++ behind_2) ((b_0.length : Int))).bind fun r5 =>
 bif r4.fst == n_1 then
 (bif r4.fst == r5.fst then
 (bif r4.snd.fst == r5.snd.fst then
 (bif r4.snd.snd == 0 then
 (bif r5.snd.snd == 0 then
 ((law02_awake m).bind fun r6 =>
 ret r6)
 else
 ret false)
 else
 ret false)
 else
 ret false)
 else
 ret false)
 else
 ret false)
 else
 none
theorem law02_OctetApart_pre (m : Nat) (b_0 : List Int) (n_1 : Int) (behind_2 : ByteArray) : funK Try.prog (Ψ_law02_OctetApart m) keep m 1 5 [(dRow 5).e b_0, (dInt .u64).e n_1, dStr.e behind_2] = b_law02_OctetApart m (fun x0 => some (w_law02_OctetApart x0)) b_0 n_1 behind_2 := by kernel_rfl
theorem b_law02_OctetApart_map (m : Nat) (b_0 : List Int) (n_1 : Int) (behind_2 : ByteArray) : b_law02_OctetApart m (fun x0 => some (w_law02_OctetApart x0)) b_0 n_1 behind_2 = (b_law02_OctetApart m (fun x0 => some x0) b_0 n_1 behind_2).map w_law02_OctetApart := by
  simp only [b_law02_OctetApart, cond_map, bind_map, map_none, map_some]
noncomputable def law02_OctetApart (m : Nat) (b_0 : List Int) (n_1 : Int) (behind_2 : ByteArray) : Option (Bool) := b_law02_OctetApart m (fun x0 => some x0) b_0 n_1 behind_2
theorem law02_OctetApart_fun (m : Nat) (b_0 : List Int) (n_1 : Int) (behind_2 : ByteArray) : funK Try.prog (Ψ_law02_OctetApart m) keep m 1 5 [(dRow 5).e b_0, (dInt .u64).e n_1, dStr.e behind_2] = (law02_OctetApart m b_0 n_1 behind_2).map w_law02_OctetApart := by
  rw [law02_OctetApart_pre]
  exact b_law02_OctetApart_map m b_0 n_1 behind_2
noncomputable def K_law02_OctetApart (m : Nat) : KnownF C := mkK (dCons (dRow 5) (dCons (dInt .u64) (dCons dStr dNil))) (fun a => law02_OctetApart m a.1 a.2.1 a.2.2.1) w_law02_OctetApart
theorem K_law02_OctetApart_ok (m : Nat) : KnownAt C Try.prog 5 fun l => (K_law02_OctetApart m).run _ l some :=
  mkK_known good fit (Ψ_law02_OctetApart_ok m) (keep := keep) (m := m) (d := 1) fun a => law02_OctetApart_fun m a.1 a.2.1 a.2.2.1
/-! ### signalbench/signalbenchref02.TakeUint -/
def w_ref02_TakeUint (b : Int × Int × Int) : List (RV C) := [(dInt .u64).e b.1, (dInt .i64).e b.2.1, (dInt .i64).e b.2.2]
noncomputable def Q_ref02_TakeUint_6 (m : Nat) : St C → (Exit → St C → Option (List (RV C))) → Option (List (RV C)) := fun σ k => codeK Try.prog Ψ0 (callK Try.prog Ψ0 keep m 0) (keep 17) m (subC body17 [.r, .r, .r, .r, .l, .r, .b, .o]) σ k
noncomputable def KL_ref02_TakeUint_6 (m : Nat) : Exit → St C → Option (List (RV C)) := contK Try.prog Ψ0 (callK Try.prog Ψ0 keep m 0) (keep 17) m body17 [.r, .r, .r, .r, .l, .r, .b, .o] (leaveK Try.prog Try.f17.results.toList (finK Try.prog Try.f17.resultTypes.toList))
noncomputable def L_ref02_TakeUint_l6 (m n : Nat) (b_0 : ByteArray) (at_1 : Int) (n_7 : Int) (weight_8 : Int) (k_9 : Int) : Option (List (RV C)) := iterK (Q_ref02_TakeUint_6 m) (St.norm (keep 17 6)) n ({ T := [.fl (.one (.str b_0)), .fl (.one (.int .i64 at_1)), .dead, .dead, .dead, .dead, .dead, .fl (.one (.int .u64 n_7)), .fl (.one (.int .u64 weight_8)), .fl (.one (.int .i64 k_9))] ++ List.replicate 54 .dead, F := [[]], H := [] } : St C) (KL_ref02_TakeUint_6 m)
noncomputable def b_ref02_TakeUint_l6 {R : Type} (m : Nat) (ret : Int → Int → Int → Option R) (k_l6 : ByteArray → Int → Int → Int → Int → Option R) (b_0 : ByteArray) (at_1 : Int) (n_7 : Int) (weight_8 : Int) (k_9 : Int) : Option R :=
 bif decide (k_9 < 10) then
 bif decide (IntKind.i64.wrap (at_1 + k_9) ≥ (b_0.size : Int)) then
 ret 0 0 5
 else
 bif decide (0 ≤ IntKind.i64.wrap (at_1 + k_9)) then
 bif decide (IntKind.i64.wrap (at_1 + k_9) < (b_0.size : Int)) then
 bif k_9 == 9 then
 bif decide (byteAt b_0 (IntKind.i64.wrap (at_1 + k_9)) > 1) then
 ret 0 0 4
 else
 bif decide (k_9 > 0) then
 bif byteAt b_0 (IntKind.i64.wrap (at_1 + k_9)) == 0 then
 ret 0 0 4
 else
 bif decide (byteAt b_0 (IntKind.i64.wrap (at_1 + k_9)) < 128) then
 ret (IntKind.u64.wrap (n_7 + IntKind.u64.wrap (IntKind.u64.wrap ((byteAt b_0 (IntKind.i64.wrap (at_1 + k_9))).tmod 128) * weight_8))) (IntKind.i64.wrap (IntKind.i64.wrap (at_1 + k_9) + 1)) 0
 else
 k_l6 b_0 at_1 (IntKind.u64.wrap (n_7 + IntKind.u64.wrap (IntKind.u64.wrap ((byteAt b_0 (IntKind.i64.wrap (at_1 + k_9))).tmod 128) * weight_8))) (IntKind.u64.wrap (weight_8 * 128)) (IntKind.i64.wrap (k_9 + 1))
 else
 bif decide (byteAt b_0 (IntKind.i64.wrap (at_1 + k_9)) < 128) then
 ret (IntKind.u64.wrap (n_7 + IntKind.u64.wrap (IntKind.u64.wrap ((byteAt b_0 (IntKind.i64.wrap (at_1 + k_9))).tmod 128) * weight_8))) (IntKind.i64.wrap (IntKind.i64.wrap (at_1 + k_9) + 1)) 0
 else
 k_l6 b_0 at_1 (IntKind.u64.wrap (n_7 + IntKind.u64.wrap (IntKind.u64.wrap ((byteAt b_0 (IntKind.i64.wrap (at_1 + k_9))).tmod 128) * weight_8))) (IntKind.u64.wrap (weight_8 * 128)) (IntKind.i64.wrap (k_9 + 1))
 else
 bif decide (k_9 > 0) then
 bif byteAt b_0 (IntKind.i64.wrap (at_1 + k_9)) == 0 then
 ret 0 0 4
 else
 bif decide (byteAt b_0 (IntKind.i64.wrap (at_1 + k_9)) < 128) then
 ret (IntKind.u64.wrap (n_7 + IntKind.u64.wrap (IntKind.u64.wrap ((byteAt b_0 (IntKind.i64.wrap (at_1 + k_9))).tmod 128) * weight_8))) (IntKind.i64.wrap (IntKind.i64.wrap (at_1 + k_9) + 1)) 0
 else
 k_l6 b_0 at_1 (IntKind.u64.wrap (n_7 + IntKind.u64.wrap (IntKind.u64.wrap ((byteAt b_0 (IntKind.i64.wrap (at_1 + k_9))).tmod 128) * weight_8))) (IntKind.u64.wrap (weight_8 * 128)) (IntKind.i64.wrap (k_9 + 1))
 else
 bif decide (byteAt b_0 (IntKind.i64.wrap (at_1 + k_9)) < 128) then
 ret (IntKind.u64.wrap (n_7 + IntKind.u64.wrap (IntKind.u64.wrap ((byteAt b_0 (IntKind.i64.wrap (at_1 + k_9))).tmod 128) * weight_8))) (IntKind.i64.wrap (IntKind.i64.wrap (at_1 + k_9) + 1)) 0
 else
 k_l6 b_0 at_1 (IntKind.u64.wrap (n_7 + IntKind.u64.wrap (IntKind.u64.wrap ((byteAt b_0 (IntKind.i64.wrap (at_1 + k_9))).tmod 128) * weight_8))) (IntKind.u64.wrap (weight_8 * 128)) (IntKind.i64.wrap (k_9 + 1))
 else
 none
 else
 none
 else
 ret 0 0 4
theorem L_ref02_TakeUint_l6_step (m n : Nat) (b_0 : ByteArray) (at_1 : Int) (n_7 : Int) (weight_8 : Int) (k_9 : Int) : L_ref02_TakeUint_l6 m (n + 1) b_0 at_1 n_7 weight_8 k_9 = b_ref02_TakeUint_l6 m (fun x0 x1 x2 => some (w_ref02_TakeUint (x0, x1, x2))) (fun b_0 at_1 n_7 weight_8 k_9 => L_ref02_TakeUint_l6 m n b_0 at_1 n_7 weight_8 k_9) b_0 at_1 n_7 weight_8 k_9 := by kernel_rfl
theorem b_ref02_TakeUint_l6_map (m : Nat) {k_l6 : ByteArray → Int → Int → Int → Int → Option (List (RV C))} {q_l6 : ByteArray → Int → Int → Int → Int → Option (Int × Int × Int)} (h_l6 : ∀ b_0 at_1 n_7 weight_8 k_9, k_l6 b_0 at_1 n_7 weight_8 k_9 = (q_l6 b_0 at_1 n_7 weight_8 k_9).map w_ref02_TakeUint) (b_0 : ByteArray) (at_1 : Int) (n_7 : Int) (weight_8 : Int) (k_9 : Int) : b_ref02_TakeUint_l6 m (fun x0 x1 x2 => some (w_ref02_TakeUint (x0, x1, x2))) k_l6 b_0 at_1 n_7 weight_8 k_9 = (b_ref02_TakeUint_l6 m (fun x0 x1 x2 => some (x0, x1, x2)) q_l6 b_0 at_1 n_7 weight_8 k_9).map w_ref02_TakeUint := by
  simp only [b_ref02_TakeUint_l6, cond_map, bind_map, map_none, map_some, h_l6]
noncomputable def ref02_TakeUint_l6 (m : Nat) : Nat → ByteArray → Int → Int → Int → Int → Option (Int × Int × Int)
  | 0, _, _, _, _, _ => none
  | n + 1, b_0, at_1, n_7, weight_8, k_9 => b_ref02_TakeUint_l6 m (fun x0 x1 x2 => some (x0, x1, x2)) (fun b_0 at_1 n_7 weight_8 k_9 => ref02_TakeUint_l6 m n b_0 at_1 n_7 weight_8 k_9) b_0 at_1 n_7 weight_8 k_9
theorem L_ref02_TakeUint_l6_eq (m : Nat) : ∀ (n : Nat) (b_0 : ByteArray) (at_1 : Int) (n_7 : Int) (weight_8 : Int) (k_9 : Int), L_ref02_TakeUint_l6 m n b_0 at_1 n_7 weight_8 k_9 = (ref02_TakeUint_l6 m n b_0 at_1 n_7 weight_8 k_9).map w_ref02_TakeUint
  | 0, b_0, at_1, n_7, weight_8, k_9 => by kernel_rfl
  | n + 1, b_0, at_1, n_7, weight_8, k_9 => by
    rw [L_ref02_TakeUint_l6_step]
    exact b_ref02_TakeUint_l6_map m (fun b_0 at_1 n_7 weight_8 k_9 => L_ref02_TakeUint_l6_eq m n b_0 at_1 n_7 weight_8 k_9) b_0 at_1 n_7 weight_8 k_9
noncomputable def b_ref02_TakeUint {R : Type} (m : Nat) (ret : Int → Int → Int → Option R) (k_l6 : ByteArray → Int → Int → Int → Int → Option R) (b_0 : ByteArray) (at_1 : Int) : Option R :=
 bif decide (at_1 < 0) then
 ret 0 0 1
 else
 bif decide (at_1 > (b_0.size : Int)) then
 ret 0 0 1
 else
 k_l6 b_0 at_1 0 1 0
theorem ref02_TakeUint_pre (m : Nat) (b_0 : ByteArray) (at_1 : Int) : funK Try.prog Ψ0 keep m 1 17 [dStr.e b_0, (dInt .i64).e at_1] = b_ref02_TakeUint m (fun x0 x1 x2 => some (w_ref02_TakeUint (x0, x1, x2))) (fun b_0 at_1 n_7 weight_8 k_9 => L_ref02_TakeUint_l6 m m b_0 at_1 n_7 weight_8 k_9) b_0 at_1 := by kernel_rfl
theorem b_ref02_TakeUint_map (m : Nat) {k_l6 : ByteArray → Int → Int → Int → Int → Option (List (RV C))} {q_l6 : ByteArray → Int → Int → Int → Int → Option (Int × Int × Int)} (h_l6 : ∀ b_0 at_1 n_7 weight_8 k_9, k_l6 b_0 at_1 n_7 weight_8 k_9 = (q_l6 b_0 at_1 n_7 weight_8 k_9).map w_ref02_TakeUint) (b_0 : ByteArray) (at_1 : Int) : b_ref02_TakeUint m (fun x0 x1 x2 => some (w_ref02_TakeUint (x0, x1, x2))) k_l6 b_0 at_1 = (b_ref02_TakeUint m (fun x0 x1 x2 => some (x0, x1, x2)) q_l6 b_0 at_1).map w_ref02_TakeUint := by
  simp only [b_ref02_TakeUint, cond_map, bind_map, map_none, map_some, h_l6]
noncomputable def ref02_TakeUint (m : Nat) (b_0 : ByteArray) (at_1 : Int) : Option (Int × Int × Int) := b_ref02_TakeUint m (fun x0 x1 x2 => some (x0, x1, x2)) (fun b_0 at_1 n_7 weight_8 k_9 => ref02_TakeUint_l6 m m b_0 at_1 n_7 weight_8 k_9) b_0 at_1
theorem ref02_TakeUint_fun (m : Nat) (b_0 : ByteArray) (at_1 : Int) : funK Try.prog Ψ0 keep m 1 17 [dStr.e b_0, (dInt .i64).e at_1] = (ref02_TakeUint m b_0 at_1).map w_ref02_TakeUint := by
  rw [ref02_TakeUint_pre]
  exact b_ref02_TakeUint_map m (fun b_0 at_1 n_7 weight_8 k_9 => L_ref02_TakeUint_l6_eq m m b_0 at_1 n_7 weight_8 k_9) b_0 at_1
noncomputable def K_ref02_TakeUint (m : Nat) : KnownF C := mkK (dCons dStr (dCons (dInt .i64) dNil)) (fun a => ref02_TakeUint m a.1 a.2.1) w_ref02_TakeUint
theorem K_ref02_TakeUint_ok (m : Nat) : KnownAt C Try.prog 17 fun l => (K_ref02_TakeUint m).run _ l some :=
  mkK_known good fit Ψ0_ok (keep := keep) (m := m) (d := 1) fun a => ref02_TakeUint_fun m a.1 a.2.1
/-! ### signalbench/octet.TakeInt -/
noncomputable def Ψ_octet_TakeInt (m : Nat) : Known C := fun f => match f with
  | 16 => some (K_octet_TakeUint m)
  | _ => none
theorem Ψ_octet_TakeInt_ok (m : Nat) : KnownOk C Try.prog (Ψ_octet_TakeInt m) := by
  intro f φ h
  unfold Ψ_octet_TakeInt at h
  split at h
  · injection h with h; subst h; exact K_octet_TakeUint_ok m
  · cases h
def w_octet_TakeInt (b : Int × Int × Int) : List (RV C) := [(dInt .i64).e b.1, (dInt .i64).e b.2.1, (dInt .i64).e b.2.2]
noncomputable def b_octet_TakeInt {R : Type} (m : Nat) (ret : Int → Int → Int → Option R) (b_0 : ByteArray) (at_1 : Int) : Option R :=
 (octet_TakeUint m b_0 at_1).bind fun r0 =>
 bif r0.snd.snd != 0 then
 ret 0 0 r0.snd.snd
 else
 bif r0.fst.tmod 2 == 1 then
 ret (IntKind.i64.wrap (IntKind.i64.wrap (0 - IntKind.i64.wrap (IntKind.u64.wrap (r0.fst.tdiv 2))) - 1)) r0.snd.fst 0
 else
 ret (IntKind.i64.wrap (IntKind.u64.wrap (r0.fst.tdiv 2))) r0.snd.fst 0
theorem octet_TakeInt_pre (m : Nat) (b_0 : ByteArray) (at_1 : Int) : funK Try.prog (Ψ_octet_TakeInt m) keep m 1 18 [dStr.e b_0, (dInt .i64).e at_1] = b_octet_TakeInt m (fun x0 x1 x2 => some (w_octet_TakeInt (x0, x1, x2))) b_0 at_1 := by kernel_rfl
theorem b_octet_TakeInt_map (m : Nat) (b_0 : ByteArray) (at_1 : Int) : b_octet_TakeInt m (fun x0 x1 x2 => some (w_octet_TakeInt (x0, x1, x2))) b_0 at_1 = (b_octet_TakeInt m (fun x0 x1 x2 => some (x0, x1, x2)) b_0 at_1).map w_octet_TakeInt := by
  simp only [b_octet_TakeInt, cond_map, bind_map, map_none, map_some]
noncomputable def octet_TakeInt (m : Nat) (b_0 : ByteArray) (at_1 : Int) : Option (Int × Int × Int) := b_octet_TakeInt m (fun x0 x1 x2 => some (x0, x1, x2)) b_0 at_1
theorem octet_TakeInt_fun (m : Nat) (b_0 : ByteArray) (at_1 : Int) : funK Try.prog (Ψ_octet_TakeInt m) keep m 1 18 [dStr.e b_0, (dInt .i64).e at_1] = (octet_TakeInt m b_0 at_1).map w_octet_TakeInt := by
  rw [octet_TakeInt_pre]
  exact b_octet_TakeInt_map m b_0 at_1
noncomputable def K_octet_TakeInt (m : Nat) : KnownF C := mkK (dCons dStr (dCons (dInt .i64) dNil)) (fun a => octet_TakeInt m a.1 a.2.1) w_octet_TakeInt
theorem K_octet_TakeInt_ok (m : Nat) : KnownAt C Try.prog 18 fun l => (K_octet_TakeInt m).run _ l some :=
  mkK_known good fit (Ψ_octet_TakeInt_ok m) (keep := keep) (m := m) (d := 1) fun a => octet_TakeInt_fun m a.1 a.2.1
/-! ### signalbench/signalbenchref02.TakeInt -/
noncomputable def Ψ_ref02_TakeInt (m : Nat) : Known C := fun f => match f with
  | 17 => some (K_ref02_TakeUint m)
  | _ => none
theorem Ψ_ref02_TakeInt_ok (m : Nat) : KnownOk C Try.prog (Ψ_ref02_TakeInt m) := by
  intro f φ h
  unfold Ψ_ref02_TakeInt at h
  split at h
  · injection h with h; subst h; exact K_ref02_TakeUint_ok m
  · cases h
def w_ref02_TakeInt (b : Int × Int × Int) : List (RV C) := [(dInt .i64).e b.1, (dInt .i64).e b.2.1, (dInt .i64).e b.2.2]
noncomputable def b_ref02_TakeInt {R : Type} (m : Nat) (ret : Int → Int → Int → Option R) (b_0 : ByteArray) (at_1 : Int) : Option R :=
 (ref02_TakeUint m b_0 at_1).bind fun r0 =>
 bif r0.snd.snd != 0 then
 ret 0 0 r0.snd.snd
 else
 bif r0.fst.tmod 2 == 0 then
 ret (IntKind.i64.wrap (IntKind.u64.wrap (r0.fst.tdiv 2))) r0.snd.fst 0
 else
 ret (IntKind.i64.wrap (IntKind.i64.wrap (0 - IntKind.i64.wrap (IntKind.u64.wrap (r0.fst.tdiv 2))) - 1)) r0.snd.fst 0
theorem ref02_TakeInt_pre (m : Nat) (b_0 : ByteArray) (at_1 : Int) : funK Try.prog (Ψ_ref02_TakeInt m) keep m 1 19 [dStr.e b_0, (dInt .i64).e at_1] = b_ref02_TakeInt m (fun x0 x1 x2 => some (w_ref02_TakeInt (x0, x1, x2))) b_0 at_1 := by kernel_rfl
theorem b_ref02_TakeInt_map (m : Nat) (b_0 : ByteArray) (at_1 : Int) : b_ref02_TakeInt m (fun x0 x1 x2 => some (w_ref02_TakeInt (x0, x1, x2))) b_0 at_1 = (b_ref02_TakeInt m (fun x0 x1 x2 => some (x0, x1, x2)) b_0 at_1).map w_ref02_TakeInt := by
  simp only [b_ref02_TakeInt, cond_map, bind_map, map_none, map_some]
noncomputable def ref02_TakeInt (m : Nat) (b_0 : ByteArray) (at_1 : Int) : Option (Int × Int × Int) := b_ref02_TakeInt m (fun x0 x1 x2 => some (x0, x1, x2)) b_0 at_1
theorem ref02_TakeInt_fun (m : Nat) (b_0 : ByteArray) (at_1 : Int) : funK Try.prog (Ψ_ref02_TakeInt m) keep m 1 19 [dStr.e b_0, (dInt .i64).e at_1] = (ref02_TakeInt m b_0 at_1).map w_ref02_TakeInt := by
  rw [ref02_TakeInt_pre]
  exact b_ref02_TakeInt_map m b_0 at_1
noncomputable def K_ref02_TakeInt (m : Nat) : KnownF C := mkK (dCons dStr (dCons (dInt .i64) dNil)) (fun a => ref02_TakeInt m a.1 a.2.1) w_ref02_TakeInt
theorem K_ref02_TakeInt_ok (m : Nat) : KnownAt C Try.prog 19 fun l => (K_ref02_TakeInt m).run _ l some :=
  mkK_known good fit (Ψ_ref02_TakeInt_ok m) (keep := keep) (m := m) (d := 1) fun a => ref02_TakeInt_fun m a.1 a.2.1
/-! ### signalbench/signalbenchlaw02.OctetTakes -/
noncomputable def Ψ_law02_OctetTakes (m : Nat) : Known C := fun f => match f with
  | 16 => some (K_octet_TakeUint m)
  | 17 => some (K_ref02_TakeUint m)
  | 18 => some (K_octet_TakeInt m)
  | 19 => some (K_ref02_TakeInt m)
  | 15 => some (K_law02_awake m)
  | _ => none
theorem Ψ_law02_OctetTakes_ok (m : Nat) : KnownOk C Try.prog (Ψ_law02_OctetTakes m) := by
  intro f φ h
  unfold Ψ_law02_OctetTakes at h
  split at h
  · injection h with h; subst h; exact K_octet_TakeUint_ok m
  · injection h with h; subst h; exact K_ref02_TakeUint_ok m
  · injection h with h; subst h; exact K_octet_TakeInt_ok m
  · injection h with h; subst h; exact K_ref02_TakeInt_ok m
  · injection h with h; subst h; exact K_law02_awake_ok m
  · cases h
def w_law02_OctetTakes (b : Bool) : List (RV C) := [dBool.e b]
noncomputable def b_law02_OctetTakes {R : Type} (m : Nat) (ret : Bool → Option R) (b_0 : ByteArray) (at_1 : Int) : Option R :=
 (octet_TakeUint m b_0 at_1).bind fun r0 =>
 (ref02_TakeUint m b_0 at_1).bind fun r1 =>
 bif r0.fst != r1.fst then
 ret false
 else
 bif r0.snd.fst != r1.snd.fst then
 ret false
 else
 bif r0.snd.snd != r1.snd.snd then
 ret false
 else
 (octet_TakeInt m b_0 at_1).bind fun r2 =>
 (ref02_TakeInt m b_0 at_1).bind fun r3 =>
 bif r2.fst == r3.fst then
 (bif r2.snd.fst == r3.snd.fst then
 (bif r2.snd.snd == r3.snd.snd then
 ((law02_awake m).bind fun r4 =>
 ret r4)
 else
 ret false)
 else
 ret false)
 else
 ret false
theorem law02_OctetTakes_pre (m : Nat) (b_0 : ByteArray) (at_1 : Int) : funK Try.prog (Ψ_law02_OctetTakes m) keep m 1 6 [dStr.e b_0, (dInt .i64).e at_1] = b_law02_OctetTakes m (fun x0 => some (w_law02_OctetTakes x0)) b_0 at_1 := by kernel_rfl
theorem b_law02_OctetTakes_map (m : Nat) (b_0 : ByteArray) (at_1 : Int) : b_law02_OctetTakes m (fun x0 => some (w_law02_OctetTakes x0)) b_0 at_1 = (b_law02_OctetTakes m (fun x0 => some x0) b_0 at_1).map w_law02_OctetTakes := by
  simp only [b_law02_OctetTakes, cond_map, bind_map, map_none, map_some]
noncomputable def law02_OctetTakes (m : Nat) (b_0 : ByteArray) (at_1 : Int) : Option (Bool) := b_law02_OctetTakes m (fun x0 => some x0) b_0 at_1
theorem law02_OctetTakes_fun (m : Nat) (b_0 : ByteArray) (at_1 : Int) : funK Try.prog (Ψ_law02_OctetTakes m) keep m 1 6 [dStr.e b_0, (dInt .i64).e at_1] = (law02_OctetTakes m b_0 at_1).map w_law02_OctetTakes := by
  rw [law02_OctetTakes_pre]
  exact b_law02_OctetTakes_map m b_0 at_1
noncomputable def K_law02_OctetTakes (m : Nat) : KnownF C := mkK (dCons dStr (dCons (dInt .i64) dNil)) (fun a => law02_OctetTakes m a.1 a.2.1) w_law02_OctetTakes
theorem K_law02_OctetTakes_ok (m : Nat) : KnownAt C Try.prog 6 fun l => (K_law02_OctetTakes m).run _ l some :=
  mkK_known good fit (Ψ_law02_OctetTakes_ok m) (keep := keep) (m := m) (d := 1) fun a => law02_OctetTakes_fun m a.1 a.2.1
/-! ### signalbench/octet.size -/
noncomputable def Ψ_octet_size (m : Nat) : Known C := fun f => match f with
  | 16 => some (K_octet_TakeUint m)
  | _ => none
theorem Ψ_octet_size_ok (m : Nat) : KnownOk C Try.prog (Ψ_octet_size m) := by
  intro f φ h
  unfold Ψ_octet_size at h
  split at h
  · injection h with h; subst h; exact K_octet_TakeUint_ok m
  · cases h
def w_octet_size (b : Int × Int × Int) : List (RV C) := [(dInt .i64).e b.1, (dInt .i64).e b.2.1, (dInt .i64).e b.2.2]
noncomputable def b_octet_size {R : Type} (m : Nat) (ret : Int → Int → Int → Option R) (b_0 : ByteArray) (at_1 : Int) (most_2 : Int) : Option R :=
 (octet_TakeUint m b_0 at_1).bind fun r0 =>
 bif r0.snd.snd != 0 then
 ret 0 0 r0.snd.snd
 else
 bif decide (most_2 < 0) then
 ret 0 0 6
 else
 bif decide (r0.fst > IntKind.u64.wrap most_2) then
 ret 0 0 6
 else
 bif decide (r0.fst > IntKind.u64.wrap (IntKind.i64.wrap ((b_0.size : Int) - r0.snd.fst))) then
 ret 0 0 5
 else
 ret (IntKind.i64.wrap r0.fst) r0.snd.fst 0
theorem octet_size_pre (m : Nat) (b_0 : ByteArray) (at_1 : Int) (most_2 : Int) : funK Try.prog (Ψ_octet_size m) keep m 1 25 [dStr.e b_0, (dInt .i64).e at_1, (dInt .i64).e most_2] = b_octet_size m (fun x0 x1 x2 => some (w_octet_size (x0, x1, x2))) b_0 at_1 most_2 := by kernel_rfl
theorem b_octet_size_map (m : Nat) (b_0 : ByteArray) (at_1 : Int) (most_2 : Int) : b_octet_size m (fun x0 x1 x2 => some (w_octet_size (x0, x1, x2))) b_0 at_1 most_2 = (b_octet_size m (fun x0 x1 x2 => some (x0, x1, x2)) b_0 at_1 most_2).map w_octet_size := by
  simp only [b_octet_size, cond_map, bind_map, map_none, map_some]
noncomputable def octet_size (m : Nat) (b_0 : ByteArray) (at_1 : Int) (most_2 : Int) : Option (Int × Int × Int) := b_octet_size m (fun x0 x1 x2 => some (x0, x1, x2)) b_0 at_1 most_2
theorem octet_size_fun (m : Nat) (b_0 : ByteArray) (at_1 : Int) (most_2 : Int) : funK Try.prog (Ψ_octet_size m) keep m 1 25 [dStr.e b_0, (dInt .i64).e at_1, (dInt .i64).e most_2] = (octet_size m b_0 at_1 most_2).map w_octet_size := by
  rw [octet_size_pre]
  exact b_octet_size_map m b_0 at_1 most_2
noncomputable def K_octet_size (m : Nat) : KnownF C := mkK (dCons dStr (dCons (dInt .i64) (dCons (dInt .i64) dNil))) (fun a => octet_size m a.1 a.2.1 a.2.2.1) w_octet_size
theorem K_octet_size_ok (m : Nat) : KnownAt C Try.prog 25 fun l => (K_octet_size m).run _ l some :=
  mkK_known good fit (Ψ_octet_size_ok m) (keep := keep) (m := m) (d := 1) fun a => octet_size_fun m a.1 a.2.1 a.2.2.1
/-! ### signalbench/octet.TakeText -/
noncomputable def Ψ_octet_TakeText (m : Nat) : Known C := fun f => match f with
  | 25 => some (K_octet_size m)
  | _ => none
theorem Ψ_octet_TakeText_ok (m : Nat) : KnownOk C Try.prog (Ψ_octet_TakeText m) := by
  intro f φ h
  unfold Ψ_octet_TakeText at h
  split at h
  · injection h with h; subst h; exact K_octet_size_ok m
  · cases h
def w_octet_TakeText (b : ByteArray × Int × Int) : List (RV C) := [dStr.e b.1, (dInt .i64).e b.2.1, (dInt .i64).e b.2.2]
noncomputable def b_octet_TakeText {R : Type} (m : Nat) (ret : ByteArray → Int → Int → Option R) (b_0 : ByteArray) (at_1 : Int) (most_2 : Int) : Option R :=
 (octet_size m b_0 at_1 most_2).bind fun r0 =>
 bif r0.snd.snd != 0 then
 ret (bs []) 0 r0.snd.snd
 else
 bif decide (0 ≤ IntKind.i64.wrap (r0.snd.fst + r0.fst)) then
 bif decide (IntKind.i64.wrap (r0.snd.fst + r0.fst) ≤ (b_0.size : Int)) then
 bif decide (0 ≤ r0.snd.fst) then
 bif decide (r0.snd.fst ≤ IntKind.i64.wrap (r0.snd.fst + r0.fst)) then
 ret (b_0.extract r0.snd.fst.toNat (IntKind.i64.wrap (r0.snd.fst + r0.fst)).toNat) (IntKind.i64.wrap (r0.snd.fst + r0.fst)) 0
 else
 none
 else
 none
 else
 none
 else
 none
theorem octet_TakeText_pre (m : Nat) (b_0 : ByteArray) (at_1 : Int) (most_2 : Int) : funK Try.prog (Ψ_octet_TakeText m) keep m 1 20 [dStr.e b_0, (dInt .i64).e at_1, (dInt .i64).e most_2] = b_octet_TakeText m (fun x0 x1 x2 => some (w_octet_TakeText (x0, x1, x2))) b_0 at_1 most_2 := by kernel_rfl
theorem b_octet_TakeText_map (m : Nat) (b_0 : ByteArray) (at_1 : Int) (most_2 : Int) : b_octet_TakeText m (fun x0 x1 x2 => some (w_octet_TakeText (x0, x1, x2))) b_0 at_1 most_2 = (b_octet_TakeText m (fun x0 x1 x2 => some (x0, x1, x2)) b_0 at_1 most_2).map w_octet_TakeText := by
  simp only [b_octet_TakeText, cond_map, bind_map, map_none, map_some]
noncomputable def octet_TakeText (m : Nat) (b_0 : ByteArray) (at_1 : Int) (most_2 : Int) : Option (ByteArray × Int × Int) := b_octet_TakeText m (fun x0 x1 x2 => some (x0, x1, x2)) b_0 at_1 most_2
theorem octet_TakeText_fun (m : Nat) (b_0 : ByteArray) (at_1 : Int) (most_2 : Int) : funK Try.prog (Ψ_octet_TakeText m) keep m 1 20 [dStr.e b_0, (dInt .i64).e at_1, (dInt .i64).e most_2] = (octet_TakeText m b_0 at_1 most_2).map w_octet_TakeText := by
  rw [octet_TakeText_pre]
  exact b_octet_TakeText_map m b_0 at_1 most_2
noncomputable def K_octet_TakeText (m : Nat) : KnownF C := mkK (dCons dStr (dCons (dInt .i64) (dCons (dInt .i64) dNil))) (fun a => octet_TakeText m a.1 a.2.1 a.2.2.1) w_octet_TakeText
theorem K_octet_TakeText_ok (m : Nat) : KnownAt C Try.prog 20 fun l => (K_octet_TakeText m).run _ l some :=
  mkK_known good fit (Ψ_octet_TakeText_ok m) (keep := keep) (m := m) (d := 1) fun a => octet_TakeText_fun m a.1 a.2.1 a.2.2.1
/-! ### signalbench/signalbenchref02.TakeCount -/
noncomputable def Ψ_ref02_TakeCount (m : Nat) : Known C := fun f => match f with
  | 17 => some (K_ref02_TakeUint m)
  | _ => none
theorem Ψ_ref02_TakeCount_ok (m : Nat) : KnownOk C Try.prog (Ψ_ref02_TakeCount m) := by
  intro f φ h
  unfold Ψ_ref02_TakeCount at h
  split at h
  · injection h with h; subst h; exact K_ref02_TakeUint_ok m
  · cases h
def w_ref02_TakeCount (b : Int × Int × Int) : List (RV C) := [(dInt .i64).e b.1, (dInt .i64).e b.2.1, (dInt .i64).e b.2.2]
noncomputable def b_ref02_TakeCount {R : Type} (m : Nat) (ret : Int → Int → Int → Option R) (b_0 : ByteArray) (at_1 : Int) (most_2 : Int) : Option R :=
 (ref02_TakeUint m b_0 at_1).bind fun r0 =>
 bif r0.snd.snd != 0 then
 ret 0 0 r0.snd.snd
 else
 bif decide (most_2 < 0) then
 ret 0 0 6
 else
 bif decide (r0.fst > IntKind.u64.wrap most_2) then
 ret 0 0 6
 else
 bif decide (r0.fst > IntKind.u64.wrap (IntKind.i64.wrap ((b_0.size : Int) - r0.snd.fst))) then
 ret 0 0 5
 else
 ret (IntKind.i64.wrap r0.fst) r0.snd.fst 0
theorem ref02_TakeCount_pre (m : Nat) (b_0 : ByteArray) (at_1 : Int) (most_2 : Int) : funK Try.prog (Ψ_ref02_TakeCount m) keep m 1 23 [dStr.e b_0, (dInt .i64).e at_1, (dInt .i64).e most_2] = b_ref02_TakeCount m (fun x0 x1 x2 => some (w_ref02_TakeCount (x0, x1, x2))) b_0 at_1 most_2 := by kernel_rfl
theorem b_ref02_TakeCount_map (m : Nat) (b_0 : ByteArray) (at_1 : Int) (most_2 : Int) : b_ref02_TakeCount m (fun x0 x1 x2 => some (w_ref02_TakeCount (x0, x1, x2))) b_0 at_1 most_2 = (b_ref02_TakeCount m (fun x0 x1 x2 => some (x0, x1, x2)) b_0 at_1 most_2).map w_ref02_TakeCount := by
  simp only [b_ref02_TakeCount, cond_map, bind_map, map_none, map_some]
noncomputable def ref02_TakeCount (m : Nat) (b_0 : ByteArray) (at_1 : Int) (most_2 : Int) : Option (Int × Int × Int) := b_ref02_TakeCount m (fun x0 x1 x2 => some (x0, x1, x2)) b_0 at_1 most_2
theorem ref02_TakeCount_fun (m : Nat) (b_0 : ByteArray) (at_1 : Int) (most_2 : Int) : funK Try.prog (Ψ_ref02_TakeCount m) keep m 1 23 [dStr.e b_0, (dInt .i64).e at_1, (dInt .i64).e most_2] = (ref02_TakeCount m b_0 at_1 most_2).map w_ref02_TakeCount := by
  rw [ref02_TakeCount_pre]
  exact b_ref02_TakeCount_map m b_0 at_1 most_2
noncomputable def K_ref02_TakeCount (m : Nat) : KnownF C := mkK (dCons dStr (dCons (dInt .i64) (dCons (dInt .i64) dNil))) (fun a => ref02_TakeCount m a.1 a.2.1 a.2.2.1) w_ref02_TakeCount
theorem K_ref02_TakeCount_ok (m : Nat) : KnownAt C Try.prog 23 fun l => (K_ref02_TakeCount m).run _ l some :=
  mkK_known good fit (Ψ_ref02_TakeCount_ok m) (keep := keep) (m := m) (d := 1) fun a => ref02_TakeCount_fun m a.1 a.2.1 a.2.2.1
/-! ### signalbench/signalbenchref02.TakeText -/
noncomputable def Ψ_ref02_TakeText (m : Nat) : Known C := fun f => match f with
  | 23 => some (K_ref02_TakeCount m)
  | _ => none
theorem Ψ_ref02_TakeText_ok (m : Nat) : KnownOk C Try.prog (Ψ_ref02_TakeText m) := by
  intro f φ h
  unfold Ψ_ref02_TakeText at h
  split at h
  · injection h with h; subst h; exact K_ref02_TakeCount_ok m
  · cases h
def w_ref02_TakeText (b : ByteArray × Int × Int) : List (RV C) := [dStr.e b.1, (dInt .i64).e b.2.1, (dInt .i64).e b.2.2]
noncomputable def b_ref02_TakeText {R : Type} (m : Nat) (ret : ByteArray → Int → Int → Option R) (b_0 : ByteArray) (at_1 : Int) (most_2 : Int) : Option R :=
 (ref02_TakeCount m b_0 at_1 most_2).bind fun r0 =>
 bif r0.snd.snd != 0 then
 ret (bs []) 0 r0.snd.snd
 else
 bif decide (0 ≤ IntKind.i64.wrap (r0.snd.fst + r0.fst)) then
 bif decide (IntKind.i64.wrap (r0.snd.fst + r0.fst) ≤ (b_0.size : Int)) then
 bif decide (0 ≤ r0.snd.fst) then
 bif decide (r0.snd.fst ≤ IntKind.i64.wrap (r0.snd.fst + r0.fst)) then
 ret (b_0.extract r0.snd.fst.toNat (IntKind.i64.wrap (r0.snd.fst + r0.fst)).toNat) (IntKind.i64.wrap (r0.snd.fst + r0.fst)) 0
 else
 none
 else
 none
 else
 none
 else
 none
theorem ref02_TakeText_pre (m : Nat) (b_0 : ByteArray) (at_1 : Int) (most_2 : Int) : funK Try.prog (Ψ_ref02_TakeText m) keep m 1 21 [dStr.e b_0, (dInt .i64).e at_1, (dInt .i64).e most_2] = b_ref02_TakeText m (fun x0 x1 x2 => some (w_ref02_TakeText (x0, x1, x2))) b_0 at_1 most_2 := by kernel_rfl
theorem b_ref02_TakeText_map (m : Nat) (b_0 : ByteArray) (at_1 : Int) (most_2 : Int) : b_ref02_TakeText m (fun x0 x1 x2 => some (w_ref02_TakeText (x0, x1, x2))) b_0 at_1 most_2 = (b_ref02_TakeText m (fun x0 x1 x2 => some (x0, x1, x2)) b_0 at_1 most_2).map w_ref02_TakeText := by
  simp only [b_ref02_TakeText, cond_map, bind_map, map_none, map_some]
noncomputable def ref02_TakeText (m : Nat) (b_0 : ByteArray) (at_1 : Int) (most_2 : Int) : Option (ByteArray × Int × Int) := b_ref02_TakeText m (fun x0 x1 x2 => some (x0, x1, x2)) b_0 at_1 most_2
theorem ref02_TakeText_fun (m : Nat) (b_0 : ByteArray) (at_1 : Int) (most_2 : Int) : funK Try.prog (Ψ_ref02_TakeText m) keep m 1 21 [dStr.e b_0, (dInt .i64).e at_1, (dInt .i64).e most_2] = (ref02_TakeText m b_0 at_1 most_2).map w_ref02_TakeText := by
  rw [ref02_TakeText_pre]
  exact b_ref02_TakeText_map m b_0 at_1 most_2
noncomputable def K_ref02_TakeText (m : Nat) : KnownF C := mkK (dCons dStr (dCons (dInt .i64) (dCons (dInt .i64) dNil))) (fun a => ref02_TakeText m a.1 a.2.1 a.2.2.1) w_ref02_TakeText
theorem K_ref02_TakeText_ok (m : Nat) : KnownAt C Try.prog 21 fun l => (K_ref02_TakeText m).run _ l some :=
  mkK_known good fit (Ψ_ref02_TakeText_ok m) (keep := keep) (m := m) (d := 1) fun a => ref02_TakeText_fun m a.1 a.2.1 a.2.2.1
/-! ### signalbench/octet.TakeCount -/
noncomputable def Ψ_octet_TakeCount (m : Nat) : Known C := fun f => match f with
  | 25 => some (K_octet_size m)
  | _ => none
theorem Ψ_octet_TakeCount_ok (m : Nat) : KnownOk C Try.prog (Ψ_octet_TakeCount m) := by
  intro f φ h
  unfold Ψ_octet_TakeCount at h
  split at h
  · injection h with h; subst h; exact K_octet_size_ok m
  · cases h
def w_octet_TakeCount (b : Int × Int × Int) : List (RV C) := [(dInt .i64).e b.1, (dInt .i64).e b.2.1, (dInt .i64).e b.2.2]
noncomputable def b_octet_TakeCount {R : Type} (m : Nat) (ret : Int → Int → Int → Option R) (b_0 : ByteArray) (at_1 : Int) (most_2 : Int) : Option R :=
 (octet_size m b_0 at_1 most_2).bind fun r0 =>
 ret r0.fst r0.snd.fst r0.snd.snd
theorem octet_TakeCount_pre (m : Nat) (b_0 : ByteArray) (at_1 : Int) (most_2 : Int) : funK Try.prog (Ψ_octet_TakeCount m) keep m 1 22 [dStr.e b_0, (dInt .i64).e at_1, (dInt .i64).e most_2] = b_octet_TakeCount m (fun x0 x1 x2 => some (w_octet_TakeCount (x0, x1, x2))) b_0 at_1 most_2 := by kernel_rfl
theorem b_octet_TakeCount_map (m : Nat) (b_0 : ByteArray) (at_1 : Int) (most_2 : Int) : b_octet_TakeCount m (fun x0 x1 x2 => some (w_octet_TakeCount (x0, x1, x2))) b_0 at_1 most_2 = (b_octet_TakeCount m (fun x0 x1 x2 => some (x0, x1, x2)) b_0 at_1 most_2).map w_octet_TakeCount := by
  simp only [b_octet_TakeCount, cond_map, bind_map, map_none, map_some]
noncomputable def octet_TakeCount (m : Nat) (b_0 : ByteArray) (at_1 : Int) (most_2 : Int) : Option (Int × Int × Int) := b_octet_TakeCount m (fun x0 x1 x2 => some (x0, x1, x2)) b_0 at_1 most_2
theorem octet_TakeCount_fun (m : Nat) (b_0 : ByteArray) (at_1 : Int) (most_2 : Int) : funK Try.prog (Ψ_octet_TakeCount m) keep m 1 22 [dStr.e b_0, (dInt .i64).e at_1, (dInt .i64).e most_2] = (octet_TakeCount m b_0 at_1 most_2).map w_octet_TakeCount := by
  rw [octet_TakeCount_pre]
  exact b_octet_TakeCount_map m b_0 at_1 most_2
noncomputable def K_octet_TakeCount (m : Nat) : KnownF C := mkK (dCons dStr (dCons (dInt .i64) (dCons (dInt .i64) dNil))) (fun a => octet_TakeCount m a.1 a.2.1 a.2.2.1) w_octet_TakeCount
theorem K_octet_TakeCount_ok (m : Nat) : KnownAt C Try.prog 22 fun l => (K_octet_TakeCount m).run _ l some :=
  mkK_known good fit (Ψ_octet_TakeCount_ok m) (keep := keep) (m := m) (d := 1) fun a => octet_TakeCount_fun m a.1 a.2.1 a.2.2.1
/-! ### signalbench/signalbenchlaw02.OctetLimits -/
noncomputable def Ψ_law02_OctetLimits (m : Nat) : Known C := fun f => match f with
  | 20 => some (K_octet_TakeText m)
  | 21 => some (K_ref02_TakeText m)
  | 22 => some (K_octet_TakeCount m)
  | 23 => some (K_ref02_TakeCount m)
  | 15 => some (K_law02_awake m)
  | _ => none
theorem Ψ_law02_OctetLimits_ok (m : Nat) : KnownOk C Try.prog (Ψ_law02_OctetLimits m) := by
  intro f φ h
  unfold Ψ_law02_OctetLimits at h
  split at h
  · injection h with h; subst h; exact K_octet_TakeText_ok m
  · injection h with h; subst h; exact K_ref02_TakeText_ok m
  · injection h with h; subst h; exact K_octet_TakeCount_ok m
  · injection h with h; subst h; exact K_ref02_TakeCount_ok m
  · injection h with h; subst h; exact K_law02_awake_ok m
  · cases h
def w_law02_OctetLimits (b : Bool) : List (RV C) := [dBool.e b]
noncomputable def b_law02_OctetLimits {R : Type} (m : Nat) (ret : Bool → Option R) (b_0 : ByteArray) (at_1 : Int) (most_2 : Int) : Option R :=
 (octet_TakeText m b_0 at_1 most_2).bind fun r0 =>
 (ref02_TakeText m b_0 at_1 most_2).bind fun r1 =>
 bif !r0.fst.toList == r1.fst.toList then
 ret false
 else
 bif r0.snd.fst != r1.snd.fst then
 ret false
 else
 bif r0.snd.snd != r1.snd.snd then
 ret false
 else
 (octet_TakeCount m b_0 at_1 most_2).bind fun r2 =>
 (ref02_TakeCount m b_0 at_1 most_2).bind fun r3 =>
 bif r2.fst == r3.fst then
 (bif r2.snd.fst == r3.snd.fst then
 (bif r2.snd.snd == r3.snd.snd then
 ((law02_awake m).bind fun r4 =>
 ret r4)
 else
 ret false)
 else
 ret false)
 else
 ret false
theorem law02_OctetLimits_pre (m : Nat) (b_0 : ByteArray) (at_1 : Int) (most_2 : Int) : funK Try.prog (Ψ_law02_OctetLimits m) keep m 1 7 [dStr.e b_0, (dInt .i64).e at_1, (dInt .i64).e most_2] = b_law02_OctetLimits m (fun x0 => some (w_law02_OctetLimits x0)) b_0 at_1 most_2 := by kernel_rfl
theorem b_law02_OctetLimits_map (m : Nat) (b_0 : ByteArray) (at_1 : Int) (most_2 : Int) : b_law02_OctetLimits m (fun x0 => some (w_law02_OctetLimits x0)) b_0 at_1 most_2 = (b_law02_OctetLimits m (fun x0 => some x0) b_0 at_1 most_2).map w_law02_OctetLimits := by
  simp only [b_law02_OctetLimits, cond_map, bind_map, map_none, map_some]
noncomputable def law02_OctetLimits (m : Nat) (b_0 : ByteArray) (at_1 : Int) (most_2 : Int) : Option (Bool) := b_law02_OctetLimits m (fun x0 => some x0) b_0 at_1 most_2
theorem law02_OctetLimits_fun (m : Nat) (b_0 : ByteArray) (at_1 : Int) (most_2 : Int) : funK Try.prog (Ψ_law02_OctetLimits m) keep m 1 7 [dStr.e b_0, (dInt .i64).e at_1, (dInt .i64).e most_2] = (law02_OctetLimits m b_0 at_1 most_2).map w_law02_OctetLimits := by
  rw [law02_OctetLimits_pre]
  exact b_law02_OctetLimits_map m b_0 at_1 most_2
noncomputable def K_law02_OctetLimits (m : Nat) : KnownF C := mkK (dCons dStr (dCons (dInt .i64) (dCons (dInt .i64) dNil))) (fun a => law02_OctetLimits m a.1 a.2.1 a.2.2.1) w_law02_OctetLimits
theorem K_law02_OctetLimits_ok (m : Nat) : KnownAt C Try.prog 7 fun l => (K_law02_OctetLimits m).run _ l some :=
  mkK_known good fit (Ψ_law02_OctetLimits_ok m) (keep := keep) (m := m) (d := 1) fun a => law02_OctetLimits_fun m a.1 a.2.1 a.2.2.1
/-! ### signalbench/signalbenchlaw02.OctetRoundTrips -/
noncomputable def Ψ_law02_OctetRoundTrips (m : Nat) : Known C := fun f => match f with
  | 15 => some (K_law02_awake m)
  | 9 => some (K_octet_PutUint m)
  | 11 => some (K_octet_PutInt m)
  | 13 => some (K_octet_PutText m)
  | 16 => some (K_octet_TakeUint m)
  | 18 => some (K_octet_TakeInt m)
  | 20 => some (K_octet_TakeText m)
  | _ => none
theorem Ψ_law02_OctetRoundTrips_ok (m : Nat) : KnownOk C Try.prog (Ψ_law02_OctetRoundTrips m) := by
  intro f φ h
  unfold Ψ_law02_OctetRoundTrips at h
  split at h
  · injection h with h; subst h; exact K_law02_awake_ok m
  · injection h with h; subst h; exact K_octet_PutUint_ok m
  · injection h with h; subst h; exact K_octet_PutInt_ok m
  · injection h with h; subst h; exact K_octet_PutText_ok m
  · injection h with h; subst h; exact K_octet_TakeUint_ok m
  · injection h with h; subst h; exact K_octet_TakeInt_ok m
  · injection h with h; subst h; exact K_octet_TakeText_ok m
  · cases h
def w_law02_OctetRoundTrips (b : Bool) : List (RV C) := [dBool.e b]
noncomputable def b_law02_OctetRoundTrips {R : Type} (m : Nat) (ret : Bool → Option R) (b_0 : List Int) (n_1 : Int) (i_2 : Int) (s_3 : ByteArray) (behind_4 : ByteArray) : Option R :=
 bif decide ((b_0.length : Int) > 1048576) then
 ((law02_awake m).bind fun r0 =>
 ret r0)
 else
 bif decide ((s_3.size : Int) > 1048576) then
 ((law02_awake m).bind fun r1 =>
 ret r1)
 else
 bif decide ((behind_4.size : Int) > 1048576) then
 ((law02_awake m).bind fun r2 =>
 ret r2)
 else
 (octet_PutUint m b_0 n_1).bind fun r3 =>
 (octet_PutInt m r3 i_2).bind fun r4 =>
 (octet_PutText m r4 s_3).bind fun r5 =>
 bif decide ((((toBytes r5).size + behind_4.size) : Int) > 9223372036854775807) then
 none
 else
 bif decide (((toBytes r5 ++ behind_4).size : Int) < (b_0.length : Int)) then
 ret false
 else
 bif decide ((b_0.length : Int) ≤ ((toBytes r5 ++ behind_4).size : Int)) then
 (bif !((toBytes r5 ++ behind_4).extract 0 ((b_0.length : Int)).toNat).toList == (toBytes b_0).toList then
 ret false
 else
 (octet_TakeUint m (toBytes r5 ++ behind_4) ((b_0.length : Int))).bind fun r6 =>
 (octet_TakeInt m (toBytes r5 ++ behind_4) r6.snd.fst).bind fun r7 =>
 (octet_TakeText m (toBytes r5 ++ behind_4) r7.snd.fst 1048576).bind fun r8 =>
 bif r6.snd.snd != 0 then
 ret false
 else
 bif r7.snd.snd != 0 then
 ret false
 else
 bif r8.snd.snd != 0 then
 ret false
 else
 bif r6.fst != n_1 then
 ret false
 else
 bif r7.fst != i_2 then
 ret false
 else
 bif !r8.fst.toList == s_3.toList then
 ret false
 else
 bif r8.snd.fst != IntKind.i64.wrap (((toBytes r5 ++ behind_4).size : Int) - (behind_4.size : Int)) then
 ret false
 else
 (law02_awake m).bind fun r9 =>
 ret r9)
 else
 none
theorem law02_OctetRoundTrips_pre (m : Nat) (b_0 : List Int) (n_1 : Int) (i_2 : Int) (s_3 : ByteArray) (behind_4 : ByteArray) : funK Try.prog (Ψ_law02_OctetRoundTrips m) keep m 1 8 [(dRow 5).e b_0, (dInt .u64).e n_1, (dInt .i64).e i_2, dStr.e s_3, dStr.e behind_4] = b_law02_OctetRoundTrips m (fun x0 => some (w_law02_OctetRoundTrips x0)) b_0 n_1 i_2 s_3 behind_4 := by kernel_rfl
theorem b_law02_OctetRoundTrips_map (m : Nat) (b_0 : List Int) (n_1 : Int) (i_2 : Int) (s_3 : ByteArray) (behind_4 : ByteArray) : b_law02_OctetRoundTrips m (fun x0 => some (w_law02_OctetRoundTrips x0)) b_0 n_1 i_2 s_3 behind_4 = (b_law02_OctetRoundTrips m (fun x0 => some x0) b_0 n_1 i_2 s_3 behind_4).map w_law02_OctetRoundTrips := by
  simp only [b_law02_OctetRoundTrips, cond_map, bind_map, map_none, map_some]
noncomputable def law02_OctetRoundTrips (m : Nat) (b_0 : List Int) (n_1 : Int) (i_2 : Int) (s_3 : ByteArray) (behind_4 : ByteArray) : Option (Bool) := b_law02_OctetRoundTrips m (fun x0 => some x0) b_0 n_1 i_2 s_3 behind_4
theorem law02_OctetRoundTrips_fun (m : Nat) (b_0 : List Int) (n_1 : Int) (i_2 : Int) (s_3 : ByteArray) (behind_4 : ByteArray) : funK Try.prog (Ψ_law02_OctetRoundTrips m) keep m 1 8 [(dRow 5).e b_0, (dInt .u64).e n_1, (dInt .i64).e i_2, dStr.e s_3, dStr.e behind_4] = (law02_OctetRoundTrips m b_0 n_1 i_2 s_3 behind_4).map w_law02_OctetRoundTrips := by
  rw [law02_OctetRoundTrips_pre]
  exact b_law02_OctetRoundTrips_map m b_0 n_1 i_2 s_3 behind_4
noncomputable def K_law02_OctetRoundTrips (m : Nat) : KnownF C := mkK (dCons (dRow 5) (dCons (dInt .u64) (dCons (dInt .i64) (dCons dStr (dCons dStr dNil))))) (fun a => law02_OctetRoundTrips m a.1 a.2.1 a.2.2.1 a.2.2.2.1 a.2.2.2.2.1) w_law02_OctetRoundTrips
theorem K_law02_OctetRoundTrips_ok (m : Nat) : KnownAt C Try.prog 8 fun l => (K_law02_OctetRoundTrips m).run _ l some :=
  mkK_known good fit (Ψ_law02_OctetRoundTrips_ok m) (keep := keep) (m := m) (d := 1) fun a => law02_OctetRoundTrips_fun m a.1 a.2.1 a.2.2.1 a.2.2.2.1 a.2.2.2.2.1
end Go.Abs.K
