/- Plain functions for the functions of the seat, printed by a program of this claim's own, with their proofs. -/
import Derived.Test.YtohpkolbocmbbaaB
set_option linter.unusedVariables false
set_option linter.unusedSimpArgs false
set_option maxRecDepth 100000
namespace Go.Abs.K
open Go Go.Abs Go.Proofs
/-! ### signalbench/lin.checkItem -/
def w_lin_checkItem (b : Int) : List (RV C) := [(dInt .i64).e b]
noncomputable def b_lin_checkItem {R : Type} (m : Nat) (ret : Int → Option R) (x_0 : Item) : Option R :=
 bif decide (x_0.Gap < 0) then
 ret 1
 else
 bif decide (x_0.Gap > 1048576) then
 ret 1
 else
 bif decide ((x_0.Data.size : Int) > 4096) then
 ret 6
 else
 bif decide (x_0.Value < 0) then
 ret 2
 else
 bif decide (x_0.Value > 63) then
 ret 2
 else
 bif decide ((x_0.Data.size : Int) < 1) then
 ret 2
 else
 bif decide ((x_0.Data.size : Int) > 8) then
 ret 2
 else
 bif decide (x_0.Fault < 0) then
 ret 1
 else
 bif decide (x_0.Fault > 3) then
 ret 1
 else
 bif x_0.Aux != 0 then
 ret 1
 else
 ret 0
theorem lin_checkItem_pre (m : Nat) (x_0 : Item) : funK Try.prog Ψ0 keep m 1 29 [(dS of_Item cells_Item of_Item_ok).e x_0] = b_lin_checkItem m (fun x0 => some (w_lin_checkItem x0)) x_0 := by kernel_rfl
theorem b_lin_checkItem_map (m : Nat) (x_0 : Item) : b_lin_checkItem m (fun x0 => some (w_lin_checkItem x0)) x_0 = (b_lin_checkItem m (fun x0 => some x0) x_0).map w_lin_checkItem := by
  simp only [b_lin_checkItem, cond_map, bind_map, map_none, map_some]
noncomputable def lin_checkItem (m : Nat) (x_0 : Item) : Option (Int) := b_lin_checkItem m (fun x0 => some x0) x_0
theorem lin_checkItem_fun (m : Nat) (x_0 : Item) : funK Try.prog Ψ0 keep m 1 29 [(dS of_Item cells_Item of_Item_ok).e x_0] = (lin_checkItem m x_0).map w_lin_checkItem := by
  rw [lin_checkItem_pre]
  exact b_lin_checkItem_map m x_0
noncomputable def K_lin_checkItem (m : Nat) : KnownF C := mkK (dCons (dS of_Item cells_Item of_Item_ok) dNil) (fun a => lin_checkItem m a.1) w_lin_checkItem
theorem K_lin_checkItem_ok (m : Nat) : KnownAt C Try.prog 29 fun l => (K_lin_checkItem m).run _ l some :=
  mkK_known good fit Ψ0_ok (keep := keep) (m := m) (d := 1) fun a => lin_checkItem_fun m a.1
/-! ### signalbench/lin.protected -/
def w_lin_protected (b : Int) : List (RV C) := [(dInt .i64).e b]
noncomputable def b_lin_protected {R : Type} (m : Nat) (ret : Int → Option R) (id_0 : Int) : Option R :=
 ret (IntKind.i64.wrap (((BitVec.ofInt 64 (IntKind.i64.wrap (((BitVec.ofInt 64 id_0 ||| BitVec.ofInt 64 (IntKind.i64.wrap (IntKind.i64.wrap (((BitVec.ofInt 64 (IntKind.i64.wrap (((BitVec.ofInt 64 (IntKind.i64.wrap (((BitVec.ofInt 64 (IntKind.i64.wrap (((BitVec.ofInt 64 id_0 ^^^ BitVec.ofInt 64 (id_0.fdiv 2)).toNat : Int))) ^^^ BitVec.ofInt 64 (id_0.fdiv 4)).toNat : Int))) ^^^ BitVec.ofInt 64 (id_0.fdiv 16)).toNat : Int))) &&& BitVec.ofInt 64 1).toNat : Int)) * 64))).toNat : Int))) ||| BitVec.ofInt 64 (IntKind.i64.wrap (IntKind.i64.wrap (1 - IntKind.i64.wrap (((BitVec.ofInt 64 (IntKind.i64.wrap (((BitVec.ofInt 64 (IntKind.i64.wrap (((BitVec.ofInt 64 (IntKind.i64.wrap (((BitVec.ofInt 64 (id_0.fdiv 2) ^^^ BitVec.ofInt 64 (id_0.fdiv 8)).toNat : Int))) ^^^ BitVec.ofInt 64 (id_0.fdiv 16)).toNat : Int))) ^^^ BitVec.ofInt 64 (id_0.fdiv 32)).toNat : Int))) &&& BitVec.ofInt 64 1).toNat : Int))) * 128))).toNat : Int)))
theorem lin_protected_pre (m : Nat) (id_0 : Int) : funK Try.prog Ψ0 keep m 1 37 [(dInt .i64).e id_0] = b_lin_protected m (fun x0 => some (w_lin_protected x0)) id_0 := by kernel_rfl
theorem b_lin_protected_map (m : Nat) (id_0 : Int) : b_lin_protected m (fun x0 => some (w_lin_protected x0)) id_0 = (b_lin_protected m (fun x0 => some x0) id_0).map w_lin_protected := by
  simp only [b_lin_protected, cond_map, bind_map, map_none, map_some]
noncomputable def lin_protected (m : Nat) (id_0 : Int) : Option (Int) := b_lin_protected m (fun x0 => some x0) id_0
theorem lin_protected_fun (m : Nat) (id_0 : Int) : funK Try.prog Ψ0 keep m 1 37 [(dInt .i64).e id_0] = (lin_protected m id_0).map w_lin_protected := by
  rw [lin_protected_pre]
  exact b_lin_protected_map m id_0
noncomputable def K_lin_protected (m : Nat) : KnownF C := mkK (dCons (dInt .i64) dNil) (fun a => lin_protected m a.1) w_lin_protected
theorem K_lin_protected_ok (m : Nat) : KnownAt C Try.prog 37 fun l => (K_lin_protected m).run _ l some :=
  mkK_known good fit Ψ0_ok (keep := keep) (m := m) (d := 1) fun a => lin_protected_fun m a.1
/-! ### signalbench/check.Carry -/
def w_check_Carry (b : Int) : List (RV C) := [(dInt .i64).e b]
noncomputable def Q_check_Carry_3 (m : Nat) : St C → (Exit → St C → Option (List (RV C))) → Option (List (RV C)) := fun σ k => codeK Try.prog Ψ0 (callK Try.prog Ψ0 keep m 0) (keep 43) m (subC body43 [.r, .r, .l, .r, .b, .o]) σ k
noncomputable def KL_check_Carry_3 (m : Nat) : Exit → St C → Option (List (RV C)) := contK Try.prog Ψ0 (callK Try.prog Ψ0 keep m 0) (keep 43) m body43 [.r, .r, .l, .r, .b, .o] (leaveK Try.prog Try.f43.results.toList (finK Try.prog Try.f43.resultTypes.toList))
noncomputable def L_check_Carry_l3 (m n : Nat) (b_0 : ByteArray) (n_3 : Int) (t6 : Int) (t7 : Int) : Option (List (RV C)) := iterK (Q_check_Carry_3 m) (St.norm (keep 43 3)) n ({ T := [.fl (.one (.str b_0)), .dead, .dead, .fl (.one (.int .i64 n_3)), .dead, .dead, .fl (.one (.int .i64 t6)), .fl (.one (.int .i64 t7))] ++ List.replicate 15 .dead, F := [[]], H := [] } : St C) (KL_check_Carry_3 m)
noncomputable def b_check_Carry_l3 {R : Type} (m : Nat) (ret : Int → Option R) (k_l3 : ByteArray → Int → Int → Int → Option R) (b_0 : ByteArray) (n_3 : Int) (t6 : Int) (t7 : Int) : Option R :=
 bif decide (t7 < t6) then
 bif decide (0 ≤ t7) then
 bif decide (t7 < (b_0.size : Int)) then
 bif decide (IntKind.i64.wrap (n_3 + IntKind.i64.wrap (byteAt b_0 t7)) > 255) then
 k_l3 b_0 (IntKind.i64.wrap (IntKind.i64.wrap (n_3 + IntKind.i64.wrap (byteAt b_0 t7)) - 255)) t6 (IntKind.i64.wrap (t7 + 1))
 else
 k_l3 b_0 (IntKind.i64.wrap (n_3 + IntKind.i64.wrap (byteAt b_0 t7))) t6 (IntKind.i64.wrap (t7 + 1))
 else
 none
 else
 none
 else
 ret (IntKind.i64.wrap (255 - n_3))
theorem L_check_Carry_l3_step (m n : Nat) (b_0 : ByteArray) (n_3 : Int) (t6 : Int) (t7 : Int) : L_check_Carry_l3 m (n + 1) b_0 n_3 t6 t7 = b_check_Carry_l3 m (fun x0 => some (w_check_Carry x0)) (fun b_0 n_3 t6 t7 => L_check_Carry_l3 m n b_0 n_3 t6 t7) b_0 n_3 t6 t7 := by kernel_rfl
theorem b_check_Carry_l3_map (m : Nat) {k_l3 : ByteArray → Int → Int → Int → Option (List (RV C))} {q_l3 : ByteArray → Int → Int → Int → Option (Int)} (h_l3 : ∀ b_0 n_3 t6 t7, k_l3 b_0 n_3 t6 t7 = (q_l3 b_0 n_3 t6 t7).map w_check_Carry) (b_0 : ByteArray) (n_3 : Int) (t6 : Int) (t7 : Int) : b_check_Carry_l3 m (fun x0 => some (w_check_Carry x0)) k_l3 b_0 n_3 t6 t7 = (b_check_Carry_l3 m (fun x0 => some x0) q_l3 b_0 n_3 t6 t7).map w_check_Carry := by
  simp only [b_check_Carry_l3, cond_map, bind_map, map_none, map_some, h_l3]
noncomputable def check_Carry_l3 (m : Nat) : Nat → ByteArray → Int → Int → Int → Option (Int)
  | 0, _, _, _, _ => none
  | n + 1, b_0, n_3, t6, t7 => b_check_Carry_l3 m (fun x0 => some x0) (fun b_0 n_3 t6 t7 => check_Carry_l3 m n b_0 n_3 t6 t7) b_0 n_3 t6 t7
theorem L_check_Carry_l3_eq (m : Nat) : ∀ (n : Nat) (b_0 : ByteArray) (n_3 : Int) (t6 : Int) (t7 : Int), L_check_Carry_l3 m n b_0 n_3 t6 t7 = (check_Carry_l3 m n b_0 n_3 t6 t7).map w_check_Carry
  | 0, b_0, n_3, t6, t7 => by kernel_rfl
  | n + 1, b_0, n_3, t6, t7 => by
    rw [L_check_Carry_l3_step]
    exact b_check_Carry_l3_map m (fun b_0 n_3 t6 t7 => L_check_Carry_l3_eq m n b_0 n_3 t6 t7) b_0 n_3 t6 t7
noncomputable def b_check_Carry {R : Type} (m : Nat) (ret : Int → Option R) (k_l3 : ByteArray → Int → Int → Int → Option R) (b_0 : ByteArray) : Option R :=
 k_l3 b_0 0 (b_0.size : Int) 0
theorem check_Carry_pre (m : Nat) (b_0 : ByteArray) : funK Try.prog Ψ0 keep m 1 43 [dStr.e b_0] = b_check_Carry m (fun x0 => some (w_check_Carry x0)) (fun b_0 n_3 t6 t7 => L_check_Carry_l3 m m b_0 n_3 t6 t7) b_0 := by kernel_rfl
theorem b_check_Carry_map (m : Nat) {k_l3 : ByteArray → Int → Int → Int → Option (List (RV C))} {q_l3 : ByteArray → Int → Int → Int → Option (Int)} (h_l3 : ∀ b_0 n_3 t6 t7, k_l3 b_0 n_3 t6 t7 = (q_l3 b_0 n_3 t6 t7).map w_check_Carry) (b_0 : ByteArray) : b_check_Carry m (fun x0 => some (w_check_Carry x0)) k_l3 b_0 = (b_check_Carry m (fun x0 => some x0) q_l3 b_0).map w_check_Carry := by
  simp only [b_check_Carry, cond_map, bind_map, map_none, map_some, h_l3]
noncomputable def check_Carry (m : Nat) (b_0 : ByteArray) : Option (Int) := b_check_Carry m (fun x0 => some x0) (fun b_0 n_3 t6 t7 => check_Carry_l3 m m b_0 n_3 t6 t7) b_0
theorem check_Carry_fun (m : Nat) (b_0 : ByteArray) : funK Try.prog Ψ0 keep m 1 43 [dStr.e b_0] = (check_Carry m b_0).map w_check_Carry := by
  rw [check_Carry_pre]
  exact b_check_Carry_map m (fun b_0 n_3 t6 t7 => L_check_Carry_l3_eq m m b_0 n_3 t6 t7) b_0
noncomputable def K_check_Carry (m : Nat) : KnownF C := mkK (dCons dStr dNil) (fun a => check_Carry m a.1) w_check_Carry
theorem K_check_Carry_ok (m : Nat) : KnownAt C Try.prog 43 fun l => (K_check_Carry m).run _ l some :=
  mkK_known good fit Ψ0_ok (keep := keep) (m := m) (d := 1) fun a => check_Carry_fun m a.1
/-! ### signalbench/lin.checksum -/
noncomputable def Ψ_lin_checksum (m : Nat) : Known C := fun f => match f with
  | 43 => some (K_check_Carry m)
  | _ => none
theorem Ψ_lin_checksum_ok (m : Nat) : KnownOk C Try.prog (Ψ_lin_checksum m) := by
  intro f φ h
  unfold Ψ_lin_checksum at h
  split at h
  · injection h with h; subst h; exact K_check_Carry_ok m
  · cases h
def w_lin_checksum (b : Int) : List (RV C) := [(dInt .i64).e b]
noncomputable def b_lin_checksum {R : Type} (m : Nat) (ret : Int → Option R) (c_0 : Lin) (pid_1 : Int) (data_2 : ByteArray) : Option R :=
 bif c_0.Classic then
 ((check_Carry m data_2).bind fun r0 =>
 ret r0)
 else
 bif decide (IntKind.i64.wrap (((BitVec.ofInt 64 pid_1 &&& BitVec.ofInt 64 63).toNat : Int)) ≥ 60) then
 ((check_Carry m data_2).bind fun r1 =>
 ret r1)
 else
 bif decide ((((toBytes [IntKind.u8.wrap pid_1]).size + data_2.size) : Int) > 9223372036854775807) then
 none
 else
 (check_Carry m (toBytes [IntKind.u8.wrap pid_1] ++ data_2)).bind fun r2 =>
 ret r2
theorem lin_checksum_pre (m : Nat) (c_0 : Lin) (pid_1 : Int) (data_2 : ByteArray) : funK Try.prog (Ψ_lin_checksum m) keep m 1 39 [(dS of_Lin cells_Lin of_Lin_ok).e c_0, (dInt .i64).e pid_1, dStr.e data_2] = b_lin_checksum m (fun x0 => some (w_lin_checksum x0)) c_0 pid_1 data_2 := by kernel_rfl
theorem b_lin_checksum_map (m : Nat) (c_0 : Lin) (pid_1 : Int) (data_2 : ByteArray) : b_lin_checksum m (fun x0 => some (w_lin_checksum x0)) c_0 pid_1 data_2 = (b_lin_checksum m (fun x0 => some x0) c_0 pid_1 data_2).map w_lin_checksum := by
  simp only [b_lin_checksum, cond_map, bind_map, map_none, map_some]
noncomputable def lin_checksum (m : Nat) (c_0 : Lin) (pid_1 : Int) (data_2 : ByteArray) : Option (Int) := b_lin_checksum m (fun x0 => some x0) c_0 pid_1 data_2
theorem lin_checksum_fun (m : Nat) (c_0 : Lin) (pid_1 : Int) (data_2 : ByteArray) : funK Try.prog (Ψ_lin_checksum m) keep m 1 39 [(dS of_Lin cells_Lin of_Lin_ok).e c_0, (dInt .i64).e pid_1, dStr.e data_2] = (lin_checksum m c_0 pid_1 data_2).map w_lin_checksum := by
  rw [lin_checksum_pre]
  exact b_lin_checksum_map m c_0 pid_1 data_2
noncomputable def K_lin_checksum (m : Nat) : KnownF C := mkK (dCons (dS of_Lin cells_Lin of_Lin_ok) (dCons (dInt .i64) (dCons dStr dNil))) (fun a => lin_checksum m a.1 a.2.1 a.2.2.1) w_lin_checksum
theorem K_lin_checksum_ok (m : Nat) : KnownAt C Try.prog 39 fun l => (K_lin_checksum m).run _ l some :=
  mkK_known good fit (Ψ_lin_checksum_ok m) (keep := keep) (m := m) (d := 1) fun a => lin_checksum_fun m a.1 a.2.1 a.2.2.1
/-! ### signalbench/lin.send -/
noncomputable def Ψ_lin_send (m : Nat) : Known C := fun f => match f with
  | 37 => some (K_lin_protected m)
  | 39 => some (K_lin_checksum m)
  | _ => none
theorem Ψ_lin_send_ok (m : Nat) : KnownOk C Try.prog (Ψ_lin_send m) := by
  intro f φ h
  unfold Ψ_lin_send at h
  split at h
  · injection h with h; subst h; exact K_lin_protected_ok m
  · injection h with h; subst h; exact K_lin_checksum_ok m
  · cases h
def w_lin_send (b : List Item) : List (RV C) := [(dRow 45).e b]
noncomputable def Q_lin_send_11 (m : Nat) : St C → (Exit → St C → Option (List (RV C))) → Option (List (RV C)) := fun σ k => codeK Try.prog (Ψ_lin_send m) (callK Try.prog (Ψ_lin_send m) keep m 0) (keep 30) m (subC body30 [.r, .r, .r, .r, .r, .r, .r, .l, .r, .b, .o]) σ k
noncomputable def KL_lin_send_11 (m : Nat) : Exit → St C → Option (List (RV C)) := contK Try.prog (Ψ_lin_send m) (callK Try.prog (Ψ_lin_send m) keep m 0) (keep 30) m body30 [.r, .r, .r, .r, .r, .r, .r, .l, .r, .b, .o] (leaveK Try.prog Try.f30.results.toList (finK Try.prog Try.f30.resultTypes.toList))
noncomputable def L_lin_send_l11 (m n : Nat) (sum_7 : Int) (t41 : Int) (t42 : Int) (c0 : Item) (out_8 : List Item) : Option (List (RV C)) := iterK (Q_lin_send_11 m) (St.norm (keep 30 11)) n ({ T := [.dead, .dead, .dead, .fl (.one (.ptr 0 0)), .dead, .dead, .dead, .fl (.one (.int .i64 sum_7)), .fl (.one (.sl 1)), .dead, .dead, .dead, .dead, .dead, .dead, .dead, .dead, .dead, .dead, .dead, .dead, .dead, .dead, .dead, .dead, .dead, .dead, .dead, .dead, .dead, .dead, .dead, .dead, .dead, .dead, .dead, .dead, .dead, .dead, .dead, .dead, .fl (.one (.int .i64 t41)), .fl (.one (.int .i64 t42))] ++ List.replicate 17 .dead, F := [[]], H := [.box 45 (cells_Item c0), .row 45 true out_8] } : St C) (KL_lin_send_11 m)
noncomputable def b_lin_send_l11 {R : Type} (m : Nat) (ret : List Item → Option R) (k_l11 : Int → Int → Int → Item → List Item → Option R) (sum_7 : Int) (t41 : Int) (t42 : Int) (c0 : Item) (out_8 : List Item) : Option R :=
 bif decide (t42 < t41) then
 bif decide (0 ≤ t42) then
 bif decide (t42 < (c0.Data.size : Int)) then
 bif decide ((out_8.length + 1) * 48 ≤ 140737488355328) then
 k_l11 sum_7 t41 (IntKind.i64.wrap (t42 + 1)) c0 (out_8 ++ [Item.mk 0 (IntKind.i64.wrap (byteAt c0.Data t42)) 0 (bs []) 0])
 else
 none
 else
 none
 else
 none
 else
 bif decide ((out_8.length + 1) * 48 ≤ 140737488355328) then
 ret (out_8 ++ [Item.mk 0 sum_7 0 (bs []) 0])
 else
 none
theorem L_lin_send_l11_step (m n : Nat) (sum_7 : Int) (t41 : Int) (t42 : Int) (c0 : Item) (out_8 : List Item) : L_lin_send_l11 m (n + 1) sum_7 t41 t42 c0 out_8 = b_lin_send_l11 m (fun x0 => some (w_lin_send x0)) (fun sum_7 t41 t42 c0 out_8 => L_lin_send_l11 m n sum_7 t41 t42 c0 out_8) sum_7 t41 t42 c0 out_8 := by kernel_rfl
theorem b_lin_send_l11_map (m : Nat) {k_l11 : Int → Int → Int → Item → List Item → Option (List (RV C))} {q_l11 : Int → Int → Int → Item → List Item → Option (List Item)} (h_l11 : ∀ sum_7 t41 t42 c0 out_8, k_l11 sum_7 t41 t42 c0 out_8 = (q_l11 sum_7 t41 t42 c0 out_8).map w_lin_send) (sum_7 : Int) (t41 : Int) (t42 : Int) (c0 : Item) (out_8 : List Item) : b_lin_send_l11 m (fun x0 => some (w_lin_send x0)) k_l11 sum_7 t41 t42 c0 out_8 = (b_lin_send_l11 m (fun x0 => some x0) q_l11 sum_7 t41 t42 c0 out_8).map w_lin_send := by
  simp only [b_lin_send_l11, cond_map, bind_map, map_none, map_some, h_l11]
noncomputable def lin_send_l11 (m : Nat) : Nat → Int → Int → Int → Item → List Item → Option (List Item)
  | 0, _, _, _, _, _ => none
  | n + 1, sum_7, t41, t42, c0, out_8 => b_lin_send_l11 m (fun x0 => some x0) (fun sum_7 t41 t42 c0 out_8 => lin_send_l11 m n sum_7 t41 t42 c0 out_8) sum_7 t41 t42 c0 out_8
theorem L_lin_send_l11_eq (m : Nat) : ∀ (n : Nat) (sum_7 : Int) (t41 : Int) (t42 : Int) (c0 : Item) (out_8 : List Item), L_lin_send_l11 m n sum_7 t41 t42 c0 out_8 = (lin_send_l11 m n sum_7 t41 t42 c0 out_8).map w_lin_send
  | 0, sum_7, t41, t42, c0, out_8 => by kernel_rfl
  | n + 1, sum_7, t41, t42, c0, out_8 => by
    rw [L_lin_send_l11_step]
    exact b_lin_send_l11_map m (fun sum_7 t41 t42 c0 out_8 => L_lin_send_l11_eq m n sum_7 t41 t42 c0 out_8) sum_7 t41 t42 c0 out_8
noncomputable def b_lin_send {R : Type} (m : Nat) (ret : List Item → Option R) (k_l11 : Int → Int → Int → Item → List Item → Option R) (c_0 : Lin) (x_1 : Item) : Option R :=
 bif x_1.Fault == 1 then
 (bif x_1.Fault == 2 then
 ((lin_checksum m c_0 (IntKind.i64.wrap (((BitVec.ofInt 64 (IntKind.i64.wrap (((BitVec.ofInt 64 (IntKind.i64.wrap (((BitVec.ofInt 64 x_1.Value ||| BitVec.ofInt 64 (IntKind.i64.wrap (IntKind.i64.wrap (((BitVec.ofInt 64 (IntKind.i64.wrap (((BitVec.ofInt 64 (IntKind.i64.wrap (((BitVec.ofInt 64 (IntKind.i64.wrap (((BitVec.ofInt 64 x_1.Value ^^^ BitVec.ofInt 64 (x_1.Value.fdiv 2)).toNat : Int))) ^^^ BitVec.ofInt 64 (x_1.Value.fdiv 4)).toNat : Int))) ^^^ BitVec.ofInt 64 (x_1.Value.fdiv 16)).toNat : Int))) &&& BitVec.ofInt 64 1).toNat : Int)) * 64))).toNat : Int))) ||| BitVec.ofInt 64 (IntKind.i64.wrap (IntKind.i64.wrap (1 - IntKind.i64.wrap (((BitVec.ofInt 64 (IntKind.i64.wrap (((BitVec.ofInt 64 (IntKind.i64.wrap (((BitVec.ofInt 64 (IntKind.i64.wrap (((BitVec.ofInt 64 (x_1.Value.fdiv 2) ^^^ BitVec.ofInt 64 (x_1.Value.fdiv 8)).toNat : Int))) ^^^ BitVec.ofInt 64 (x_1.Value.fdiv 16)).toNat : Int))) ^^^ BitVec.ofInt 64 (x_1.Value.fdiv 32)).toNat : Int))) &&& BitVec.ofInt 64 1).toNat : Int))) * 128))).toNat : Int))) ^^^ BitVec.ofInt 64 64).toNat : Int))) x_1.Data).bind fun r0 =>
 bif x_1.Fault == 3 then
 k_l11 (IntKind.i64.wrap (((BitVec.ofInt 64 r0 ^^^ BitVec.ofInt 64 1).toNat : Int))) (x_1.Data.size : Int) 0 x_1 ([Item.mk x_1.Gap 0 1 (bs []) 0, Item.mk 0 84 0 (bs []) 0, Item.mk 0 (IntKind.i64.wrap (((BitVec.ofInt 64 (IntKind.i64.wrap (((BitVec.ofInt 64 (IntKind.i64.wrap (((BitVec.ofInt 64 x_1.Value ||| BitVec.ofInt 64 (IntKind.i64.wrap (IntKind.i64.wrap (((BitVec.ofInt 64 (IntKind.i64.wrap (((BitVec.ofInt 64 (IntKind.i64.wrap (((BitVec.ofInt 64 (IntKind.i64.wrap (((BitVec.ofInt 64 x_1.Value ^^^ BitVec.ofInt 64 (x_1.Value.fdiv 2)).toNat : Int))) ^^^ BitVec.ofInt 64 (x_1.Value.fdiv 4)).toNat : Int))) ^^^ BitVec.ofInt 64 (x_1.Value.fdiv 16)).toNat : Int))) &&& BitVec.ofInt 64 1).toNat : Int)) * 64))).toNat : Int))) ||| BitVec.ofInt 64 (IntKind.i64.wrap (IntKind.i64.wrap (1 - IntKind.i64.wrap (((BitVec.ofInt 64 (IntKind.i64.wrap (((BitVec.ofInt 64 (IntKind.i64.wrap (((BitVec.ofInt 64 (IntKind.i64.wrap (((BitVec.ofInt 64 (x_1.Value.fdiv 2) ^^^ BitVec.ofInt 64 (x_1.Value.fdiv 8)).toNat : Int))) ^^^ BitVec.ofInt 64 (x_1.Value.fdiv 16)).toNat : Int))) ^^^ BitVec.ofInt 64 (x_1.Value.fdiv 32)).toNat : Int))) &&& BitVec.ofInt 64 1).toNat : Int))) * 128))).toNat : Int))) ^^^ BitVec.ofInt 64 64).toNat : Int))) 0 (bs []) 0])
 else
 k_l11 r0 (x_1.Data.size : Int) 0 x_1 ([Item.mk x_1.Gap 0 1 (bs []) 0, Item.mk 0 84 0 (bs []) 0, Item.mk 0 (IntKind.i64.wrap (((BitVec.ofInt 64 (IntKind.i64.wrap (((BitVec.ofInt 64 (IntKind.i64.wrap (((BitVec.ofInt 64 x_1.Value ||| BitVec.ofInt 64 (IntKind.i64.wrap (IntKind.i64.wrap (((BitVec.ofInt 64 (IntKind.i64.wrap (((BitVec.ofInt 64 (IntKind.i64.wrap (((BitVec.ofInt 64 (IntKind.i64.wrap (((BitVec.ofInt 64 x_1.Value ^^^ BitVec.ofInt 64 (x_1.Value.fdiv 2)).toNat : Int))) ^^^ BitVec.ofInt 64 (x_1.Value.fdiv 4)).toNat : Int))) ^^^ BitVec.ofInt 64 (x_1.Value.fdiv 16)).toNat : Int))) &&& BitVec.ofInt 64 1).toNat : Int)) * 64))).toNat : Int))) ||| BitVec.ofInt 64 (IntKind.i64.wrap (IntKind.i64.wrap (1 - IntKind.i64.wrap (((BitVec.ofInt 64 (IntKind.i64.wrap (((BitVec.ofInt 64 (IntKind.i64.wrap (((BitVec.ofInt 64 (IntKind.i64.wrap (((BitVec.ofInt 64 (x_1.Value.fdiv 2) ^^^ BitVec.ofInt 64 (x_1.Value.fdiv 8)).toNat : Int))) ^^^ BitVec.ofInt 64 (x_1.Value.fdiv 16)).toNat : Int))) ^^^ BitVec.ofInt 64 (x_1.Value.fdiv 32)).toNat : Int))) &&& BitVec.ofInt 64 1).toNat : Int))) * 128))).toNat : Int))) ^^^ BitVec.ofInt 64 64).toNat : Int))) 0 (bs []) 0]))
 else
 (lin_checksum m c_0 (IntKind.i64.wrap (((BitVec.ofInt 64 (IntKind.i64.wrap (((BitVec.ofInt 64 x_1.Value ||| BitVec.ofInt 64 (IntKind.i64.wrap (IntKind.i64.wrap (((BitVec.ofInt 64 (IntKind.i64.wrap (((BitVec.ofInt 64 (IntKind.i64.wrap (((BitVec.ofInt 64 (IntKind.i64.wrap (((BitVec.ofInt 64 x_1.Value ^^^ BitVec.ofInt 64 (x_1.Value.fdiv 2)).toNat : Int))) ^^^ BitVec.ofInt 64 (x_1.Value.fdiv 4)).toNat : Int))) ^^^ BitVec.ofInt 64 (x_1.Value.fdiv 16)).toNat : Int))) &&& BitVec.ofInt 64 1).toNat : Int)) * 64))).toNat : Int))) ||| BitVec.ofInt 64 (IntKind.i64.wrap (IntKind.i64.wrap (1 - IntKind.i64.wrap (((BitVec.ofInt 64 (IntKind.i64.wrap (((BitVec.ofInt 64 (IntKind.i64.wrap (((BitVec.ofInt 64 (IntKind.i64.wrap (((BitVec.ofInt 64 (x_1.Value.fdiv 2) ^^^ BitVec.ofInt 64 (x_1.Value.fdiv 8)).toNat : Int))) ^^^ BitVec.ofInt 64 (x_1.Value.fdiv 16)).toNat : Int))) ^^^ BitVec.ofInt 64 (x_1.Value.fdiv 32)).toNat : Int))) &&& BitVec.ofInt 64 1).toNat : Int))) * 128))).toNat : Int))) x_1.Data).bind fun r1 =>
 bif x_1.Fault == 3 then
 k_l11 (IntKind.i64.wrap (((BitVec.ofInt 64 r1 ^^^ BitVec.ofInt 64 1).toNat : Int))) (x_1.Data.size : Int) 0 x_1 ([Item.mk x_1.Gap 0 1 (bs []) 0, Item.mk 0 84 0 (bs []) 0, Item.mk 0 (IntKind.i64.wrap (((BitVec.ofInt 64 (IntKind.i64.wrap (((BitVec.ofInt 64 x_1.Value ||| BitVec.ofInt 64 (IntKind.i64.wrap (IntKind.i64.wrap (((BitVec.ofInt 64 (IntKind.i64.wrap (((BitVec.ofInt 64 (IntKind.i64.wrap (((BitVec.ofInt 64 (IntKind.i64.wrap (((BitVec.ofInt 64 x_1.Value ^^^ BitVec.ofInt 64 (x_1.Value.fdiv 2)).toNat : Int))) ^^^ BitVec.ofInt 64 (x_1.Value.fdiv 4)).toNat : Int))) ^^^ BitVec.ofInt 64 (x_1.Value.fdiv 16)).toNat : Int))) &&& BitVec.ofInt 64 1).toNat : Int)) * 64))).toNat : Int))) ||| BitVec.ofInt 64 (IntKind.i64.wrap (IntKind.i64.wrap (1 - IntKind.i64.wrap (((BitVec.ofInt 64 (IntKind.i64.wrap (((BitVec.ofInt 64 (IntKind.i64.wrap (((BitVec.ofInt 64 (IntKind.i64.wrap (((BitVec.ofInt 64 (x_1.Value.fdiv 2) ^^^ BitVec.ofInt 64 (x_1.Value.fdiv 8)).toNat : Int))) ^^^ BitVec.ofInt 64 (x_1.Value.fdiv 16)).toNat : Int))) ^^^ BitVec.ofInt 64 (x_1.Value.fdiv 32)).toNat : Int))) &&& BitVec.ofInt 64 1).toNat : Int))) * 128))).toNat : Int))) 0 (bs []) 0])
 else
 k_l11 r1 (x_1.Data.size : Int) 0 x_1 ([Item.mk x_1.Gap 0 1 (bs []) 0, Item.mk 0 84 0 (bs []) 0, Item.mk 0 (IntKind.i64.wrap (((BitVec.ofInt 64 (IntKind.i64.wrap (((BitVec.ofInt 64 x_1.Value ||| BitVec.ofInt 64 (IntKind.i64.wrap (IntKind.i64.wrap (((BitVec.ofInt 64 (IntKind.i64.wrap (((BitVec.ofInt 64 (IntKind.i64.wrap (((BitVec.ofInt 64 (IntKind.i64.wrap (((BitVec.ofInt 64 x_1.Value ^^^ BitVec.ofInt 64 (x_1.Value.fdiv 2)).toNat : Int))) ^^^ BitVec.ofInt 64 (x_1.Value.fdiv 4)).toNat : Int))) ^^^ BitVec.ofInt 64 (x_1.Value.fdiv 16)).toNat : Int))) &&& BitVec.ofInt 64 1).toNat : Int)) * 64))).toNat : Int))) ||| BitVec.ofInt 64 (IntKind.i64.wrap (IntKind.i64.wrap (1 - IntKind.i64.wrap (((BitVec.ofInt 64 (IntKind.i64.wrap (((BitVec.ofInt 64 (IntKind.i64.wrap (((BitVec.ofInt 64 (IntKind.i64.wrap (((BitVec.ofInt 64 (x_1.Value.fdiv 2) ^^^ BitVec.ofInt 64 (x_1.Value.fdiv 8)).toNat : Int))) ^^^ BitVec.ofInt 64 (x_1.Value.fdiv 16)).toNat : Int))) ^^^ BitVec.ofInt 64 (x_1.Value.fdiv 32)).toNat : Int))) &&& BitVec.ofInt 64 1).toNat : Int))) * 128))).toNat : Int))) 0 (bs []) 0]))
 else
 bif x_1.Fault == 2 then
 ((lin_checksum m c_0 (IntKind.i64.wrap (((BitVec.ofInt 64 (IntKind.i64.wrap (((BitVec.ofInt 64 (IntKind.i64.wrap (((BitVec.ofInt 64 x_1.Value ||| BitVec.ofInt 64 (IntKind.i64.wrap (IntKind.i64.wrap (((BitVec.ofInt 64 (IntKind.i64.wrap (((BitVec.ofInt 64 (IntKind.i64.wrap (((BitVec.ofInt 64 (IntKind.i64.wrap (((BitVec.ofInt 64 x_1.Value ^^^ BitVec.ofInt 64 (x_1.Value.fdiv 2)).toNat : Int))) ^^^ BitVec.ofInt 64 (x_1.Value.fdiv 4)).toNat : Int))) ^^^ BitVec.ofInt 64 (x_1.Value.fdiv 16)).toNat : Int))) &&& BitVec.ofInt 64 1).toNat : Int)) * 64))).toNat : Int))) ||| BitVec.ofInt 64 (IntKind.i64.wrap (IntKind.i64.wrap (1 - IntKind.i64.wrap (((BitVec.ofInt 64 (IntKind.i64.wrap (((BitVec.ofInt 64 (IntKind.i64.wrap (((BitVec.ofInt 64 (IntKind.i64.wrap (((BitVec.ofInt 64 (x_1.Value.fdiv 2) ^^^ BitVec.ofInt 64 (x_1.Value.fdiv 8)).toNat : Int))) ^^^ BitVec.ofInt 64 (x_1.Value.fdiv 16)).toNat : Int))) ^^^ BitVec.ofInt 64 (x_1.Value.fdiv 32)).toNat : Int))) &&& BitVec.ofInt 64 1).toNat : Int))) * 128))).toNat : Int))) ^^^ BitVec.ofInt 64 64).toNat : Int))) x_1.Data).bind fun r2 =>
 bif x_1.Fault == 3 then
 k_l11 (IntKind.i64.wrap (((BitVec.ofInt 64 r2 ^^^ BitVec.ofInt 64 1).toNat : Int))) (x_1.Data.size : Int) 0 x_1 ([Item.mk x_1.Gap 0 1 (bs []) 0, Item.mk 0 85 0 (bs []) 0, Item.mk 0 (IntKind.i64.wrap (((BitVec.ofInt 64 (IntKind.i64.wrap (((BitVec.ofInt 64 (IntKind.i64.wrap (((BitVec.ofInt 64 x_1.Value ||| BitVec.ofInt 64 (IntKind.i64.wrap (IntKind.i64.wrap (((BitVec.ofInt 64 (IntKind.i64.wrap (((BitVec.ofInt 64 (IntKind.i64.wrap (((BitVec.ofInt 64 (IntKind.i64.wrap (((BitVec.ofInt 64 x_1.Value ^^^ BitVec.ofInt 64 (x_1.Value.fdiv 2)).toNat : Int))) ^^^ BitVec.ofInt 64 (x_1.Value.fdiv 4)).toNat : Int))) ^^^ BitVec.ofInt 64 (x_1.Value.fdiv 16)).toNat : Int))) &&& BitVec.ofInt 64 1).toNat : Int)) * 64))).toNat : Int))) ||| BitVec.ofInt 64 (IntKind.i64.wrap (IntKind.i64.wrap (1 - IntKind.i64.wrap (((BitVec.ofInt 64 (IntKind.i64.wrap (((BitVec.ofInt 64 (IntKind.i64.wrap (((BitVec.ofInt 64 (IntKind.i64.wrap (((BitVec.ofInt 64 (x_1.Value.fdiv 2) ^^^ BitVec.ofInt 64 (x_1.Value.fdiv 8)).toNat : Int))) ^^^ BitVec.ofInt 64 (x_1.Value.fdiv 16)).toNat : Int))) ^^^ BitVec.ofInt 64 (x_1.Value.fdiv 32)).toNat : Int))) &&& BitVec.ofInt 64 1).toNat : Int))) * 128))).toNat : Int))) ^^^ BitVec.ofInt 64 64).toNat : Int))) 0 (bs []) 0])
 else
 k_l11 r2 (x_1.Data.size : Int) 0 x_1 ([Item.mk x_1.Gap 0 1 (bs []) 0, Item.mk 0 85 0 (bs []) 0, Item.mk 0 (IntKind.i64.wrap (((BitVec.ofInt 64 (IntKind.i64.wrap (((BitVec.ofInt 64 (IntKind.i64.wrap (((BitVec.ofInt 64 x_1.Value ||| BitVec.ofInt 64 (IntKind.i64.wrap (IntKind.i64.wrap (((BitVec.ofInt 64 (IntKind.i64.wrap (((BitVec.ofInt 64 (IntKind.i64.wrap (((BitVec.ofInt 64 (IntKind.i64.wrap (((BitVec.ofInt 64 x_1.Value ^^^ BitVec.ofInt 64 (x_1.Value.fdiv 2)).toNat : Int))) ^^^ BitVec.ofInt 64 (x_1.Value.fdiv 4)).toNat : Int))) ^^^ BitVec.ofInt 64 (x_1.Value.fdiv 16)).toNat : Int))) &&& BitVec.ofInt 64 1).toNat : Int)) * 64))).toNat : Int))) ||| BitVec.ofInt 64 (IntKind.i64.wrap (IntKind.i64.wrap (1 - IntKind.i64.wrap (((BitVec.ofInt 64 (IntKind.i64.wrap (((BitVec.ofInt 64 (IntKind.i64.wrap (((BitVec.ofInt 64 (IntKind.i64.wrap (((BitVec.ofInt 64 (x_1.Value.fdiv 2) ^^^ BitVec.ofInt 64 (x_1.Value.fdiv 8)).toNat : Int))) ^^^ BitVec.ofInt 64 (x_1.Value.fdiv 16)).toNat : Int))) ^^^ BitVec.ofInt 64 (x_1.Value.fdiv 32)).toNat : Int))) &&& BitVec.ofInt 64 1).toNat : Int))) * 128))).toNat : Int))) ^^^ BitVec.ofInt 64 64).toNat : Int))) 0 (bs []) 0]))
 else
 (lin_checksum m c_0 (IntKind.i64.wrap (((BitVec.ofInt 64 (IntKind.i64.wrap (((BitVec.ofInt 64 x_1.Value ||| BitVec.ofInt 64 (IntKind.i64.wrap (IntKind.i64.wrap (((BitVec.ofInt 64 (IntKind.i64.wrap (((BitVec.ofInt 64 (IntKind.i64.wrap (((BitVec.ofInt 64 (IntKind.i64.wrap (((BitVec.ofInt 64 x_1.Value ^^^ BitVec.ofInt 64 (x_1.Value.fdiv 2)).toNat : Int))) ^^^ BitVec.ofInt 64 (x_1.Value.fdiv 4)).toNat : Int))) ^^^ BitVec.ofInt 64 (x_1.Value.fdiv 16)).toNat : Int))) &&& BitVec.ofInt 64 1).toNat : Int)) * 64))).toNat : Int))) ||| BitVec.ofInt 64 (IntKind.i64.wrap (IntKind.i64.wrap (1 - IntKind.i64.wrap (((BitVec.ofInt 64 (IntKind.i64.wrap (((BitVec.ofInt 64 (IntKind.i64.wrap (((BitVec.ofInt 64 (IntKind.i64.wrap (((BitVec.ofInt 64 (x_1.Value.fdiv 2) ^^^ BitVec.ofInt 64 (x_1.Value.fdiv 8)).toNat : Int))) ^^^ BitVec.ofInt 64 (x_1.Value.fdiv 16)).toNat : Int))) ^^^ BitVec.ofInt 64 (x_1.Value.fdiv 32)).toNat : Int))) &&& BitVec.ofInt 64 1).toNat : Int))) * 128))).toNat : Int))) x_1.Data).bind fun r3 =>
 bif x_1.Fault == 3 then
 k_l11 (IntKind.i64.wrap (((BitVec.ofInt 64 r3 ^^^ BitVec.ofInt 64 1).toNat : Int))) (x_1.Data.size : Int) 0 x_1 ([Item.mk x_1.Gap 0 1 (bs []) 0, Item.mk 0 85 0 (bs []) 0, Item.mk 0 (IntKind.i64.wrap (((BitVec.ofInt 64 (IntKind.i64.wrap (((BitVec.ofInt 64 x_1.Value ||| BitVec.ofInt 64 (IntKind.i64.wrap (IntKind.i64.wrap (((BitVec.ofInt 64 (IntKind.i64.wrap (((BitVec.ofInt 64 (IntKind.i64.wrap (((BitVec.ofInt 64 (IntKind.i64.wrap (((BitVec.ofInt 64 x_1.Value ^^^ BitVec.ofInt 64 (x_1.Value.fdiv 2)).toNat : Int))) ^^^ BitVec.ofInt 64 (x_1.Value.fdiv 4)).toNat : Int))) ^^^ BitVec.ofInt 64 (x_1.Value.fdiv 16)).toNat : Int))) &&& BitVec.ofInt 64 1).toNat : Int)) * 64))).toNat : Int))) ||| BitVec.ofInt 64 (IntKind.i64.wrap (IntKind.i64.wrap (1 - IntKind.i64.wrap (((BitVec.ofInt 64 (IntKind.i64.wrap (((BitVec.ofInt 64 (IntKind.i64.wrap (((BitVec.ofInt 64 (IntKind.i64.wrap (((BitVec.ofInt 64 (x_1.Value.fdiv 2) ^^^ BitVec.ofInt 64 (x_1.Value.fdiv 8)).toNat : Int))) ^^^ BitVec.ofInt 64 (x_1.Value.fdiv 16)).toNat : Int))) ^^^ BitVec.ofInt 64 (x_1.Value.fdiv 32)).toNat : Int))) &&& BitVec.ofInt 64 1).toNat : Int))) * 128))).toNat : Int))) 0 (bs []) 0])
 else
 k_l11 r3 (x_1.Data.size : Int) 0 x_1 ([Item.mk x_1.Gap 0 1 (bs []) 0, Item.mk 0 85 0 (bs []) 0, Item.mk 0 (IntKind.i64.wrap (((BitVec.ofInt 64 (IntKind.i64.wrap (((BitVec.ofInt 64 x_1.Value ||| BitVec.ofInt 64 (IntKind.i64.wrap (IntKind.i64.wrap (((BitVec.ofInt 64 (IntKind.i64.wrap (((BitVec.ofInt 64 (IntKind.i64.wrap (((BitVec.ofInt 64 (IntKind.i64.wrap (((BitVec.ofInt 64 x_1.Value ^^^ BitVec.ofInt 64 (x_1.Value.fdiv 2)).toNat : Int))) ^^^ BitVec.ofInt 64 (x_1.Value.fdiv 4)).toNat : Int))) ^^^ BitVec.ofInt 64 (x_1.Value.fdiv 16)).toNat : Int))) &&& BitVec.ofInt 64 1).toNat : Int)) * 64))).toNat : Int))) ||| BitVec.ofInt 64 (IntKind.i64.wrap (IntKind.i64.wrap (1 - IntKind.i64.wrap (((BitVec.ofInt 64 (IntKind.i64.wrap (((BitVec.ofInt 64 (IntKind.i64.wrap (((BitVec.ofInt 64 (IntKind.i64.wrap (((BitVec.ofInt 64 (x_1.Value.fdiv 2) ^^^ BitVec.ofInt 64 (x_1.Value.fdiv 8)).toNat : Int))) ^^^ BitVec.ofInt 64 (x_1.Value.fdiv 16)).toNat : Int))) ^^^ BitVec.ofInt 64 (x_1.Value.fdiv 32)).toNat : Int))) &&& BitVec.ofInt 64 1).toNat : Int))) * 128))).toNat : Int))) 0 (bs []) 0])
theorem lin_send_pre (m : Nat) (c_0 : Lin) (x_1 : Item) : funK Try.prog (Ψ_lin_send m) keep m 1 30 [(dS of_Lin cells_Lin of_Lin_ok).e c_0, (dS of_Item cells_Item of_Item_ok).e x_1] = b_lin_send m (fun x0 => some (w_lin_send x0)) (fun sum_7 t41 t42 c0 out_8 => L_lin_send_l11 m m sum_7 t41 t42 c0 out_8) c_0 x_1 := by kernel_rfl
theorem b_lin_send_map (m : Nat) {k_l11 : Int → Int → Int → Item → List Item → Option (List (RV C))} {q_l11 : Int → Int → Int → Item → List Item → Option (List Item)} (h_l11 : ∀ sum_7 t41 t42 c0 out_8, k_l11 sum_7 t41 t42 c0 out_8 = (q_l11 sum_7 t41 t42 c0 out_8).map w_lin_send) (c_0 : Lin) (x_1 : Item) : b_lin_send m (fun x0 => some (w_lin_send x0)) k_l11 c_0 x_1 = (b_lin_send m (fun x0 => some x0) q_l11 c_0 x_1).map w_lin_send := by
  simp only [b_lin_send, cond_map, bind_map, map_none, map_some, h_l11]
noncomputable def lin_send (m : Nat) (c_0 : Lin) (x_1 : Item) : Option (List Item) := b_lin_send m (fun x0 => some x0) (fun sum_7 t41 t42 c0 out_8 => lin_send_l11 m m sum_7 t41 t42 c0 out_8) c_0 x_1
theorem lin_send_fun (m : Nat) (c_0 : Lin) (x_1 : Item) : funK Try.prog (Ψ_lin_send m) keep m 1 30 [(dS of_Lin cells_Lin of_Lin_ok).e c_0, (dS of_Item cells_Item of_Item_ok).e x_1] = (lin_send m c_0 x_1).map w_lin_send := by
  rw [lin_send_pre]
  exact b_lin_send_map m (fun sum_7 t41 t42 c0 out_8 => L_lin_send_l11_eq m m sum_7 t41 t42 c0 out_8) c_0 x_1
noncomputable def K_lin_send (m : Nat) : KnownF C := mkK (dCons (dS of_Lin cells_Lin of_Lin_ok) (dCons (dS of_Item cells_Item of_Item_ok) dNil)) (fun a => lin_send m a.1 a.2.1) w_lin_send
theorem K_lin_send_ok (m : Nat) : KnownAt C Try.prog 30 fun l => (K_lin_send m).run _ l some :=
  mkK_known good fit (Ψ_lin_send_ok m) (keep := keep) (m := m) (d := 1) fun a => lin_send_fun m a.1 a.2.1
/-! ### signalbench/lin.Encode -/
noncomputable def Ψ_lin_Encode (m : Nat) : Known C := fun f => match f with
  | 29 => some (K_lin_checkItem m)
  | 30 => some (K_lin_send m)
  | _ => none
theorem Ψ_lin_Encode_ok (m : Nat) : KnownOk C Try.prog (Ψ_lin_Encode m) := by
  intro f φ h
  unfold Ψ_lin_Encode at h
  split at h
  · injection h with h; subst h; exact K_lin_checkItem_ok m
  · injection h with h; subst h; exact K_lin_send_ok m
  · cases h
def w_lin_Encode (b : List Item × Int) : List (RV C) := [(dRow 45).e b.1, (dInt .i64).e b.2]
noncomputable def Q_lin_Encode_4 (m : Nat) : St C → (Exit → St C → Option (List (RV C))) → Option (List (RV C)) := fun σ k => codeK Try.prog (Ψ_lin_Encode m) (callK Try.prog (Ψ_lin_Encode m) keep m 0) (keep 19) m (subC body19 [.r, .r, .l, .r, .b, .o]) σ k
noncomputable def KL_lin_Encode_4 (m : Nat) : Exit → St C → Option (List (RV C)) := contK Try.prog (Ψ_lin_Encode m) (callK Try.prog (Ψ_lin_Encode m) keep m 0) (keep 19) m body19 [.r, .r, .l, .r, .b, .o] (leaveK Try.prog Try.f19.results.toList (finK Try.prog Try.f19.resultTypes.toList))
noncomputable def Q_lin_Encode_12 (m : Nat) : St C → (Exit → St C → Option (List (RV C))) → Option (List (RV C)) := fun σ k => codeK Try.prog (Ψ_lin_Encode m) (callK Try.prog (Ψ_lin_Encode m) keep m 0) (keep 19) m (subC body19 [.r, .r, .r, .r, .l, .r, .b, .o]) σ k
noncomputable def KL_lin_Encode_12 (m : Nat) : Exit → St C → Option (List (RV C)) := contK Try.prog (Ψ_lin_Encode m) (callK Try.prog (Ψ_lin_Encode m) keep m 0) (keep 19) m body19 [.r, .r, .r, .r, .l, .r, .b, .o] (leaveK Try.prog Try.f19.results.toList (finK Try.prog Try.f19.resultTypes.toList))
noncomputable def L_lin_Encode_l4 (m n : Nat) (t16 : Int) (t17 : Int) (l_1 : List Item) (c1 : Lin) : Option (List (RV C)) := iterK (Q_lin_Encode_4 m) (St.norm (keep 19 4)) n ({ T := [.dead, .fl (.one (.sl 0)), .fl (.one (.ptr 1 0)), .dead, .dead, .dead, .dead, .dead, .dead, .dead, .dead, .dead, .dead, .dead, .dead, .fl (.one (.sl 0)), .fl (.one (.int .i64 t16)), .fl (.one (.int .i64 t17))] ++ List.replicate 22 .dead, F := [[]], H := [.row 45 false l_1, .box 23 (cells_Lin c1)] } : St C) (KL_lin_Encode_4 m)
noncomputable def L_lin_Encode_l12 (m n : Nat) (t28 : Int) (t29 : Int) (c0 : Lin) (out_9 : List Item) (t27 : List Item) : Option (List (RV C)) := iterK (Q_lin_Encode_12 m) (St.norm (keep 19 12)) n ({ T := [.dead, .dead, .fl (.one (.ptr 0 0)), .dead, .dead, .dead, .dead, .dead, .dead, .fl (.one (.sl 1)), .dead, .dead, .dead, .dead, .dead, .dead, .dead, .dead, .dead, .dead, .dead, .dead, .dead, .dead, .dead, .dead, .dead, .fl (.one (.sl 2)), .fl (.one (.int .i64 t28)), .fl (.one (.int .i64 t29))] ++ List.replicate 10 .dead, F := [[]], H := [.box 23 (cells_Lin c0), .row 45 true out_9, .row 45 false t27] } : St C) (KL_lin_Encode_12 m)
noncomputable def b_lin_Encode_l12 {R : Type} (m : Nat) (ret : List Item → Int → Option R) (k_l12 : Int → Int → Lin → List Item → List Item → Option R) (t28 : Int) (t29 : Int) (c0 : Lin) (out_9 : List Item) (t27 : List Item) : Option R :=
 bif decide (t29 < t28) then
 (bif decide (0 ≤ t29) then
 (bif decide (t29 < (t27.length : Int)) then
 ((lin_send m c0 (t27.getD t29.toNat dflt_Item)).bind fun r0 =>
 bif decide ((out_9.length + r0.length) * 48 ≤ 140737488355328) then
 k_l12 t28 (IntKind.i64.wrap (t29 + 1)) c0 (out_9 ++ r0) t27
 else
 none)
 else
 none)
 else
 none)
 else
 ret out_9 0
theorem L_lin_Encode_l12_step (m n : Nat) (t28 : Int) (t29 : Int) (c0 : Lin) (out_9 : List Item) (t27 : List Item) : L_lin_Encode_l12 m (n + 1) t28 t29 c0 out_9 t27 = b_lin_Encode_l12 m (fun x0 x1 => some (w_lin_Encode (x0, x1))) (fun t28 t29 c0 out_9 t27 => L_lin_Encode_l12 m n t28 t29 c0 out_9 t27) t28 t29 c0 out_9 t27 := by kernel_rfl
theorem b_lin_Encode_l12_map (m : Nat) {k_l12 : Int → Int → Lin → List Item → List Item → Option (List (RV C))} {q_l12 : Int → Int → Lin → List Item → List Item → Option (List Item × Int)} (h_l12 : ∀ t28 t29 c0 out_9 t27, k_l12 t28 t29 c0 out_9 t27 = (q_l12 t28 t29 c0 out_9 t27).map w_lin_Encode) (t28 : Int) (t29 : Int) (c0 : Lin) (out_9 : List Item) (t27 : List Item) : b_lin_Encode_l12 m (fun x0 x1 => some (w_lin_Encode (x0, x1))) k_l12 t28 t29 c0 out_9 t27 = (b_lin_Encode_l12 m (fun x0 x1 => some (x0, x1)) q_l12 t28 t29 c0 out_9 t27).map w_lin_Encode := by
  simp only [b_lin_Encode_l12, cond_map, bind_map, map_none, map_some, h_l12]
noncomputable def lin_Encode_l12 (m : Nat) : Nat → Int → Int → Lin → List Item → List Item → Option (List Item × Int)
  | 0, _, _, _, _, _ => none
  | n + 1, t28, t29, c0, out_9, t27 => b_lin_Encode_l12 m (fun x0 x1 => some (x0, x1)) (fun t28 t29 c0 out_9 t27 => lin_Encode_l12 m n t28 t29 c0 out_9 t27) t28 t29 c0 out_9 t27
theorem L_lin_Encode_l12_eq (m : Nat) : ∀ (n : Nat) (t28 : Int) (t29 : Int) (c0 : Lin) (out_9 : List Item) (t27 : List Item), L_lin_Encode_l12 m n t28 t29 c0 out_9 t27 = (lin_Encode_l12 m n t28 t29 c0 out_9 t27).map w_lin_Encode
  | 0, t28, t29, c0, out_9, t27 => by kernel_rfl
  | n + 1, t28, t29, c0, out_9, t27 => by
    rw [L_lin_Encode_l12_step]
    exact b_lin_Encode_l12_map m (fun t28 t29 c0 out_9 t27 => L_lin_Encode_l12_eq m n t28 t29 c0 out_9 t27) t28 t29 c0 out_9 t27
noncomputable def b_lin_Encode_l4 {R : Type} (m : Nat) (ret : List Item → Int → Option R) (k_l4 : Int → Int → List Item → Lin → Option R) (k_l12 : Int → Int → Lin → List Item → List Item → Option R) (t16 : Int) (t17 : Int) (l_1 : List Item) (c1 : Lin) : Option R :=
 bif decide (t17 < t16) then
 (bif decide (0 ≤ t17) then
 (bif decide (t17 < (l_1.length : Int)) then
 ((lin_checkItem m (l_1.getD t17.toNat dflt_Item)).bind fun r0 =>
 bif r0 != 0 then
 ret [] r0
 else
 k_l4 t16 (IntKind.i64.wrap (t17 + 1)) l_1 c1)
 else
 none)
 else
 none)
 else
 k_l12 (l_1.length : Int) 0 c1 [] l_1
theorem L_lin_Encode_l4_step (m n : Nat) (t16 : Int) (t17 : Int) (l_1 : List Item) (c1 : Lin) : L_lin_Encode_l4 m (n + 1) t16 t17 l_1 c1 = b_lin_Encode_l4 m (fun x0 x1 => some (w_lin_Encode (x0, x1))) (fun t16 t17 l_1 c1 => L_lin_Encode_l4 m n t16 t17 l_1 c1) (fun t28 t29 c0 out_9 t27 => L_lin_Encode_l12 m m t28 t29 c0 out_9 t27) t16 t17 l_1 c1 := by kernel_rfl
theorem b_lin_Encode_l4_map (m : Nat) {k_l4 : Int → Int → List Item → Lin → Option (List (RV C))} {q_l4 : Int → Int → List Item → Lin → Option (List Item × Int)} (h_l4 : ∀ t16 t17 l_1 c1, k_l4 t16 t17 l_1 c1 = (q_l4 t16 t17 l_1 c1).map w_lin_Encode) {k_l12 : Int → Int → Lin → List Item → List Item → Option (List (RV C))} {q_l12 : Int → Int → Lin → List Item → List Item → Option (List Item × Int)} (h_l12 : ∀ t28 t29 c0 out_9 t27, k_l12 t28 t29 c0 out_9 t27 = (q_l12 t28 t29 c0 out_9 t27).map w_lin_Encode) (t16 : Int) (t17 : Int) (l_1 : List Item) (c1 : Lin) : b_lin_Encode_l4 m (fun x0 x1 => some (w_lin_Encode (x0, x1))) k_l4 k_l12 t16 t17 l_1 c1 = (b_lin_Encode_l4 m (fun x0 x1 => some (x0, x1)) q_l4 q_l12 t16 t17 l_1 c1).map w_lin_Encode := by
  simp only [b_lin_Encode_l4, cond_map, bind_map, map_none, map_some, h_l4, h_l12]
noncomputable def lin_Encode_l4 (m : Nat) : Nat → Int → Int → List Item → Lin → Option (List Item × Int)
  | 0, _, _, _, _ => none
  | n + 1, t16, t17, l_1, c1 => b_lin_Encode_l4 m (fun x0 x1 => some (x0, x1)) (fun t16 t17 l_1 c1 => lin_Encode_l4 m n t16 t17 l_1 c1) (fun t28 t29 c0 out_9 t27 => lin_Encode_l12 m m t28 t29 c0 out_9 t27) t16 t17 l_1 c1
theorem L_lin_Encode_l4_eq (m : Nat) : ∀ (n : Nat) (t16 : Int) (t17 : Int) (l_1 : List Item) (c1 : Lin), L_lin_Encode_l4 m n t16 t17 l_1 c1 = (lin_Encode_l4 m n t16 t17 l_1 c1).map w_lin_Encode
  | 0, t16, t17, l_1, c1 => by kernel_rfl
  | n + 1, t16, t17, l_1, c1 => by
    rw [L_lin_Encode_l4_step]
    exact b_lin_Encode_l4_map m (fun t16 t17 l_1 c1 => L_lin_Encode_l4_eq m n t16 t17 l_1 c1) (fun t28 t29 c0 out_9 t27 => L_lin_Encode_l12_eq m m t28 t29 c0 out_9 t27) t16 t17 l_1 c1
noncomputable def b_lin_Encode {R : Type} (m : Nat) (ret : List Item → Int → Option R) (k_l4 : Int → Int → List Item → Lin → Option R) (c_0 : Lin) (l_1 : List Item) : Option R :=
 bif decide ((l_1.length : Int) > 1024) then
 ret [] 6
 else
 k_l4 (l_1.length : Int) 0 l_1 c_0
theorem lin_Encode_pre (m : Nat) (c_0 : Lin) (l_1 : List Item) : funK Try.prog (Ψ_lin_Encode m) keep m 1 19 [(dS of_Lin cells_Lin of_Lin_ok).e c_0, (dRow 45).e l_1] = b_lin_Encode m (fun x0 x1 => some (w_lin_Encode (x0, x1))) (fun t16 t17 l_1 c1 => L_lin_Encode_l4 m m t16 t17 l_1 c1) c_0 l_1 := by kernel_rfl
theorem b_lin_Encode_map (m : Nat) {k_l4 : Int → Int → List Item → Lin → Option (List (RV C))} {q_l4 : Int → Int → List Item → Lin → Option (List Item × Int)} (h_l4 : ∀ t16 t17 l_1 c1, k_l4 t16 t17 l_1 c1 = (q_l4 t16 t17 l_1 c1).map w_lin_Encode) (c_0 : Lin) (l_1 : List Item) : b_lin_Encode m (fun x0 x1 => some (w_lin_Encode (x0, x1))) k_l4 c_0 l_1 = (b_lin_Encode m (fun x0 x1 => some (x0, x1)) q_l4 c_0 l_1).map w_lin_Encode := by
  simp only [b_lin_Encode, cond_map, bind_map, map_none, map_some, h_l4]
noncomputable def lin_Encode (m : Nat) (c_0 : Lin) (l_1 : List Item) : Option (List Item × Int) := b_lin_Encode m (fun x0 x1 => some (x0, x1)) (fun t16 t17 l_1 c1 => lin_Encode_l4 m m t16 t17 l_1 c1) c_0 l_1
theorem lin_Encode_fun (m : Nat) (c_0 : Lin) (l_1 : List Item) : funK Try.prog (Ψ_lin_Encode m) keep m 1 19 [(dS of_Lin cells_Lin of_Lin_ok).e c_0, (dRow 45).e l_1] = (lin_Encode m c_0 l_1).map w_lin_Encode := by
  rw [lin_Encode_pre]
  exact b_lin_Encode_map m (fun t16 t17 l_1 c1 => L_lin_Encode_l4_eq m m t16 t17 l_1 c1) c_0 l_1
noncomputable def K_lin_Encode (m : Nat) : KnownF C := mkK (dCons (dS of_Lin cells_Lin of_Lin_ok) (dCons (dRow 45) dNil)) (fun a => lin_Encode m a.1 a.2.1) w_lin_Encode
theorem K_lin_Encode_ok (m : Nat) : KnownAt C Try.prog 19 fun l => (K_lin_Encode m).run _ l some :=
  mkK_known good fit (Ψ_lin_Encode_ok m) (keep := keep) (m := m) (d := 1) fun a => lin_Encode_fun m a.1 a.2.1
/-! ### signalbench/signalbenchlaw27.events -/
def w_law27_events (b : List Event) : List (RV C) := [(dRow 32).e b]
noncomputable def Q_law27_events_4 (m : Nat) : St C → (Exit → St C → Option (List (RV C))) → Option (List (RV C)) := fun σ k => codeK Try.prog Ψ0 (callK Try.prog Ψ0 keep m 0) (keep 21) m (subC body21 [.r, .r, .r, .l, .r, .b, .o]) σ k
noncomputable def KL_law27_events_4 (m : Nat) : Exit → St C → Option (List (RV C)) := contK Try.prog Ψ0 (callK Try.prog Ψ0 keep m 0) (keep 21) m body21 [.r, .r, .r, .l, .r, .b, .o] (leaveK Try.prog Try.f21.results.toList (finK Try.prog Try.f21.resultTypes.toList))
noncomputable def L_law27_events_l4 (m n : Nat) (ticks_1 : Int) (at_6 : Int) (i_7 : Int) (l_0 : List Item) (out_5 : List Event) : Option (List (RV C)) := iterK (Q_law27_events_4 m) (St.norm (keep 21 4)) n ({ T := [.fl (.one (.sl 0)), .fl (.one (.int .i64 ticks_1)), .dead, .dead, .dead, .fl (.one (.sl 1)), .fl (.one (.int .i64 at_6)), .fl (.one (.int .i64 i_7))] ++ List.replicate 44 .dead, F := [[]], H := [.row 45 false l_0, .row 32 true out_5] } : St C) (KL_law27_events_4 m)
noncomputable def b_law27_events_l4 {R : Type} (m : Nat) (ret : List Event → Option R) (k_l4 : Int → Int → Int → List Item → List Event → Option R) (ticks_1 : Int) (at_6 : Int) (i_7 : Int) (l_0 : List Item) (out_5 : List Event) : Option R :=
 bif decide (i_7 < (l_0.length : Int)) then
 bif decide (0 ≤ i_7) then
 bif decide (i_7 < (l_0.length : Int)) then
 bif decide (0 ≤ i_7) then
 bif decide (i_7 < (l_0.length : Int)) then
 bif decide (0 ≤ i_7) then
 bif decide (i_7 < (l_0.length : Int)) then
 bif (l_0.getD i_7.toNat dflt_Item).Aux == 1 then
 bif decide ((out_5.length + 1) * 64 ≤ 140737488355328) then
 k_l4 ticks_1 (IntKind.i64.wrap (IntKind.i64.wrap (at_6 + (l_0.getD i_7.toNat dflt_Item).Gap) + ticks_1)) (IntKind.i64.wrap (i_7 + 1)) l_0 (out_5 ++ [Event.mk 4 (IntKind.i64.wrap (at_6 + (l_0.getD i_7.toNat dflt_Item).Gap)) (IntKind.i64.wrap (IntKind.i64.wrap (at_6 + (l_0.getD i_7.toNat dflt_Item).Gap) + ticks_1)) 1 0 (bs []) 0])
 else
 none
 else
 bif decide ((out_5.length + 1) * 64 ≤ 140737488355328) then
 k_l4 ticks_1 (IntKind.i64.wrap (IntKind.i64.wrap (at_6 + (l_0.getD i_7.toNat dflt_Item).Gap) + ticks_1)) (IntKind.i64.wrap (i_7 + 1)) l_0 (out_5 ++ [Event.mk 3 (IntKind.i64.wrap (at_6 + (l_0.getD i_7.toNat dflt_Item).Gap)) (IntKind.i64.wrap (IntKind.i64.wrap (at_6 + (l_0.getD i_7.toNat dflt_Item).Gap) + ticks_1)) (l_0.getD i_7.toNat dflt_Item).Value 0 (bs []) 0])
 else
 none
 else
 none
 else
 none
 else
 none
 else
 none
 else
 none
 else
 none
 else
 ret out_5
theorem L_law27_events_l4_step (m n : Nat) (ticks_1 : Int) (at_6 : Int) (i_7 : Int) (l_0 : List Item) (out_5 : List Event) : L_law27_events_l4 m (n + 1) ticks_1 at_6 i_7 l_0 out_5 = b_law27_events_l4 m (fun x0 => some (w_law27_events x0)) (fun ticks_1 at_6 i_7 l_0 out_5 => L_law27_events_l4 m n ticks_1 at_6 i_7 l_0 out_5) ticks_1 at_6 i_7 l_0 out_5 := by kernel_rfl
theorem b_law27_events_l4_map (m : Nat) {k_l4 : Int → Int → Int → List Item → List Event → Option (List (RV C))} {q_l4 : Int → Int → Int → List Item → List Event → Option (List Event)} (h_l4 : ∀ ticks_1 at_6 i_7 l_0 out_5, k_l4 ticks_1 at_6 i_7 l_0 out_5 = (q_l4 ticks_1 at_6 i_7 l_0 out_5).map w_law27_events) (ticks_1 : Int) (at_6 : Int) (i_7 : Int) (l_0 : List Item) (out_5 : List Event) : b_law27_events_l4 m (fun x0 => some (w_law27_events x0)) k_l4 ticks_1 at_6 i_7 l_0 out_5 = (b_law27_events_l4 m (fun x0 => some x0) q_l4 ticks_1 at_6 i_7 l_0 out_5).map w_law27_events := by
  simp only [b_law27_events_l4, cond_map, bind_map, map_none, map_some, h_l4]
noncomputable def law27_events_l4 (m : Nat) : Nat → Int → Int → Int → List Item → List Event → Option (List Event)
  | 0, _, _, _, _, _ => none
  | n + 1, ticks_1, at_6, i_7, l_0, out_5 => b_law27_events_l4 m (fun x0 => some x0) (fun ticks_1 at_6 i_7 l_0 out_5 => law27_events_l4 m n ticks_1 at_6 i_7 l_0 out_5) ticks_1 at_6 i_7 l_0 out_5
theorem L_law27_events_l4_eq (m : Nat) : ∀ (n : Nat) (ticks_1 : Int) (at_6 : Int) (i_7 : Int) (l_0 : List Item) (out_5 : List Event), L_law27_events_l4 m n ticks_1 at_6 i_7 l_0 out_5 = (law27_events_l4 m n ticks_1 at_6 i_7 l_0 out_5).map w_law27_events
  | 0, ticks_1, at_6, i_7, l_0, out_5 => by kernel_rfl
  | n + 1, ticks_1, at_6, i_7, l_0, out_5 => by
    rw [L_law27_events_l4_step]
    exact b_law27_events_l4_map m (fun ticks_1 at_6 i_7 l_0 out_5 => L_law27_events_l4_eq m n ticks_1 at_6 i_7 l_0 out_5) ticks_1 at_6 i_7 l_0 out_5
noncomputable def b_law27_events {R : Type} (m : Nat) (ret : List Event → Option R) (k_l4 : Int → Int → Int → List Item → List Event → Option R) (l_0 : List Item) (ticks_1 : Int) : Option R :=
 k_l4 ticks_1 0 0 l_0 []
theorem law27_events_pre (m : Nat) (l_0 : List Item) (ticks_1 : Int) : funK Try.prog Ψ0 keep m 1 21 [(dRow 45).e l_0, (dInt .i64).e ticks_1] = b_law27_events m (fun x0 => some (w_law27_events x0)) (fun ticks_1 at_6 i_7 l_0 out_5 => L_law27_events_l4 m m ticks_1 at_6 i_7 l_0 out_5) l_0 ticks_1 := by kernel_rfl
theorem b_law27_events_map (m : Nat) {k_l4 : Int → Int → Int → List Item → List Event → Option (List (RV C))} {q_l4 : Int → Int → Int → List Item → List Event → Option (List Event)} (h_l4 : ∀ ticks_1 at_6 i_7 l_0 out_5, k_l4 ticks_1 at_6 i_7 l_0 out_5 = (q_l4 ticks_1 at_6 i_7 l_0 out_5).map w_law27_events) (l_0 : List Item) (ticks_1 : Int) : b_law27_events m (fun x0 => some (w_law27_events x0)) k_l4 l_0 ticks_1 = (b_law27_events m (fun x0 => some x0) q_l4 l_0 ticks_1).map w_law27_events := by
  simp only [b_law27_events, cond_map, bind_map, map_none, map_some, h_l4]
noncomputable def law27_events (m : Nat) (l_0 : List Item) (ticks_1 : Int) : Option (List Event) := b_law27_events m (fun x0 => some x0) (fun ticks_1 at_6 i_7 l_0 out_5 => law27_events_l4 m m ticks_1 at_6 i_7 l_0 out_5) l_0 ticks_1
theorem law27_events_fun (m : Nat) (l_0 : List Item) (ticks_1 : Int) : funK Try.prog Ψ0 keep m 1 21 [(dRow 45).e l_0, (dInt .i64).e ticks_1] = (law27_events m l_0 ticks_1).map w_law27_events := by
  rw [law27_events_pre]
  exact b_law27_events_map m (fun ticks_1 at_6 i_7 l_0 out_5 => L_law27_events_l4_eq m m ticks_1 at_6 i_7 l_0 out_5) l_0 ticks_1
noncomputable def K_law27_events (m : Nat) : KnownF C := mkK (dCons (dRow 45) (dCons (dInt .i64) dNil)) (fun a => law27_events m a.1 a.2.1) w_law27_events
theorem K_law27_events_ok (m : Nat) : KnownAt C Try.prog 21 fun l => (K_law27_events m).run _ l some :=
  mkK_known good fit Ψ0_ok (keep := keep) (m := m) (d := 1) fun a => law27_events_fun m a.1 a.2.1
/-! ### signalbench/lin.Start -/
def w_lin_Start (b : State) : List (RV C) := [(dS of_State cells_State of_State_ok).e b]
noncomputable def b_lin_Start {R : Type} (m : Nat) (ret : State → Option R) (c_0 : Lin) : Option R :=
 ret (State.mk 0 0 0 0 0 0 0 (bs []))
theorem lin_Start_pre (m : Nat) (c_0 : Lin) : funK Try.prog Ψ0 keep m 1 9 [(dS of_Lin cells_Lin of_Lin_ok).e c_0] = b_lin_Start m (fun x0 => some (w_lin_Start x0)) c_0 := by kernel_rfl
theorem b_lin_Start_map (m : Nat) (c_0 : Lin) : b_lin_Start m (fun x0 => some (w_lin_Start x0)) c_0 = (b_lin_Start m (fun x0 => some x0) c_0).map w_lin_Start := by
  simp only [b_lin_Start, cond_map, bind_map, map_none, map_some]
noncomputable def lin_Start (m : Nat) (c_0 : Lin) : Option (State) := b_lin_Start m (fun x0 => some x0) c_0
theorem lin_Start_fun (m : Nat) (c_0 : Lin) : funK Try.prog Ψ0 keep m 1 9 [(dS of_Lin cells_Lin of_Lin_ok).e c_0] = (lin_Start m c_0).map w_lin_Start := by
  rw [lin_Start_pre]
  exact b_lin_Start_map m c_0
noncomputable def K_lin_Start (m : Nat) : KnownF C := mkK (dCons (dS of_Lin cells_Lin of_Lin_ok) dNil) (fun a => lin_Start m a.1) w_lin_Start
theorem K_lin_Start_ok (m : Nat) : KnownAt C Try.prog 9 fun l => (K_lin_Start m).run _ l some :=
  mkK_known good fit Ψ0_ok (keep := keep) (m := m) (d := 1) fun a => lin_Start_fun m a.1
/-! ### signalbench/event.Valid -/
def w_event_Valid (b : Bool) : List (RV C) := [dBool.e b]
noncomputable def b_event_Valid {R : Type} (m : Nat) (ret : Bool → Option R) (e_0 : Event) : Option R :=
 bif decide (e_0.Kind < 1) then
 ret false
 else
 bif decide (e_0.Kind > 8) then
 ret false
 else
 bif decide (e_0.From < 0) then
 ret false
 else
 bif decide (e_0.From > e_0.To) then
 ret false
 else
 bif decide (e_0.To > 1099511627776) then
 ret false
 else
 bif decide (e_0.Value < -9007199254740992) then
 ret false
 else
 bif decide (e_0.Value > 9007199254740992) then
 ret false
 else
 bif decide (e_0.Aux < -9007199254740992) then
 ret false
 else
 bif decide (e_0.Aux > 9007199254740992) then
 ret false
 else
 bif decide ((e_0.Data.size : Int) ≤ 4096) then
 bif decide (e_0.Fault ≥ 0) then
 ret (decide (e_0.Fault ≤ 12))
 else
 ret false
 else
 ret false
theorem event_Valid_pre (m : Nat) (e_0 : Event) : funK Try.prog Ψ0 keep m 1 34 [(dS of_Event cells_Event of_Event_ok).e e_0] = b_event_Valid m (fun x0 => some (w_event_Valid x0)) e_0 := by kernel_rfl
theorem b_event_Valid_map (m : Nat) (e_0 : Event) : b_event_Valid m (fun x0 => some (w_event_Valid x0)) e_0 = (b_event_Valid m (fun x0 => some x0) e_0).map w_event_Valid := by
  simp only [b_event_Valid, cond_map, bind_map, map_none, map_some]
noncomputable def event_Valid (m : Nat) (e_0 : Event) : Option (Bool) := b_event_Valid m (fun x0 => some x0) e_0
theorem event_Valid_fun (m : Nat) (e_0 : Event) : funK Try.prog Ψ0 keep m 1 34 [(dS of_Event cells_Event of_Event_ok).e e_0] = (event_Valid m e_0).map w_event_Valid := by
  rw [event_Valid_pre]
  exact b_event_Valid_map m e_0
noncomputable def K_event_Valid (m : Nat) : KnownF C := mkK (dCons (dS of_Event cells_Event of_Event_ok) dNil) (fun a => event_Valid m a.1) w_event_Valid
theorem K_event_Valid_ok (m : Nat) : KnownAt C Try.prog 34 fun l => (K_event_Valid m).run _ l some :=
  mkK_known good fit Ψ0_ok (keep := keep) (m := m) (d := 1) fun a => event_Valid_fun m a.1
/-! ### signalbench/lin.accepts -/
noncomputable def Ψ_lin_accepts (m : Nat) : Known C := fun f => match f with
  | 34 => some (K_event_Valid m)
  | _ => none
theorem Ψ_lin_accepts_ok (m : Nat) : KnownOk C Try.prog (Ψ_lin_accepts m) := by
  intro f φ h
  unfold Ψ_lin_accepts at h
  split at h
  · injection h with h; subst h; exact K_event_Valid_ok m
  · cases h
def w_lin_accepts (b : Bool) : List (RV C) := [dBool.e b]
noncomputable def b_lin_accepts {R : Type} (m : Nat) (ret : Bool → Option R) (s_0 : State) (e_1 : Event) : Option R :=
 (event_Valid m e_1).bind fun r0 =>
 bif !r0 then
 ret false
 else
 bif decide (e_1.From < s_0.At) then
 ret false
 else
 bif e_1.Kind == 4 then
 ret true
 else
 bif e_1.Kind == 3 then
 ret (IntKind.i64.wrap (((BitVec.ofInt 64 e_1.Value &&& ~~~BitVec.ofInt 64 255).toNat : Int)) == 0)
 else
 ret false
theorem lin_accepts_pre (m : Nat) (s_0 : State) (e_1 : Event) : funK Try.prog (Ψ_lin_accepts m) keep m 1 25 [(dS of_State cells_State of_State_ok).e s_0, (dS of_Event cells_Event of_Event_ok).e e_1] = b_lin_accepts m (fun x0 => some (w_lin_accepts x0)) s_0 e_1 := by kernel_rfl
theorem b_lin_accepts_map (m : Nat) (s_0 : State) (e_1 : Event) : b_lin_accepts m (fun x0 => some (w_lin_accepts x0)) s_0 e_1 = (b_lin_accepts m (fun x0 => some x0) s_0 e_1).map w_lin_accepts := by
  simp only [b_lin_accepts, cond_map, bind_map, map_none, map_some]
noncomputable def lin_accepts (m : Nat) (s_0 : State) (e_1 : Event) : Option (Bool) := b_lin_accepts m (fun x0 => some x0) s_0 e_1
theorem lin_accepts_fun (m : Nat) (s_0 : State) (e_1 : Event) : funK Try.prog (Ψ_lin_accepts m) keep m 1 25 [(dS of_State cells_State of_State_ok).e s_0, (dS of_Event cells_Event of_Event_ok).e e_1] = (lin_accepts m s_0 e_1).map w_lin_accepts := by
  rw [lin_accepts_pre]
  exact b_lin_accepts_map m s_0 e_1
noncomputable def K_lin_accepts (m : Nat) : KnownF C := mkK (dCons (dS of_State cells_State of_State_ok) (dCons (dS of_Event cells_Event of_Event_ok) dNil)) (fun a => lin_accepts m a.1 a.2.1) w_lin_accepts
theorem K_lin_accepts_ok (m : Nat) : KnownAt C Try.prog 25 fun l => (K_lin_accepts m).run _ l some :=
  mkK_known good fit (Ψ_lin_accepts_ok m) (keep := keep) (m := m) (d := 1) fun a => lin_accepts_fun m a.1 a.2.1
/-! ### signalbench/lin.complete -/
noncomputable def Ψ_lin_complete (m : Nat) : Known C := fun f => match f with
  | 37 => some (K_lin_protected m)
  | 39 => some (K_lin_checksum m)
  | _ => none
theorem Ψ_lin_complete_ok (m : Nat) : KnownOk C Try.prog (Ψ_lin_complete m) := by
  intro f φ h
  unfold Ψ_lin_complete at h
  split at h
  · injection h with h; subst h; exact K_lin_protected_ok m
  · injection h with h; subst h; exact K_lin_checksum_ok m
  · cases h
def w_lin_complete (b : List Event) : List (RV C) := [(dRow 32).e b]
noncomputable def b_lin_complete {R : Type} (m : Nat) (ret : List Event → Option R) (c_0 : Lin) (s_1 : State) : Option R :=
 bif s_1.Phase != 1 then
 ret []
 else
 bif decide (s_1.Count < 4) then
 ret ([Event.mk 5 s_1.From s_1.Aux 0 0 s_1.Data 8])
 else
 bif decide (s_1.Count > 11) then
 ret ([Event.mk 5 s_1.From s_1.Aux 0 0 s_1.Data 8])
 else
 bif decide (1 < (s_1.Data.size : Int)) then
 (bif decide (0 ≤ IntKind.i64.wrap (s_1.Count - 1)) then
 (bif decide (IntKind.i64.wrap (s_1.Count - 1) < (s_1.Data.size : Int)) then
 (bif decide (0 ≤ IntKind.i64.wrap (s_1.Count - 1)) then
 (bif decide (IntKind.i64.wrap (s_1.Count - 1) ≤ (s_1.Data.size : Int)) then
 (bif decide (2 ≤ IntKind.i64.wrap (s_1.Count - 1)) then
 (bif decide (0 < (s_1.Data.size : Int)) then
 (bif byteAt s_1.Data 0 != 85 then
 ret ([Event.mk 5 s_1.From s_1.Aux (IntKind.i64.wrap (((BitVec.ofInt 64 (IntKind.i64.wrap (byteAt s_1.Data 1)) &&& BitVec.ofInt 64 63).toNat : Int))) 0 (s_1.Data.extract 2 (IntKind.i64.wrap (s_1.Count - 1)).toNat) 1])
 else
 bif IntKind.i64.wrap (byteAt s_1.Data 1) != IntKind.i64.wrap (((BitVec.ofInt 64 (IntKind.i64.wrap (((BitVec.ofInt 64 (IntKind.i64.wrap (((BitVec.ofInt 64 (IntKind.i64.wrap (byteAt s_1.Data 1)) &&& BitVec.ofInt 64 63).toNat : Int))) ||| BitVec.ofInt 64 (IntKind.i64.wrap (IntKind.i64.wrap (((BitVec.ofInt 64 (IntKind.i64.wrap (((BitVec.ofInt 64 (IntKind.i64.wrap (((BitVec.ofInt 64 (IntKind.i64.wrap (((BitVec.ofInt 64 (IntKind.i64.wrap (((BitVec.ofInt 64 (IntKind.i64.wrap (byteAt s_1.Data 1)) &&& BitVec.ofInt 64 63).toNat : Int))) ^^^ BitVec.ofInt 64 ((IntKind.i64.wrap (((BitVec.ofInt 64 (IntKind.i64.wrap (byteAt s_1.Data 1)) &&& BitVec.ofInt 64 63).toNat : Int))).fdiv 2)).toNat : Int))) ^^^ BitVec.ofInt 64 ((IntKind.i64.wrap (((BitVec.ofInt 64 (IntKind.i64.wrap (byteAt s_1.Data 1)) &&& BitVec.ofInt 64 63).toNat : Int))).fdiv 4)).toNat : Int))) ^^^ BitVec.ofInt 64 ((IntKind.i64.wrap (((BitVec.ofInt 64 (IntKind.i64.wrap (byteAt s_1.Data 1)) &&& BitVec.ofInt 64 63).toNat : Int))).fdiv 16)).toNat : Int))) &&& BitVec.ofInt 64 1).toNat : Int)) * 64))).toNat : Int))) ||| BitVec.ofInt 64 (IntKind.i64.wrap (IntKind.i64.wrap (1 - IntKind.i64.wrap (((BitVec.ofInt 64 (IntKind.i64.wrap (((BitVec.ofInt 64 (IntKind.i64.wrap (((BitVec.ofInt 64 (IntKind.i64.wrap (((BitVec.ofInt 64 ((IntKind.i64.wrap (((BitVec.ofInt 64 (IntKind.i64.wrap (byteAt s_1.Data 1)) &&& BitVec.ofInt 64 63).toNat : Int))).fdiv 2) ^^^ BitVec.ofInt 64 ((IntKind.i64.wrap (((BitVec.ofInt 64 (IntKind.i64.wrap (byteAt s_1.Data 1)) &&& BitVec.ofInt 64 63).toNat : Int))).fdiv 8)).toNat : Int))) ^^^ BitVec.ofInt 64 ((IntKind.i64.wrap (((BitVec.ofInt 64 (IntKind.i64.wrap (byteAt s_1.Data 1)) &&& BitVec.ofInt 64 63).toNat : Int))).fdiv 16)).toNat : Int))) ^^^ BitVec.ofInt 64 ((IntKind.i64.wrap (((BitVec.ofInt 64 (IntKind.i64.wrap (byteAt s_1.Data 1)) &&& BitVec.ofInt 64 63).toNat : Int))).fdiv 32)).toNat : Int))) &&& BitVec.ofInt 64 1).toNat : Int))) * 128))).toNat : Int)) then
 ret ([Event.mk 5 s_1.From s_1.Aux (IntKind.i64.wrap (((BitVec.ofInt 64 (IntKind.i64.wrap (byteAt s_1.Data 1)) &&& BitVec.ofInt 64 63).toNat : Int))) 0 (s_1.Data.extract 2 (IntKind.i64.wrap (s_1.Count - 1)).toNat) 2])
 else
 (lin_checksum m c_0 (IntKind.i64.wrap (byteAt s_1.Data 1)) (s_1.Data.extract 2 (IntKind.i64.wrap (s_1.Count - 1)).toNat)).bind fun r0 =>
 bif IntKind.i64.wrap (byteAt s_1.Data (IntKind.i64.wrap (s_1.Count - 1))) != r0 then
 ret ([Event.mk 5 s_1.From s_1.Aux (IntKind.i64.wrap (((BitVec.ofInt 64 (IntKind.i64.wrap (byteAt s_1.Data 1)) &&& BitVec.ofInt 64 63).toNat : Int))) 0 (s_1.Data.extract 2 (IntKind.i64.wrap (s_1.Count - 1)).toNat) 3])
 else
 ret ([Event.mk 5 s_1.From s_1.Aux (IntKind.i64.wrap (((BitVec.ofInt 64 (IntKind.i64.wrap (byteAt s_1.Data 1)) &&& BitVec.ofInt 64 63).toNat : Int))) 0 (s_1.Data.extract 2 (IntKind.i64.wrap (s_1.Count - 1)).toNat) 0]))
 else
 none)
 else
 none)
 else
 none)
 else
 none)
 else
 none)
 else
 none)
 else
 none
theorem lin_complete_pre (m : Nat) (c_0 : Lin) (s_1 : State) : funK Try.prog (Ψ_lin_complete m) keep m 2 26 [(dS of_Lin cells_Lin of_Lin_ok).e c_0, (dS of_State cells_State of_State_ok).e s_1] = b_lin_complete m (fun x0 => some (w_lin_complete x0)) c_0 s_1 := by kernel_rfl
theorem b_lin_complete_map (m : Nat) (c_0 : Lin) (s_1 : State) : b_lin_complete m (fun x0 => some (w_lin_complete x0)) c_0 s_1 = (b_lin_complete m (fun x0 => some x0) c_0 s_1).map w_lin_complete := by
  simp only [b_lin_complete, cond_map, bind_map, map_none, map_some]
noncomputable def lin_complete (m : Nat) (c_0 : Lin) (s_1 : State) : Option (List Event) := b_lin_complete m (fun x0 => some x0) c_0 s_1
theorem lin_complete_fun (m : Nat) (c_0 : Lin) (s_1 : State) : funK Try.prog (Ψ_lin_complete m) keep m 2 26 [(dS of_Lin cells_Lin of_Lin_ok).e c_0, (dS of_State cells_State of_State_ok).e s_1] = (lin_complete m c_0 s_1).map w_lin_complete := by
  rw [lin_complete_pre]
  exact b_lin_complete_map m c_0 s_1
noncomputable def K_lin_complete (m : Nat) : KnownF C := mkK (dCons (dS of_Lin cells_Lin of_Lin_ok) (dCons (dS of_State cells_State of_State_ok) dNil)) (fun a => lin_complete m a.1 a.2.1) w_lin_complete
theorem K_lin_complete_ok (m : Nat) : KnownAt C Try.prog 26 fun l => (K_lin_complete m).run _ l some :=
  mkK_known good fit (Ψ_lin_complete_ok m) (keep := keep) (m := m) (d := 2) fun a => lin_complete_fun m a.1 a.2.1
/-! ### signalbench/lin.Step -/
noncomputable def Ψ_lin_Step (m : Nat) : Known C := fun f => match f with
  | 25 => some (K_lin_accepts m)
  | 26 => some (K_lin_complete m)
  | _ => none
theorem Ψ_lin_Step_ok (m : Nat) : KnownOk C Try.prog (Ψ_lin_Step m) := by
  intro f φ h
  unfold Ψ_lin_Step at h
  split at h
  · injection h with h; subst h; exact K_lin_accepts_ok m
  · injection h with h; subst h; exact K_lin_complete_ok m
  · cases h
def w_lin_Step (b : State × List Event) : List (RV C) := [(dS of_State cells_State of_State_ok).e b.1, (dRow 32).e b.2]
noncomputable def b_lin_Step {R : Type} (m : Nat) (ret : State → List Event → Option R) (c_0 : Lin) (s_1 : State) (e_2 : Event) : Option R :=
 (lin_accepts m s_1 e_2).bind fun r0 =>
 bif !r0 then
 ret s_1 []
 else
 bif e_2.Fault != 0 then
 bif s_1.Phase == 1 then
 ret (State.mk 0 e_2.From 0 0 0 0 0 (bs [])) ([Event.mk 5 s_1.From (if s_1.From < e_2.From then e_2.From else s_1.From) 0 0 (bs []) 7])
 else
 ret (State.mk 0 e_2.From 0 0 0 0 0 (bs [])) []
 else
 bif e_2.Kind == 4 then
 (bif e_2.Value == 1 then
 ((lin_complete m c_0 s_1).bind fun r1 =>
 ret (State.mk 1 e_2.From e_2.From 0 0 e_2.To 0 (bs [])) r1)
 else
 bif e_2.Kind == 3 then
 bif s_1.Phase == 1 then
 bif decide ((s_1.Data.size : Int) < 4096) then
 bif decide (((s_1.Data.size + (toBytes [IntKind.u8.wrap e_2.Value]).size) : Int) > 9223372036854775807) then
 none
 else
 ret { s_1 with At := e_2.From, Count := IntKind.i64.wrap (s_1.Count + 1), Aux := e_2.To, Data := s_1.Data ++ toBytes [IntKind.u8.wrap e_2.Value] } []
 else
 ret { s_1 with At := e_2.From, Count := IntKind.i64.wrap (s_1.Count + 1), Aux := e_2.To } []
 else
 ret { s_1 with At := e_2.From } []
 else
 ret { s_1 with At := e_2.From } [])
 else
 bif e_2.Kind == 3 then
 bif s_1.Phase == 1 then
 bif decide ((s_1.Data.size : Int) < 4096) then
 bif decide (((s_1.Data.size + (toBytes [IntKind.u8.wrap e_2.Value]).size) : Int) > 9223372036854775807) then
 none
 else
 ret { s_1 with At := e_2.From, Count := IntKind.i64.wrap (s_1.Count + 1), Aux := e_2.To, Data := s_1.Data ++ toBytes [IntKind.u8.wrap e_2.Value] } []
 else
 ret { s_1 with At := e_2.From, Count := IntKind.i64.wrap (s_1.Count + 1), Aux := e_2.To } []
 else
 ret { s_1 with At := e_2.From } []
 else
 ret { s_1 with At := e_2.From } []
theorem lin_Step_pre (m : Nat) (c_0 : Lin) (s_1 : State) (e_2 : Event) : funK Try.prog (Ψ_lin_Step m) keep m 1 11 [(dS of_Lin cells_Lin of_Lin_ok).e c_0, (dS of_State cells_State of_State_ok).e s_1, (dS of_Event cells_Event of_Event_ok).e e_2] = b_lin_Step m (fun x0 x1 => some (w_lin_Step (x0, x1))) c_0 s_1 e_2 := by kernel_rfl
theorem b_lin_Step_map (m : Nat) (c_0 : Lin) (s_1 : State) (e_2 : Event) : b_lin_Step m (fun x0 x1 => some (w_lin_Step (x0, x1))) c_0 s_1 e_2 = (b_lin_Step m (fun x0 x1 => some (x0, x1)) c_0 s_1 e_2).map w_lin_Step := by
  simp only [b_lin_Step, cond_map, bind_map, map_none, map_some]
noncomputable def lin_Step (m : Nat) (c_0 : Lin) (s_1 : State) (e_2 : Event) : Option (State × List Event) := b_lin_Step m (fun x0 x1 => some (x0, x1)) c_0 s_1 e_2
theorem lin_Step_fun (m : Nat) (c_0 : Lin) (s_1 : State) (e_2 : Event) : funK Try.prog (Ψ_lin_Step m) keep m 1 11 [(dS of_Lin cells_Lin of_Lin_ok).e c_0, (dS of_State cells_State of_State_ok).e s_1, (dS of_Event cells_Event of_Event_ok).e e_2] = (lin_Step m c_0 s_1 e_2).map w_lin_Step := by
  rw [lin_Step_pre]
  exact b_lin_Step_map m c_0 s_1 e_2
noncomputable def K_lin_Step (m : Nat) : KnownF C := mkK (dCons (dS of_Lin cells_Lin of_Lin_ok) (dCons (dS of_State cells_State of_State_ok) (dCons (dS of_Event cells_Event of_Event_ok) dNil))) (fun a => lin_Step m a.1 a.2.1 a.2.2.1) w_lin_Step
theorem K_lin_Step_ok (m : Nat) : KnownAt C Try.prog 11 fun l => (K_lin_Step m).run _ l some :=
  mkK_known good fit (Ψ_lin_Step_ok m) (keep := keep) (m := m) (d := 1) fun a => lin_Step_fun m a.1 a.2.1 a.2.2.1
/-! ### signalbench/lin.End -/
noncomputable def Ψ_lin_End (m : Nat) : Known C := fun f => match f with
  | 26 => some (K_lin_complete m)
  | _ => none
theorem Ψ_lin_End_ok (m : Nat) : KnownOk C Try.prog (Ψ_lin_End m) := by
  intro f φ h
  unfold Ψ_lin_End at h
  split at h
  · injection h with h; subst h; exact K_lin_complete_ok m
  · cases h
def w_lin_End (b : List Event) : List (RV C) := [(dRow 32).e b]
noncomputable def b_lin_End {R : Type} (m : Nat) (ret : List Event → Option R) (c_0 : Lin) (s_1 : State) : Option R :=
 (lin_complete m c_0 s_1).bind fun r0 =>
 ret r0
theorem lin_End_pre (m : Nat) (c_0 : Lin) (s_1 : State) : funK Try.prog (Ψ_lin_End m) keep m 1 14 [(dS of_Lin cells_Lin of_Lin_ok).e c_0, (dS of_State cells_State of_State_ok).e s_1] = b_lin_End m (fun x0 => some (w_lin_End x0)) c_0 s_1 := by kernel_rfl
theorem b_lin_End_map (m : Nat) (c_0 : Lin) (s_1 : State) : b_lin_End m (fun x0 => some (w_lin_End x0)) c_0 s_1 = (b_lin_End m (fun x0 => some x0) c_0 s_1).map w_lin_End := by
  simp only [b_lin_End, cond_map, bind_map, map_none, map_some]
noncomputable def lin_End (m : Nat) (c_0 : Lin) (s_1 : State) : Option (List Event) := b_lin_End m (fun x0 => some x0) c_0 s_1
theorem lin_End_fun (m : Nat) (c_0 : Lin) (s_1 : State) : funK Try.prog (Ψ_lin_End m) keep m 1 14 [(dS of_Lin cells_Lin of_Lin_ok).e c_0, (dS of_State cells_State of_State_ok).e s_1] = (lin_End m c_0 s_1).map w_lin_End := by
  rw [lin_End_pre]
  exact b_lin_End_map m c_0 s_1
noncomputable def K_lin_End (m : Nat) : KnownF C := mkK (dCons (dS of_Lin cells_Lin of_Lin_ok) (dCons (dS of_State cells_State of_State_ok) dNil)) (fun a => lin_End m a.1 a.2.1) w_lin_End
theorem K_lin_End_ok (m : Nat) : KnownAt C Try.prog 14 fun l => (K_lin_End m).run _ l some :=
  mkK_known good fit (Ψ_lin_End_ok m) (keep := keep) (m := m) (d := 1) fun a => lin_End_fun m a.1 a.2.1
/-! ### signalbench/lin.Decode -/
noncomputable def Ψ_lin_Decode (m : Nat) : Known C := fun f => match f with
  | 9 => some (K_lin_Start m)
  | 11 => some (K_lin_Step m)
  | 14 => some (K_lin_End m)
  | _ => none
theorem Ψ_lin_Decode_ok (m : Nat) : KnownOk C Try.prog (Ψ_lin_Decode m) := by
  intro f φ h
  unfold Ψ_lin_Decode at h
  split at h
  · injection h with h; subst h; exact K_lin_Start_ok m
  · injection h with h; subst h; exact K_lin_Step_ok m
  · injection h with h; subst h; exact K_lin_End_ok m
  · cases h
def w_lin_Decode (b : List Event) : List (RV C) := [(dRow 32).e b]
noncomputable def Q_lin_Decode_4 (m : Nat) : St C → (Exit → St C → Option (List (RV C))) → Option (List (RV C)) := fun σ k => codeK Try.prog (Ψ_lin_Decode m) (callK Try.prog (Ψ_lin_Decode m) keep m 0) (keep 16) m (subC body16 [.r, .r, .r, .l, .r, .b, .o]) σ k
noncomputable def KL_lin_Decode_4 (m : Nat) : Exit → St C → Option (List (RV C)) := contK Try.prog (Ψ_lin_Decode m) (callK Try.prog (Ψ_lin_Decode m) keep m 0) (keep 16) m body16 [.r, .r, .r, .l, .r, .b, .o] (leaveK Try.prog Try.f16.results.toList (finK Try.prog Try.f16.resultTypes.toList))
noncomputable def L_lin_Decode_l4 (m n : Nat) (t14 : Int) (t15 : Int) (c0 : Lin) (c1 : State) (out_6 : List Event) (t13 : List Event) : Option (List (RV C)) := iterK (Q_lin_Decode_4 m) (St.norm (keep 16 4)) n ({ T := [.dead, .dead, .fl (.one (.ptr 0 0)), .dead, .dead, .fl (.one (.ptr 1 0)), .fl (.one (.sl 2)), .dead, .dead, .dead, .dead, .dead, .dead, .fl (.one (.sl 3)), .fl (.one (.int .i64 t14)), .fl (.one (.int .i64 t15))] ++ List.replicate 20 .dead, F := [[]], H := [.box 23 (cells_Lin c0), .box 27 (cells_State c1), .row 32 true out_6, .row 32 false t13] } : St C) (KL_lin_Decode_4 m)
noncomputable def b_lin_Decode_l4 {R : Type} (m : Nat) (ret : List Event → Option R) (k_l4 : Int → Int → Lin → State → List Event → List Event → Option R) (t14 : Int) (t15 : Int) (c0 : Lin) (c1 : State) (out_6 : List Event) (t13 : List Event) : Option R :=
 bif decide (t15 < t14) then
 (bif decide (0 ≤ t15) then
 (bif decide (t15 < (t13.length : Int)) then
 ((lin_Step m c0 c1 (t13.getD t15.toNat dflt_Event)).bind fun r0 =>
 bif decide ((out_6.length + r0.snd.length) * 64 ≤ 140737488355328) then
 k_l4 t14 (IntKind.i64.wrap (t15 + 1)) c0 r0.fst (out_6 ++ r0.snd) t13
 else
 none)
 else
 none)
 else
 none)
 else
 (lin_End m c0 c1).bind fun r1 =>
 bif decide ((out_6.length + r1.length) * 64 ≤ 140737488355328) then
 ret (out_6 ++ r1)
 else
 none
theorem L_lin_Decode_l4_step (m n : Nat) (t14 : Int) (t15 : Int) (c0 : Lin) (c1 : State) (out_6 : List Event) (t13 : List Event) : L_lin_Decode_l4 m (n + 1) t14 t15 c0 c1 out_6 t13 = b_lin_Decode_l4 m (fun x0 => some (w_lin_Decode x0)) (fun t14 t15 c0 c1 out_6 t13 => L_lin_Decode_l4 m n t14 t15 c0 c1 out_6 t13) t14 t15 c0 c1 out_6 t13 := by kernel_rfl
theorem b_lin_Decode_l4_map (m : Nat) {k_l4 : Int → Int → Lin → State → List Event → List Event → Option (List (RV C))} {q_l4 : Int → Int → Lin → State → List Event → List Event → Option (List Event)} (h_l4 : ∀ t14 t15 c0 c1 out_6 t13, k_l4 t14 t15 c0 c1 out_6 t13 = (q_l4 t14 t15 c0 c1 out_6 t13).map w_lin_Decode) (t14 : Int) (t15 : Int) (c0 : Lin) (c1 : State) (out_6 : List Event) (t13 : List Event) : b_lin_Decode_l4 m (fun x0 => some (w_lin_Decode x0)) k_l4 t14 t15 c0 c1 out_6 t13 = (b_lin_Decode_l4 m (fun x0 => some x0) q_l4 t14 t15 c0 c1 out_6 t13).map w_lin_Decode := by
  simp only [b_lin_Decode_l4, cond_map, bind_map, map_none, map_some, h_l4]
noncomputable def lin_Decode_l4 (m : Nat) : Nat → Int → Int → Lin → State → List Event → List Event → Option (List Event)
  | 0, _, _, _, _, _, _ => none
  | n + 1, t14, t15, c0, c1, out_6, t13 => b_lin_Decode_l4 m (fun x0 => some x0) (fun t14 t15 c0 c1 out_6 t13 => lin_Decode_l4 m n t14 t15 c0 c1 out_6 t13) t14 t15 c0 c1 out_6 t13
theorem L_lin_Decode_l4_eq (m : Nat) : ∀ (n : Nat) (t14 : Int) (t15 : Int) (c0 : Lin) (c1 : State) (out_6 : List Event) (t13 : List Event), L_lin_Decode_l4 m n t14 t15 c0 c1 out_6 t13 = (lin_Decode_l4 m n t14 t15 c0 c1 out_6 t13).map w_lin_Decode
  | 0, t14, t15, c0, c1, out_6, t13 => by kernel_rfl
  | n + 1, t14, t15, c0, c1, out_6, t13 => by
    rw [L_lin_Decode_l4_step]
    exact b_lin_Decode_l4_map m (fun t14 t15 c0 c1 out_6 t13 => L_lin_Decode_l4_eq m n t14 t15 c0 c1 out_6 t13) t14 t15 c0 c1 out_6 t13
noncomputable def b_lin_Decode {R : Type} (m : Nat) (ret : List Event → Option R) (k_l4 : Int → Int → Lin → State → List Event → List Event → Option R) (c_0 : Lin) (l_1 : List Event) : Option R :=
 k_l4 (l_1.length : Int) 0 c_0 (State.mk 0 0 0 0 0 0 0 (bs [])) [] l_1
theorem lin_Decode_pre (m : Nat) (c_0 : Lin) (l_1 : List Event) : funK Try.prog (Ψ_lin_Decode m) keep m 1 16 [(dS of_Lin cells_Lin of_Lin_ok).e c_0, (dRow 32).e l_1] = b_lin_Decode m (fun x0 => some (w_lin_Decode x0)) (fun t14 t15 c0 c1 out_6 t13 => L_lin_Decode_l4 m m t14 t15 c0 c1 out_6 t13) c_0 l_1 := by kernel_rfl
theorem b_lin_Decode_map (m : Nat) {k_l4 : Int → Int → Lin → State → List Event → List Event → Option (List (RV C))} {q_l4 : Int → Int → Lin → State → List Event → List Event → Option (List Event)} (h_l4 : ∀ t14 t15 c0 c1 out_6 t13, k_l4 t14 t15 c0 c1 out_6 t13 = (q_l4 t14 t15 c0 c1 out_6 t13).map w_lin_Decode) (c_0 : Lin) (l_1 : List Event) : b_lin_Decode m (fun x0 => some (w_lin_Decode x0)) k_l4 c_0 l_1 = (b_lin_Decode m (fun x0 => some x0) q_l4 c_0 l_1).map w_lin_Decode := by
  simp only [b_lin_Decode, cond_map, bind_map, map_none, map_some, h_l4]
noncomputable def lin_Decode (m : Nat) (c_0 : Lin) (l_1 : List Event) : Option (List Event) := b_lin_Decode m (fun x0 => some x0) (fun t14 t15 c0 c1 out_6 t13 => lin_Decode_l4 m m t14 t15 c0 c1 out_6 t13) c_0 l_1
theorem lin_Decode_fun (m : Nat) (c_0 : Lin) (l_1 : List Event) : funK Try.prog (Ψ_lin_Decode m) keep m 1 16 [(dS of_Lin cells_Lin of_Lin_ok).e c_0, (dRow 32).e l_1] = (lin_Decode m c_0 l_1).map w_lin_Decode := by
  rw [lin_Decode_pre]
  exact b_lin_Decode_map m (fun t14 t15 c0 c1 out_6 t13 => L_lin_Decode_l4_eq m m t14 t15 c0 c1 out_6 t13) c_0 l_1
noncomputable def K_lin_Decode (m : Nat) : KnownF C := mkK (dCons (dS of_Lin cells_Lin of_Lin_ok) (dCons (dRow 32) dNil)) (fun a => lin_Decode m a.1 a.2.1) w_lin_Decode
theorem K_lin_Decode_ok (m : Nat) : KnownAt C Try.prog 16 fun l => (K_lin_Decode m).run _ l some :=
  mkK_known good fit (Ψ_lin_Decode_ok m) (keep := keep) (m := m) (d := 1) fun a => lin_Decode_fun m a.1 a.2.1
/-! ### signalbench/signalbenchlaw27.lives -/
noncomputable def Ψ_law27_lives (m : Nat) : Known C := fun f => match f with
  | 19 => some (K_lin_Encode m)
  | 21 => some (K_law27_events m)
  | 16 => some (K_lin_Decode m)
  | _ => none
theorem Ψ_law27_lives_ok (m : Nat) : KnownOk C Try.prog (Ψ_law27_lives m) := by
  intro f φ h
  unfold Ψ_law27_lives at h
  split at h
  · injection h with h; subst h; exact K_lin_Encode_ok m
  · injection h with h; subst h; exact K_law27_events_ok m
  · injection h with h; subst h; exact K_lin_Decode_ok m
  · cases h
def w_law27_lives (b : Bool) : List (RV C) := [dBool.e b]
noncomputable def b_law27_lives {R : Type} (m : Nat) (ret : Bool → Option R) : Option R :=
 (lin_Encode m (Lin.mk false) [Item.mk 0 1 0 (bs [16]) 0]).bind fun r0 =>
 bif r0.snd != 0 then
 ret false
 else
 bif (r0.fst.length : Int) != 5 then
 ret false
 else
 bif decide (0 < (r0.fst.length : Int)) then
 (bif (r0.fst.getD 0 dflt_Item).Aux != 1 then
 ret false
 else
 bif decide (1 < (r0.fst.length : Int)) then
 (bif (r0.fst.getD 1 dflt_Item).Value != 85 then
 ret false
 else
 bif decide (2 < (r0.fst.length : Int)) then
 (bif (r0.fst.getD 2 dflt_Item).Value != 193 then
 ret false
 else
 bif decide (3 < (r0.fst.length : Int)) then
 (bif (r0.fst.getD 3 dflt_Item).Value != 16 then
 ret false
 else
 bif decide (4 < (r0.fst.length : Int)) then
 (bif (r0.fst.getD 4 dflt_Item).Value != 46 then
 ret false
 else
 (law27_events m [Item.mk 0 0 1 (bs []) 0, Item.mk 0 85 0 (bs []) 0, Item.mk 0 193 0 (bs []) 0, Item.mk 0 16 0 (bs []) 0, Item.mk 0 46 0 (bs []) 0] 1).bind fun r1 =>
 (lin_Decode m (Lin.mk false) r1).bind fun r2 =>
 bif (r2.length : Int) == 1 then
 bif decide (0 < (r2.length : Int)) then
 ret ((r2.getD 0 dflt_Event).Kind == 5 && ((r2.getD 0 dflt_Event).From == 0 && ((r2.getD 0 dflt_Event).To == 5 && ((r2.getD 0 dflt_Event).Value == 1 && ((r2.getD 0 dflt_Event).Aux == 0 && ((r2.getD 0 dflt_Event).Data == bs [16] && ((r2.getD 0 dflt_Event).Fault == 0 && true)))))))
 else
 none
 else
 ret false)
 else
 none)
 else
 none)
 else
 none)
 else
 none)
 else
 none
theorem law27_lives_pre (m : Nat) : funK Try.prog (Ψ_law27_lives m) keep m 1 8 [] = b_law27_lives m (fun x0 => some (w_law27_lives x0)) := by kernel_rfl
theorem b_law27_lives_map (m : Nat) : b_law27_lives m (fun x0 => some (w_law27_lives x0)) = (b_law27_lives m (fun x0 => some x0)).map w_law27_lives := by
  simp only [b_law27_lives, cond_map, bind_map, map_none, map_some]
noncomputable def law27_lives (m : Nat) : Option (Bool) := b_law27_lives m (fun x0 => some x0)
theorem law27_lives_fun (m : Nat) : funK Try.prog (Ψ_law27_lives m) keep m 1 8 [] = (law27_lives m).map w_law27_lives := by
  rw [law27_lives_pre]
  exact b_law27_lives_map m
noncomputable def K_law27_lives (m : Nat) : KnownF C := mkK dNil (fun a => law27_lives m) w_law27_lives
theorem K_law27_lives_ok (m : Nat) : KnownAt C Try.prog 8 fun l => (K_law27_lives m).run _ l some :=
  mkK_known good fit (Ψ_law27_lives_ok m) (keep := keep) (m := m) (d := 1) fun a => law27_lives_fun m
/-! ### signalbench/signalbenchref27.Start -/
def w_ref27_Start (b : State) : List (RV C) := [(dS of_State cells_State of_State_ok).e b]
noncomputable def b_ref27_Start {R : Type} (m : Nat) (ret : State → Option R) (c_0 : Lin) : Option R :=
 ret (State.mk 0 0 0 0 0 0 0 (bs []))
theorem ref27_Start_pre (m : Nat) (c_0 : Lin) : funK Try.prog Ψ0 keep m 1 10 [(dS of_Lin cells_Lin of_Lin_ok).e c_0] = b_ref27_Start m (fun x0 => some (w_ref27_Start x0)) c_0 := by kernel_rfl
theorem b_ref27_Start_map (m : Nat) (c_0 : Lin) : b_ref27_Start m (fun x0 => some (w_ref27_Start x0)) c_0 = (b_ref27_Start m (fun x0 => some x0) c_0).map w_ref27_Start := by
  simp only [b_ref27_Start, cond_map, bind_map, map_none, map_some]
noncomputable def ref27_Start (m : Nat) (c_0 : Lin) : Option (State) := b_ref27_Start m (fun x0 => some x0) c_0
theorem ref27_Start_fun (m : Nat) (c_0 : Lin) : funK Try.prog Ψ0 keep m 1 10 [(dS of_Lin cells_Lin of_Lin_ok).e c_0] = (ref27_Start m c_0).map w_ref27_Start := by
  rw [ref27_Start_pre]
  exact b_ref27_Start_map m c_0
noncomputable def K_ref27_Start (m : Nat) : KnownF C := mkK (dCons (dS of_Lin cells_Lin of_Lin_ok) dNil) (fun a => ref27_Start m a.1) w_ref27_Start
theorem K_ref27_Start_ok (m : Nat) : KnownAt C Try.prog 10 fun l => (K_ref27_Start m).run _ l some :=
  mkK_known good fit Ψ0_ok (keep := keep) (m := m) (d := 1) fun a => ref27_Start_fun m a.1
/-! ### signalbench/signalbenchref07.Valid -/
def w_ref07_Valid (b : Bool) : List (RV C) := [dBool.e b]
noncomputable def b_ref07_Valid {R : Type} (m : Nat) (ret : Bool → Option R) (e_0 : Event) : Option R :=
 bif decide (e_0.Kind < 1) then
 ret false
 else
 bif decide (e_0.Kind > 8) then
 ret false
 else
 bif decide (e_0.From < 0) then
 ret false
 else
 bif decide (e_0.From > e_0.To) then
 ret false
 else
 bif decide (e_0.To > 1099511627776) then
 ret false
 else
 bif decide ((e_0.Data.size : Int) > 4096) then
 ret false
 else
 bif decide (e_0.Fault < 0) then
 ret false
 else
 bif decide (e_0.Fault > 12) then
 ret false
 else
 bif decide (e_0.Value ≥ -9007199254740992) then
 bif decide (e_0.Value ≤ 9007199254740992) then
 bif decide (e_0.Aux ≥ -9007199254740992) then
 ret (decide (e_0.Aux ≤ 9007199254740992))
 else
 ret false
 else
 ret false
 else
 ret false
theorem ref07_Valid_pre (m : Nat) (e_0 : Event) : funK Try.prog Ψ0 keep m 1 40 [(dS of_Event cells_Event of_Event_ok).e e_0] = b_ref07_Valid m (fun x0 => some (w_ref07_Valid x0)) e_0 := by kernel_rfl
theorem b_ref07_Valid_map (m : Nat) (e_0 : Event) : b_ref07_Valid m (fun x0 => some (w_ref07_Valid x0)) e_0 = (b_ref07_Valid m (fun x0 => some x0) e_0).map w_ref07_Valid := by
  simp only [b_ref07_Valid, cond_map, bind_map, map_none, map_some]
noncomputable def ref07_Valid (m : Nat) (e_0 : Event) : Option (Bool) := b_ref07_Valid m (fun x0 => some x0) e_0
theorem ref07_Valid_fun (m : Nat) (e_0 : Event) : funK Try.prog Ψ0 keep m 1 40 [(dS of_Event cells_Event of_Event_ok).e e_0] = (ref07_Valid m e_0).map w_ref07_Valid := by
  rw [ref07_Valid_pre]
  exact b_ref07_Valid_map m e_0
noncomputable def K_ref07_Valid (m : Nat) : KnownF C := mkK (dCons (dS of_Event cells_Event of_Event_ok) dNil) (fun a => ref07_Valid m a.1) w_ref07_Valid
theorem K_ref07_Valid_ok (m : Nat) : KnownAt C Try.prog 40 fun l => (K_ref07_Valid m).run _ l some :=
  mkK_known good fit Ψ0_ok (keep := keep) (m := m) (d := 1) fun a => ref07_Valid_fun m a.1
/-! ### signalbench/signalbenchref27.accepted -/
noncomputable def Ψ_ref27_accepted (m : Nat) : Known C := fun f => match f with
  | 40 => some (K_ref07_Valid m)
  | _ => none
theorem Ψ_ref27_accepted_ok (m : Nat) : KnownOk C Try.prog (Ψ_ref27_accepted m) := by
  intro f φ h
  unfold Ψ_ref27_accepted at h
  split at h
  · injection h with h; subst h; exact K_ref07_Valid_ok m
  · cases h
def w_ref27_accepted (b : Bool) : List (RV C) := [dBool.e b]
noncomputable def b_ref27_accepted {R : Type} (m : Nat) (ret : Bool → Option R) (s_0 : State) (e_1 : Event) : Option R :=
 (ref07_Valid m e_1).bind fun r0 =>
 bif !r0 then
 ret false
 else
 bif decide (e_1.From < s_0.Prev) then
 ret false
 else
 bif e_1.Kind == 4 then
 ret true
 else
 bif e_1.Kind == 3 then
 bif decide (e_1.Value ≥ 0) then
 ret (decide (e_1.Value ≤ 255))
 else
 ret false
 else
 ret false
theorem ref27_accepted_pre (m : Nat) (s_0 : State) (e_1 : Event) : funK Try.prog (Ψ_ref27_accepted m) keep m 1 27 [(dS of_State cells_State of_State_ok).e s_0, (dS of_Event cells_Event of_Event_ok).e e_1] = b_ref27_accepted m (fun x0 => some (w_ref27_accepted x0)) s_0 e_1 := by kernel_rfl
theorem b_ref27_accepted_map (m : Nat) (s_0 : State) (e_1 : Event) : b_ref27_accepted m (fun x0 => some (w_ref27_accepted x0)) s_0 e_1 = (b_ref27_accepted m (fun x0 => some x0) s_0 e_1).map w_ref27_accepted := by
  simp only [b_ref27_accepted, cond_map, bind_map, map_none, map_some]
noncomputable def ref27_accepted (m : Nat) (s_0 : State) (e_1 : Event) : Option (Bool) := b_ref27_accepted m (fun x0 => some x0) s_0 e_1
theorem ref27_accepted_fun (m : Nat) (s_0 : State) (e_1 : Event) : funK Try.prog (Ψ_ref27_accepted m) keep m 1 27 [(dS of_State cells_State of_State_ok).e s_0, (dS of_Event cells_Event of_Event_ok).e e_1] = (ref27_accepted m s_0 e_1).map w_ref27_accepted := by
  rw [ref27_accepted_pre]
  exact b_ref27_accepted_map m s_0 e_1
noncomputable def K_ref27_accepted (m : Nat) : KnownF C := mkK (dCons (dS of_State cells_State of_State_ok) (dCons (dS of_Event cells_Event of_Event_ok) dNil)) (fun a => ref27_accepted m a.1 a.2.1) w_ref27_accepted
theorem K_ref27_accepted_ok (m : Nat) : KnownAt C Try.prog 27 fun l => (K_ref27_accepted m).run _ l some :=
  mkK_known good fit (Ψ_ref27_accepted_ok m) (keep := keep) (m := m) (d := 1) fun a => ref27_accepted_fun m a.1 a.2.1
/-! ### signalbench/signalbenchref27.bit -/
def w_ref27_bit (b : Int) : List (RV C) := [(dInt .i64).e b]
noncomputable def b_ref27_bit {R : Type} (m : Nat) (ret : Int → Option R) (n_0 : Int) (k_1 : Int) : Option R :=
 bif decide (k_1 < 0) then
 none
 else
 ret (IntKind.i64.wrap (((BitVec.ofInt 64 (n_0.fdiv (2 ^ min k_1.toNat 64)) &&& BitVec.ofInt 64 1).toNat : Int)))
theorem ref27_bit_pre (m : Nat) (n_0 : Int) (k_1 : Int) : funK Try.prog Ψ0 keep m 1 41 [(dInt .i64).e n_0, (dInt .i64).e k_1] = b_ref27_bit m (fun x0 => some (w_ref27_bit x0)) n_0 k_1 := by kernel_rfl
theorem b_ref27_bit_map (m : Nat) (n_0 : Int) (k_1 : Int) : b_ref27_bit m (fun x0 => some (w_ref27_bit x0)) n_0 k_1 = (b_ref27_bit m (fun x0 => some x0) n_0 k_1).map w_ref27_bit := by
  simp only [b_ref27_bit, cond_map, bind_map, map_none, map_some]
noncomputable def ref27_bit (m : Nat) (n_0 : Int) (k_1 : Int) : Option (Int) := b_ref27_bit m (fun x0 => some x0) n_0 k_1
theorem ref27_bit_fun (m : Nat) (n_0 : Int) (k_1 : Int) : funK Try.prog Ψ0 keep m 1 41 [(dInt .i64).e n_0, (dInt .i64).e k_1] = (ref27_bit m n_0 k_1).map w_ref27_bit := by
  rw [ref27_bit_pre]
  exact b_ref27_bit_map m n_0 k_1
noncomputable def K_ref27_bit (m : Nat) : KnownF C := mkK (dCons (dInt .i64) (dCons (dInt .i64) dNil)) (fun a => ref27_bit m a.1 a.2.1) w_ref27_bit
theorem K_ref27_bit_ok (m : Nat) : KnownAt C Try.prog 41 fun l => (K_ref27_bit m).run _ l some :=
  mkK_known good fit Ψ0_ok (keep := keep) (m := m) (d := 1) fun a => ref27_bit_fun m a.1 a.2.1
/-! ### signalbench/signalbenchref27.Protect -/
noncomputable def Ψ_ref27_Protect (m : Nat) : Known C := fun f => match f with
  | 41 => some (K_ref27_bit m)
  | _ => none
theorem Ψ_ref27_Protect_ok (m : Nat) : KnownOk C Try.prog (Ψ_ref27_Protect m) := by
  intro f φ h
  unfold Ψ_ref27_Protect at h
  split at h
  · injection h with h; subst h; exact K_ref27_bit_ok m
  · cases h
def w_ref27_Protect (b : Int) : List (RV C) := [(dInt .i64).e b]
noncomputable def b_ref27_Protect {R : Type} (m : Nat) (ret : Int → Option R) (i_0 : Int) : Option R :=
 ret (IntKind.i64.wrap (IntKind.i64.wrap (i_0 + IntKind.i64.wrap (64 * IntKind.i64.wrap (((BitVec.ofInt 64 (IntKind.i64.wrap (((BitVec.ofInt 64 (IntKind.i64.wrap (((BitVec.ofInt 64 (IntKind.i64.wrap (((BitVec.ofInt 64 (i_0.fdiv 1) &&& BitVec.ofInt 64 1).toNat : Int))) ^^^ BitVec.ofInt 64 (IntKind.i64.wrap (((BitVec.ofInt 64 (i_0.fdiv 2) &&& BitVec.ofInt 64 1).toNat : Int)))).toNat : Int))) ^^^ BitVec.ofInt 64 (IntKind.i64.wrap (((BitVec.ofInt 64 (i_0.fdiv 4) &&& BitVec.ofInt 64 1).toNat : Int)))).toNat : Int))) ^^^ BitVec.ofInt 64 (IntKind.i64.wrap (((BitVec.ofInt 64 (i_0.fdiv 16) &&& BitVec.ofInt 64 1).toNat : Int)))).toNat : Int)))) + IntKind.i64.wrap (128 * IntKind.i64.wrap (((BitVec.ofInt 64 (IntKind.i64.wrap (((BitVec.ofInt 64 (IntKind.i64.wrap (((BitVec.ofInt 64 (IntKind.i64.wrap (1 - IntKind.i64.wrap (((BitVec.ofInt 64 (i_0.fdiv 2) &&& BitVec.ofInt 64 1).toNat : Int)))) ^^^ BitVec.ofInt 64 (IntKind.i64.wrap (((BitVec.ofInt 64 (i_0.fdiv 8) &&& BitVec.ofInt 64 1).toNat : Int)))).toNat : Int))) ^^^ BitVec.ofInt 64 (IntKind.i64.wrap (((BitVec.ofInt 64 (i_0.fdiv 16) &&& BitVec.ofInt 64 1).toNat : Int)))).toNat : Int))) ^^^ BitVec.ofInt 64 (IntKind.i64.wrap (((BitVec.ofInt 64 (i_0.fdiv 32) &&& BitVec.ofInt 64 1).toNat : Int)))).toNat : Int)))))
theorem ref27_Protect_pre (m : Nat) (i_0 : Int) : funK Try.prog (Ψ_ref27_Protect m) keep m 1 32 [(dInt .i64).e i_0] = b_ref27_Protect m (fun x0 => some (w_ref27_Protect x0)) i_0 := by kernel_rfl
theorem b_ref27_Protect_map (m : Nat) (i_0 : Int) : b_ref27_Protect m (fun x0 => some (w_ref27_Protect x0)) i_0 = (b_ref27_Protect m (fun x0 => some x0) i_0).map w_ref27_Protect := by
  simp only [b_ref27_Protect, cond_map, bind_map, map_none, map_some]
noncomputable def ref27_Protect (m : Nat) (i_0 : Int) : Option (Int) := b_ref27_Protect m (fun x0 => some x0) i_0
theorem ref27_Protect_fun (m : Nat) (i_0 : Int) : funK Try.prog (Ψ_ref27_Protect m) keep m 1 32 [(dInt .i64).e i_0] = (ref27_Protect m i_0).map w_ref27_Protect := by
  rw [ref27_Protect_pre]
  exact b_ref27_Protect_map m i_0
noncomputable def K_ref27_Protect (m : Nat) : KnownF C := mkK (dCons (dInt .i64) dNil) (fun a => ref27_Protect m a.1) w_ref27_Protect
theorem K_ref27_Protect_ok (m : Nat) : KnownAt C Try.prog 32 fun l => (K_ref27_Protect m).run _ l some :=
  mkK_known good fit (Ψ_ref27_Protect_ok m) (keep := keep) (m := m) (d := 1) fun a => ref27_Protect_fun m a.1
/-! ### signalbench/signalbenchref27.carry -/
def w_ref27_carry (b : Int) : List (RV C) := [(dInt .i64).e b]
noncomputable def Q_ref27_carry_3 (m : Nat) : St C → (Exit → St C → Option (List (RV C))) → Option (List (RV C)) := fun σ k => codeK Try.prog Ψ0 (callK Try.prog Ψ0 keep m 0) (keep 42) m (subC body42 [.r, .r, .l, .r, .b, .o]) σ k
noncomputable def KL_ref27_carry_3 (m : Nat) : Exit → St C → Option (List (RV C)) := contK Try.prog Ψ0 (callK Try.prog Ψ0 keep m 0) (keep 42) m body42 [.r, .r, .l, .r, .b, .o] (leaveK Try.prog Try.f42.results.toList (finK Try.prog Try.f42.resultTypes.toList))
noncomputable def L_ref27_carry_l3 (m n : Nat) (b_0 : ByteArray) (n_3 : Int) (i_4 : Int) : Option (List (RV C)) := iterK (Q_ref27_carry_3 m) (St.norm (keep 42 3)) n ({ T := [.fl (.one (.str b_0)), .dead, .dead, .fl (.one (.int .i64 n_3)), .fl (.one (.int .i64 i_4))] ++ List.replicate 18 .dead, F := [[]], H := [] } : St C) (KL_ref27_carry_3 m)
noncomputable def b_ref27_carry_l3 {R : Type} (m : Nat) (ret : Int → Option R) (k_l3 : ByteArray → Int → Int → Option R) (b_0 : ByteArray) (n_3 : Int) (i_4 : Int) : Option R :=
 bif decide (i_4 < (b_0.size : Int)) then
 bif decide (0 ≤ i_4) then
 bif decide (i_4 < (b_0.size : Int)) then
 bif decide (IntKind.i64.wrap (n_3 + IntKind.i64.wrap (byteAt b_0 i_4)) > 255) then
 k_l3 b_0 (IntKind.i64.wrap (IntKind.i64.wrap (n_3 + IntKind.i64.wrap (byteAt b_0 i_4)) - 255)) (IntKind.i64.wrap (i_4 + 1))
 else
 k_l3 b_0 (IntKind.i64.wrap (n_3 + IntKind.i64.wrap (byteAt b_0 i_4))) (IntKind.i64.wrap (i_4 + 1))
 else
 none
 else
 none
 else
 ret (IntKind.i64.wrap (255 - n_3))
theorem L_ref27_carry_l3_step (m n : Nat) (b_0 : ByteArray) (n_3 : Int) (i_4 : Int) : L_ref27_carry_l3 m (n + 1) b_0 n_3 i_4 = b_ref27_carry_l3 m (fun x0 => some (w_ref27_carry x0)) (fun b_0 n_3 i_4 => L_ref27_carry_l3 m n b_0 n_3 i_4) b_0 n_3 i_4 := by kernel_rfl
theorem b_ref27_carry_l3_map (m : Nat) {k_l3 : ByteArray → Int → Int → Option (List (RV C))} {q_l3 : ByteArray → Int → Int → Option (Int)} (h_l3 : ∀ b_0 n_3 i_4, k_l3 b_0 n_3 i_4 = (q_l3 b_0 n_3 i_4).map w_ref27_carry) (b_0 : ByteArray) (n_3 : Int) (i_4 : Int) : b_ref27_carry_l3 m (fun x0 => some (w_ref27_carry x0)) k_l3 b_0 n_3 i_4 = (b_ref27_carry_l3 m (fun x0 => some x0) q_l3 b_0 n_3 i_4).map w_ref27_carry := by
  simp only [b_ref27_carry_l3, cond_map, bind_map, map_none, map_some, h_l3]
noncomputable def ref27_carry_l3 (m : Nat) : Nat → ByteArray → Int → Int → Option (Int)
  | 0, _, _, _ => none
  | n + 1, b_0, n_3, i_4 => b_ref27_carry_l3 m (fun x0 => some x0) (fun b_0 n_3 i_4 => ref27_carry_l3 m n b_0 n_3 i_4) b_0 n_3 i_4
theorem L_ref27_carry_l3_eq (m : Nat) : ∀ (n : Nat) (b_0 : ByteArray) (n_3 : Int) (i_4 : Int), L_ref27_carry_l3 m n b_0 n_3 i_4 = (ref27_carry_l3 m n b_0 n_3 i_4).map w_ref27_carry
  | 0, b_0, n_3, i_4 => by kernel_rfl
  | n + 1, b_0, n_3, i_4 => by
    rw [L_ref27_carry_l3_step]
    exact b_ref27_carry_l3_map m (fun b_0 n_3 i_4 => L_ref27_carry_l3_eq m n b_0 n_3 i_4) b_0 n_3 i_4
noncomputable def b_ref27_carry {R : Type} (m : Nat) (ret : Int → Option R) (k_l3 : ByteArray → Int → Int → Option R) (b_0 : ByteArray) : Option R :=
 k_l3 b_0 0 0
theorem ref27_carry_pre (m : Nat) (b_0 : ByteArray) : funK Try.prog Ψ0 keep m 1 42 [dStr.e b_0] = b_ref27_carry m (fun x0 => some (w_ref27_carry x0)) (fun b_0 n_3 i_4 => L_ref27_carry_l3 m m b_0 n_3 i_4) b_0 := by kernel_rfl
theorem b_ref27_carry_map (m : Nat) {k_l3 : ByteArray → Int → Int → Option (List (RV C))} {q_l3 : ByteArray → Int → Int → Option (Int)} (h_l3 : ∀ b_0 n_3 i_4, k_l3 b_0 n_3 i_4 = (q_l3 b_0 n_3 i_4).map w_ref27_carry) (b_0 : ByteArray) : b_ref27_carry m (fun x0 => some (w_ref27_carry x0)) k_l3 b_0 = (b_ref27_carry m (fun x0 => some x0) q_l3 b_0).map w_ref27_carry := by
  simp only [b_ref27_carry, cond_map, bind_map, map_none, map_some, h_l3]
noncomputable def ref27_carry (m : Nat) (b_0 : ByteArray) : Option (Int) := b_ref27_carry m (fun x0 => some x0) (fun b_0 n_3 i_4 => ref27_carry_l3 m m b_0 n_3 i_4) b_0
theorem ref27_carry_fun (m : Nat) (b_0 : ByteArray) : funK Try.prog Ψ0 keep m 1 42 [dStr.e b_0] = (ref27_carry m b_0).map w_ref27_carry := by
  rw [ref27_carry_pre]
  exact b_ref27_carry_map m (fun b_0 n_3 i_4 => L_ref27_carry_l3_eq m m b_0 n_3 i_4) b_0
noncomputable def K_ref27_carry (m : Nat) : KnownF C := mkK (dCons dStr dNil) (fun a => ref27_carry m a.1) w_ref27_carry
theorem K_ref27_carry_ok (m : Nat) : KnownAt C Try.prog 42 fun l => (K_ref27_carry m).run _ l some :=
  mkK_known good fit Ψ0_ok (keep := keep) (m := m) (d := 1) fun a => ref27_carry_fun m a.1
/-! ### signalbench/signalbenchref27.sum -/
noncomputable def Ψ_ref27_sum (m : Nat) : Known C := fun f => match f with
  | 42 => some (K_ref27_carry m)
  | _ => none
theorem Ψ_ref27_sum_ok (m : Nat) : KnownOk C Try.prog (Ψ_ref27_sum m) := by
  intro f φ h
  unfold Ψ_ref27_sum at h
  split at h
  · injection h with h; subst h; exact K_ref27_carry_ok m
  · cases h
def w_ref27_sum (b : Int) : List (RV C) := [(dInt .i64).e b]
noncomputable def b_ref27_sum {R : Type} (m : Nat) (ret : Int → Option R) (c_0 : Lin) (id_1 : Int) (data_2 : ByteArray) : Option R :=
 bif c_0.Classic then
 ((ref27_carry m data_2).bind fun r0 =>
 ret r0)
 else
 bif decide (IntKind.i64.wrap (((BitVec.ofInt 64 id_1 &&& BitVec.ofInt 64 63).toNat : Int)) ≥ 60) then
 ((ref27_carry m data_2).bind fun r1 =>
 ret r1)
 else
 bif decide ((((toBytes [IntKind.u8.wrap id_1]).size + data_2.size) : Int) > 9223372036854775807) then
 none
 else
 (ref27_carry m (toBytes [IntKind.u8.wrap id_1] ++ data_2)).bind fun r2 =>
 ret r2
theorem ref27_sum_pre (m : Nat) (c_0 : Lin) (id_1 : Int) (data_2 : ByteArray) : funK Try.prog (Ψ_ref27_sum m) keep m 1 33 [(dS of_Lin cells_Lin of_Lin_ok).e c_0, (dInt .i64).e id_1, dStr.e data_2] = b_ref27_sum m (fun x0 => some (w_ref27_sum x0)) c_0 id_1 data_2 := by kernel_rfl
theorem b_ref27_sum_map (m : Nat) (c_0 : Lin) (id_1 : Int) (data_2 : ByteArray) : b_ref27_sum m (fun x0 => some (w_ref27_sum x0)) c_0 id_1 data_2 = (b_ref27_sum m (fun x0 => some x0) c_0 id_1 data_2).map w_ref27_sum := by
  simp only [b_ref27_sum, cond_map, bind_map, map_none, map_some]
noncomputable def ref27_sum (m : Nat) (c_0 : Lin) (id_1 : Int) (data_2 : ByteArray) : Option (Int) := b_ref27_sum m (fun x0 => some x0) c_0 id_1 data_2
theorem ref27_sum_fun (m : Nat) (c_0 : Lin) (id_1 : Int) (data_2 : ByteArray) : funK Try.prog (Ψ_ref27_sum m) keep m 1 33 [(dS of_Lin cells_Lin of_Lin_ok).e c_0, (dInt .i64).e id_1, dStr.e data_2] = (ref27_sum m c_0 id_1 data_2).map w_ref27_sum := by
  rw [ref27_sum_pre]
  exact b_ref27_sum_map m c_0 id_1 data_2
noncomputable def K_ref27_sum (m : Nat) : KnownF C := mkK (dCons (dS of_Lin cells_Lin of_Lin_ok) (dCons (dInt .i64) (dCons dStr dNil))) (fun a => ref27_sum m a.1 a.2.1 a.2.2.1) w_ref27_sum
theorem K_ref27_sum_ok (m : Nat) : KnownAt C Try.prog 33 fun l => (K_ref27_sum m).run _ l some :=
  mkK_known good fit (Ψ_ref27_sum_ok m) (keep := keep) (m := m) (d := 1) fun a => ref27_sum_fun m a.1 a.2.1 a.2.2.1
/-! ### signalbench/signalbenchref27.frame -/
noncomputable def Ψ_ref27_frame (m : Nat) : Known C := fun f => match f with
  | 32 => some (K_ref27_Protect m)
  | 33 => some (K_ref27_sum m)
  | _ => none
theorem Ψ_ref27_frame_ok (m : Nat) : KnownOk C Try.prog (Ψ_ref27_frame m) := by
  intro f φ h
  unfold Ψ_ref27_frame at h
  split at h
  · injection h with h; subst h; exact K_ref27_Protect_ok m
  · injection h with h; subst h; exact K_ref27_sum_ok m
  · cases h
def w_ref27_frame (b : Event) : List (RV C) := [(dS of_Event cells_Event of_Event_ok).e b]
noncomputable def b_ref27_frame {R : Type} (m : Nat) (ret : Event → Option R) (c_0 : Lin) (s_1 : State) : Option R :=
 bif decide ((s_1.Data.size : Int) < 4) then
 ret (Event.mk 5 s_1.From s_1.Acc 0 0 s_1.Data 8)
 else
 bif decide ((s_1.Data.size : Int) > 11) then
 ret (Event.mk 5 s_1.From s_1.Acc 0 0 s_1.Data 8)
 else
 bif decide (1 < (s_1.Data.size : Int)) then
 (bif decide (0 ≤ IntKind.i64.wrap ((s_1.Data.size : Int) - 1)) then
 (bif decide (IntKind.i64.wrap ((s_1.Data.size : Int) - 1) ≤ (s_1.Data.size : Int)) then
 (bif decide (2 ≤ IntKind.i64.wrap ((s_1.Data.size : Int) - 1)) then
 (bif decide (0 < (s_1.Data.size : Int)) then
 (bif byteAt s_1.Data 0 != 85 then
 ret (Event.mk 5 s_1.From s_1.Acc (IntKind.i64.wrap (((BitVec.ofInt 64 (IntKind.i64.wrap (byteAt s_1.Data 1)) &&& BitVec.ofInt 64 63).toNat : Int))) 0 (s_1.Data.extract 2 (IntKind.i64.wrap ((s_1.Data.size : Int) - 1)).toNat) 1)
 else
 bif IntKind.i64.wrap (IntKind.i64.wrap (IntKind.i64.wrap (((BitVec.ofInt 64 (IntKind.i64.wrap (byteAt s_1.Data 1)) &&& BitVec.ofInt 64 63).toNat : Int)) + IntKind.i64.wrap (64 * IntKind.i64.wrap (((BitVec.ofInt 64 (IntKind.i64.wrap (((BitVec.ofInt 64 (IntKind.i64.wrap (((BitVec.ofInt 64 (IntKind.i64.wrap (((BitVec.ofInt 64 ((IntKind.i64.wrap (((BitVec.ofInt 64 (IntKind.i64.wrap (byteAt s_1.Data 1)) &&& BitVec.ofInt 64 63).toNat : Int))).fdiv 1) &&& BitVec.ofInt 64 1).toNat : Int))) ^^^ BitVec.ofInt 64 (IntKind.i64.wrap (((BitVec.ofInt 64 ((IntKind.i64.wrap (((BitVec.ofInt 64 (IntKind.i64.wrap (byteAt s_1.Data 1)) &&& BitVec.ofInt 64 63).toNat : Int))).fdiv 2) &&& BitVec.ofInt 64 1).toNat : Int)))).toNat : Int))) ^^^ BitVec.ofInt 64 (IntKind.i64.wrap (((BitVec.ofInt 64 ((IntKind.i64.wrap (((BitVec.ofInt 64 (IntKind.i64.wrap (byteAt s_1.Data 1)) &&& BitVec.ofInt 64 63).toNat : Int))).fdiv 4) &&& BitVec.ofInt 64 1).toNat : Int)))).toNat : Int))) ^^^ BitVec.ofInt 64 (IntKind.i64.wrap (((BitVec.ofInt 64 ((IntKind.i64.wrap (((BitVec.ofInt 64 (IntKind.i64.wrap (byteAt s_1.Data 1)) &&& BitVec.ofInt 64 63).toNat : Int))).fdiv 16) &&& BitVec.ofInt 64 1).toNat : Int)))).toNat : Int)))) + IntKind.i64.wrap (128 * IntKind.i64.wrap (((BitVec.ofInt 64 (IntKind.i64.wrap (((BitVec.ofInt 64 (IntKind.i64.wrap (((BitVec.ofInt 64 (IntKind.i64.wrap (1 - IntKind.i64.wrap (((BitVec.ofInt 64 ((IntKind.i64.wrap (((BitVec.ofInt 64 (IntKind.i64.wrap (byteAt s_1.Data 1)) &&& BitVec.ofInt 64 63).toNat : Int))).fdiv 2) &&& BitVec.ofInt 64 1).toNat : Int)))) ^^^ BitVec.ofInt 64 (IntKind.i64.wrap (((BitVec.ofInt 64 ((IntKind.i64.wrap (((BitVec.ofInt 64 (IntKind.i64.wrap (byteAt s_1.Data 1)) &&& BitVec.ofInt 64 63).toNat : Int))).fdiv 8) &&& BitVec.ofInt 64 1).toNat : Int)))).toNat : Int))) ^^^ BitVec.ofInt 64 (IntKind.i64.wrap (((BitVec.ofInt 64 ((IntKind.i64.wrap (((BitVec.ofInt 64 (IntKind.i64.wrap (byteAt s_1.Data 1)) &&& BitVec.ofInt 64 63).toNat : Int))).fdiv 16) &&& BitVec.ofInt 64 1).toNat : Int)))).toNat : Int))) ^^^ BitVec.ofInt 64 (IntKind.i64.wrap (((BitVec.ofInt 64 ((IntKind.i64.wrap (((BitVec.ofInt 64 (IntKind.i64.wrap (byteAt s_1.Data 1)) &&& BitVec.ofInt 64 63).toNat : Int))).fdiv 32) &&& BitVec.ofInt 64 1).toNat : Int)))).toNat : Int)))) != IntKind.i64.wrap (byteAt s_1.Data 1) then
 ret (Event.mk 5 s_1.From s_1.Acc (IntKind.i64.wrap (((BitVec.ofInt 64 (IntKind.i64.wrap (byteAt s_1.Data 1)) &&& BitVec.ofInt 64 63).toNat : Int))) 0 (s_1.Data.extract 2 (IntKind.i64.wrap ((s_1.Data.size : Int) - 1)).toNat) 2)
 else
 bif decide (0 ≤ IntKind.i64.wrap ((s_1.Data.size : Int) - 1)) then
 (bif decide (IntKind.i64.wrap ((s_1.Data.size : Int) - 1) < (s_1.Data.size : Int)) then
 ((ref27_sum m c_0 (IntKind.i64.wrap (byteAt s_1.Data 1)) (s_1.Data.extract 2 (IntKind.i64.wrap ((s_1.Data.size : Int) - 1)).toNat)).bind fun r0 =>
 bif IntKind.i64.wrap (byteAt s_1.Data (IntKind.i64.wrap ((s_1.Data.size : Int) - 1))) != r0 then
 ret (Event.mk 5 s_1.From s_1.Acc (IntKind.i64.wrap (((BitVec.ofInt 64 (IntKind.i64.wrap (byteAt s_1.Data 1)) &&& BitVec.ofInt 64 63).toNat : Int))) 0 (s_1.Data.extract 2 (IntKind.i64.wrap ((s_1.Data.size : Int) - 1)).toNat) 3)
 else
 ret (Event.mk 5 s_1.From s_1.Acc (IntKind.i64.wrap (((BitVec.ofInt 64 (IntKind.i64.wrap (byteAt s_1.Data 1)) &&& BitVec.ofInt 64 63).toNat : Int))) 0 (s_1.Data.extract 2 (IntKind.i64.wrap ((s_1.Data.size : Int) - 1)).toNat) 0))
 else
 none)
 else
 none)
 else
 none)
 else
 none)
 else
 none)
 else
 none)
 else
 none
theorem ref27_frame_pre (m : Nat) (c_0 : Lin) (s_1 : State) : funK Try.prog (Ψ_ref27_frame m) keep m 1 28 [(dS of_Lin cells_Lin of_Lin_ok).e c_0, (dS of_State cells_State of_State_ok).e s_1] = b_ref27_frame m (fun x0 => some (w_ref27_frame x0)) c_0 s_1 := by kernel_rfl
theorem b_ref27_frame_map (m : Nat) (c_0 : Lin) (s_1 : State) : b_ref27_frame m (fun x0 => some (w_ref27_frame x0)) c_0 s_1 = (b_ref27_frame m (fun x0 => some x0) c_0 s_1).map w_ref27_frame := by
  simp only [b_ref27_frame, cond_map, bind_map, map_none, map_some]
noncomputable def ref27_frame (m : Nat) (c_0 : Lin) (s_1 : State) : Option (Event) := b_ref27_frame m (fun x0 => some x0) c_0 s_1
theorem ref27_frame_fun (m : Nat) (c_0 : Lin) (s_1 : State) : funK Try.prog (Ψ_ref27_frame m) keep m 1 28 [(dS of_Lin cells_Lin of_Lin_ok).e c_0, (dS of_State cells_State of_State_ok).e s_1] = (ref27_frame m c_0 s_1).map w_ref27_frame := by
  rw [ref27_frame_pre]
  exact b_ref27_frame_map m c_0 s_1
noncomputable def K_ref27_frame (m : Nat) : KnownF C := mkK (dCons (dS of_Lin cells_Lin of_Lin_ok) (dCons (dS of_State cells_State of_State_ok) dNil)) (fun a => ref27_frame m a.1 a.2.1) w_ref27_frame
theorem K_ref27_frame_ok (m : Nat) : KnownAt C Try.prog 28 fun l => (K_ref27_frame m).run _ l some :=
  mkK_known good fit (Ψ_ref27_frame_ok m) (keep := keep) (m := m) (d := 1) fun a => ref27_frame_fun m a.1 a.2.1
/-! ### signalbench/signalbenchref27.Step -/
noncomputable def Ψ_ref27_Step (m : Nat) : Known C := fun f => match f with
  | 27 => some (K_ref27_accepted m)
  | 28 => some (K_ref27_frame m)
  | _ => none
theorem Ψ_ref27_Step_ok (m : Nat) : KnownOk C Try.prog (Ψ_ref27_Step m) := by
  intro f φ h
  unfold Ψ_ref27_Step at h
  split at h
  · injection h with h; subst h; exact K_ref27_accepted_ok m
  · injection h with h; subst h; exact K_ref27_frame_ok m
  · cases h
def w_ref27_Step (b : State × List Event) : List (RV C) := [(dS of_State cells_State of_State_ok).e b.1, (dRow 32).e b.2]
noncomputable def b_ref27_Step {R : Type} (m : Nat) (ret : State → List Event → Option R) (c_0 : Lin) (s_1 : State) (e_2 : Event) : Option R :=
 (ref27_accepted m s_1 e_2).bind fun r0 =>
 bif !r0 then
 ret s_1 []
 else
 bif e_2.Fault != 0 then
 bif s_1.Phase == 0 then
 ret (State.mk 0 e_2.To 0 0 0 0 e_2.From (bs [])) []
 else
 ret (State.mk 0 e_2.To 0 0 0 0 e_2.From (bs [])) ([Event.mk 5 s_1.From e_2.From 0 0 (bs []) 7])
 else
 bif e_2.Kind == 3 then
 bif s_1.Phase == 1 then
 bif decide ((s_1.Data.size : Int) < 4096) then
 bif decide (((s_1.Data.size + (toBytes [IntKind.u8.wrap e_2.Value]).size) : Int) > 9223372036854775807) then
 none
 else
 ret { s_1 with At := e_2.To, Acc := e_2.To, Prev := e_2.From, Data := s_1.Data ++ toBytes [IntKind.u8.wrap e_2.Value] } []
 else
 ret { s_1 with At := e_2.To, Acc := e_2.To, Prev := e_2.From } []
 else
 ret { s_1 with At := e_2.To, Prev := e_2.From } []
 else
 bif e_2.Value != 1 then
 ret { s_1 with At := e_2.To, Prev := e_2.From } []
 else
 bif s_1.Phase == 0 then
 ret (State.mk 1 e_2.To e_2.From 0 e_2.To 0 e_2.From (bs [])) []
 else
 (ref27_frame m c_0 (State.mk s_1.Phase e_2.To s_1.From s_1.Count s_1.Acc s_1.Aux e_2.From s_1.Data)).bind fun r1 =>
 ret (State.mk 1 e_2.To e_2.From 0 e_2.To 0 e_2.From (bs [])) [r1]
theorem ref27_Step_pre (m : Nat) (c_0 : Lin) (s_1 : State) (e_2 : Event) : funK Try.prog (Ψ_ref27_Step m) keep m 1 12 [(dS of_Lin cells_Lin of_Lin_ok).e c_0, (dS of_State cells_State of_State_ok).e s_1, (dS of_Event cells_Event of_Event_ok).e e_2] = b_ref27_Step m (fun x0 x1 => some (w_ref27_Step (x0, x1))) c_0 s_1 e_2 := by kernel_rfl
theorem b_ref27_Step_map (m : Nat) (c_0 : Lin) (s_1 : State) (e_2 : Event) : b_ref27_Step m (fun x0 x1 => some (w_ref27_Step (x0, x1))) c_0 s_1 e_2 = (b_ref27_Step m (fun x0 x1 => some (x0, x1)) c_0 s_1 e_2).map w_ref27_Step := by
  simp only [b_ref27_Step, cond_map, bind_map, map_none, map_some]
noncomputable def ref27_Step (m : Nat) (c_0 : Lin) (s_1 : State) (e_2 : Event) : Option (State × List Event) := b_ref27_Step m (fun x0 x1 => some (x0, x1)) c_0 s_1 e_2
theorem ref27_Step_fun (m : Nat) (c_0 : Lin) (s_1 : State) (e_2 : Event) : funK Try.prog (Ψ_ref27_Step m) keep m 1 12 [(dS of_Lin cells_Lin of_Lin_ok).e c_0, (dS of_State cells_State of_State_ok).e s_1, (dS of_Event cells_Event of_Event_ok).e e_2] = (ref27_Step m c_0 s_1 e_2).map w_ref27_Step := by
  rw [ref27_Step_pre]
  exact b_ref27_Step_map m c_0 s_1 e_2
noncomputable def K_ref27_Step (m : Nat) : KnownF C := mkK (dCons (dS of_Lin cells_Lin of_Lin_ok) (dCons (dS of_State cells_State of_State_ok) (dCons (dS of_Event cells_Event of_Event_ok) dNil))) (fun a => ref27_Step m a.1 a.2.1 a.2.2.1) w_ref27_Step
theorem K_ref27_Step_ok (m : Nat) : KnownAt C Try.prog 12 fun l => (K_ref27_Step m).run _ l some :=
  mkK_known good fit (Ψ_ref27_Step_ok m) (keep := keep) (m := m) (d := 1) fun a => ref27_Step_fun m a.1 a.2.1 a.2.2.1
/-! ### signalbench/signalbenchlaw27.same -/
def w_law27_same (b : Bool) : List (RV C) := [dBool.e b]
noncomputable def Q_law27_same_4 (m : Nat) : St C → (Exit → St C → Option (List (RV C))) → Option (List (RV C)) := fun σ k => codeK Try.prog Ψ0 (callK Try.prog Ψ0 keep m 0) (keep 13) m (subC body13 [.r, .r, .l, .r, .b, .o]) σ k
noncomputable def KL_law27_same_4 (m : Nat) : Exit → St C → Option (List (RV C)) := contK Try.prog Ψ0 (callK Try.prog Ψ0 keep m 0) (keep 13) m body13 [.r, .r, .l, .r, .b, .o] (leaveK Try.prog Try.f13.results.toList (finK Try.prog Try.f13.resultTypes.toList))
noncomputable def L_law27_same_l4 (m n : Nat) (i_5 : Int) (a_0 : List Event) (b_1 : List Event) : Option (List (RV C)) := iterK (Q_law27_same_4 m) (St.norm (keep 13 4)) n ({ T := [.fl (.one (.sl 0)), .fl (.one (.sl 1)), .dead, .dead, .dead, .fl (.one (.int .i64 i_5))] ++ List.replicate 20 .dead, F := [[]], H := [.row 32 false a_0, .row 32 false b_1] } : St C) (KL_law27_same_4 m)
noncomputable def b_law27_same_l4 {R : Type} (m : Nat) (ret : Bool → Option R) (k_l4 : Int → List Event → List Event → Option R) (i_5 : Int) (a_0 : List Event) (b_1 : List Event) : Option R :=
 bif decide (i_5 < (a_0.length : Int)) then
 bif decide (0 ≤ i_5) then
 bif decide (i_5 < (a_0.length : Int)) then
 bif decide (0 ≤ i_5) then
 bif decide (i_5 < (b_1.length : Int)) then
 bif !((a_0.getD i_5.toNat dflt_Event).Kind == (b_1.getD i_5.toNat dflt_Event).Kind && ((a_0.getD i_5.toNat dflt_Event).From == (b_1.getD i_5.toNat dflt_Event).From && ((a_0.getD i_5.toNat dflt_Event).To == (b_1.getD i_5.toNat dflt_Event).To && ((a_0.getD i_5.toNat dflt_Event).Value == (b_1.getD i_5.toNat dflt_Event).Value && ((a_0.getD i_5.toNat dflt_Event).Aux == (b_1.getD i_5.toNat dflt_Event).Aux && ((a_0.getD i_5.toNat dflt_Event).Data == (b_1.getD i_5.toNat dflt_Event).Data && ((a_0.getD i_5.toNat dflt_Event).Fault == (b_1.getD i_5.toNat dflt_Event).Fault && true))))))) then
 ret false
 else
 k_l4 (IntKind.i64.wrap (i_5 + 1)) a_0 b_1
 else
 none
 else
 none
 else
 none
 else
 none
 else
 ret true
theorem L_law27_same_l4_step (m n : Nat) (i_5 : Int) (a_0 : List Event) (b_1 : List Event) : L_law27_same_l4 m (n + 1) i_5 a_0 b_1 = b_law27_same_l4 m (fun x0 => some (w_law27_same x0)) (fun i_5 a_0 b_1 => L_law27_same_l4 m n i_5 a_0 b_1) i_5 a_0 b_1 := by kernel_rfl
theorem b_law27_same_l4_map (m : Nat) {k_l4 : Int → List Event → List Event → Option (List (RV C))} {q_l4 : Int → List Event → List Event → Option (Bool)} (h_l4 : ∀ i_5 a_0 b_1, k_l4 i_5 a_0 b_1 = (q_l4 i_5 a_0 b_1).map w_law27_same) (i_5 : Int) (a_0 : List Event) (b_1 : List Event) : b_law27_same_l4 m (fun x0 => some (w_law27_same x0)) k_l4 i_5 a_0 b_1 = (b_law27_same_l4 m (fun x0 => some x0) q_l4 i_5 a_0 b_1).map w_law27_same := by
  simp only [b_law27_same_l4, cond_map, bind_map, map_none, map_some, h_l4]
noncomputable def law27_same_l4 (m : Nat) : Nat → Int → List Event → List Event → Option (Bool)
  | 0, _, _, _ => none
  | n + 1, i_5, a_0, b_1 => b_law27_same_l4 m (fun x0 => some x0) (fun i_5 a_0 b_1 => law27_same_l4 m n i_5 a_0 b_1) i_5 a_0 b_1
theorem L_law27_same_l4_eq (m : Nat) : ∀ (n : Nat) (i_5 : Int) (a_0 : List Event) (b_1 : List Event), L_law27_same_l4 m n i_5 a_0 b_1 = (law27_same_l4 m n i_5 a_0 b_1).map w_law27_same
  | 0, i_5, a_0, b_1 => by kernel_rfl
  | n + 1, i_5, a_0, b_1 => by
    rw [L_law27_same_l4_step]
    exact b_law27_same_l4_map m (fun i_5 a_0 b_1 => L_law27_same_l4_eq m n i_5 a_0 b_1) i_5 a_0 b_1
noncomputable def b_law27_same {R : Type} (m : Nat) (ret : Bool → Option R) (k_l4 : Int → List Event → List Event → Option R) (a_0 : List Event) (b_1 : List Event) : Option R :=
 bif (a_0.length : Int) != (b_1.length : Int) then
 ret false
 else
 k_l4 0 a_0 b_1
theorem law27_same_pre (m : Nat) (a_0 : List Event) (b_1 : List Event) : funK Try.prog Ψ0 keep m 1 13 [(dRow 32).e a_0, (dRow 32).e b_1] = b_law27_same m (fun x0 => some (w_law27_same x0)) (fun i_5 a_0 b_1 => L_law27_same_l4 m m i_5 a_0 b_1) a_0 b_1 := by kernel_rfl
theorem b_law27_same_map (m : Nat) {k_l4 : Int → List Event → List Event → Option (List (RV C))} {q_l4 : Int → List Event → List Event → Option (Bool)} (h_l4 : ∀ i_5 a_0 b_1, k_l4 i_5 a_0 b_1 = (q_l4 i_5 a_0 b_1).map w_law27_same) (a_0 : List Event) (b_1 : List Event) : b_law27_same m (fun x0 => some (w_law27_same x0)) k_l4 a_0 b_1 = (b_law27_same m (fun x0 => some x0) q_l4 a_0 b_1).map w_law27_same := by
  simp only [b_law27_same, cond_map, bind_map, map_none, map_some, h_l4]
noncomputable def law27_same (m : Nat) (a_0 : List Event) (b_1 : List Event) : Option (Bool) := b_law27_same m (fun x0 => some x0) (fun i_5 a_0 b_1 => law27_same_l4 m m i_5 a_0 b_1) a_0 b_1
theorem law27_same_fun (m : Nat) (a_0 : List Event) (b_1 : List Event) : funK Try.prog Ψ0 keep m 1 13 [(dRow 32).e a_0, (dRow 32).e b_1] = (law27_same m a_0 b_1).map w_law27_same := by
  rw [law27_same_pre]
  exact b_law27_same_map m (fun i_5 a_0 b_1 => L_law27_same_l4_eq m m i_5 a_0 b_1) a_0 b_1
noncomputable def K_law27_same (m : Nat) : KnownF C := mkK (dCons (dRow 32) (dCons (dRow 32) dNil)) (fun a => law27_same m a.1 a.2.1) w_law27_same
theorem K_law27_same_ok (m : Nat) : KnownAt C Try.prog 13 fun l => (K_law27_same m).run _ l some :=
  mkK_known good fit Ψ0_ok (keep := keep) (m := m) (d := 1) fun a => law27_same_fun m a.1 a.2.1
/-! ### signalbench/signalbenchref27.End -/
noncomputable def Ψ_ref27_End (m : Nat) : Known C := fun f => match f with
  | 28 => some (K_ref27_frame m)
  | _ => none
theorem Ψ_ref27_End_ok (m : Nat) : KnownOk C Try.prog (Ψ_ref27_End m) := by
  intro f φ h
  unfold Ψ_ref27_End at h
  split at h
  · injection h with h; subst h; exact K_ref27_frame_ok m
  · cases h
def w_ref27_End (b : List Event) : List (RV C) := [(dRow 32).e b]
noncomputable def b_ref27_End {R : Type} (m : Nat) (ret : List Event → Option R) (c_0 : Lin) (s_1 : State) : Option R :=
 bif s_1.Phase == 0 then
 ret []
 else
 (ref27_frame m c_0 s_1).bind fun r0 =>
 ret [r0]
theorem ref27_End_pre (m : Nat) (c_0 : Lin) (s_1 : State) : funK Try.prog (Ψ_ref27_End m) keep m 1 15 [(dS of_Lin cells_Lin of_Lin_ok).e c_0, (dS of_State cells_State of_State_ok).e s_1] = b_ref27_End m (fun x0 => some (w_ref27_End x0)) c_0 s_1 := by kernel_rfl
theorem b_ref27_End_map (m : Nat) (c_0 : Lin) (s_1 : State) : b_ref27_End m (fun x0 => some (w_ref27_End x0)) c_0 s_1 = (b_ref27_End m (fun x0 => some x0) c_0 s_1).map w_ref27_End := by
  simp only [b_ref27_End, cond_map, bind_map, map_none, map_some]
noncomputable def ref27_End (m : Nat) (c_0 : Lin) (s_1 : State) : Option (List Event) := b_ref27_End m (fun x0 => some x0) c_0 s_1
theorem ref27_End_fun (m : Nat) (c_0 : Lin) (s_1 : State) : funK Try.prog (Ψ_ref27_End m) keep m 1 15 [(dS of_Lin cells_Lin of_Lin_ok).e c_0, (dS of_State cells_State of_State_ok).e s_1] = (ref27_End m c_0 s_1).map w_ref27_End := by
  rw [ref27_End_pre]
  exact b_ref27_End_map m c_0 s_1
noncomputable def K_ref27_End (m : Nat) : KnownF C := mkK (dCons (dS of_Lin cells_Lin of_Lin_ok) (dCons (dS of_State cells_State of_State_ok) dNil)) (fun a => ref27_End m a.1 a.2.1) w_ref27_End
theorem K_ref27_End_ok (m : Nat) : KnownAt C Try.prog 15 fun l => (K_ref27_End m).run _ l some :=
  mkK_known good fit (Ψ_ref27_End_ok m) (keep := keep) (m := m) (d := 1) fun a => ref27_End_fun m a.1 a.2.1
/-! ### signalbench/signalbenchref27.Decode -/
noncomputable def Ψ_ref27_Decode (m : Nat) : Known C := fun f => match f with
  | 10 => some (K_ref27_Start m)
  | 12 => some (K_ref27_Step m)
  | 15 => some (K_ref27_End m)
  | _ => none
theorem Ψ_ref27_Decode_ok (m : Nat) : KnownOk C Try.prog (Ψ_ref27_Decode m) := by
  intro f φ h
  unfold Ψ_ref27_Decode at h
  split at h
  · injection h with h; subst h; exact K_ref27_Start_ok m
  · injection h with h; subst h; exact K_ref27_Step_ok m
  · injection h with h; subst h; exact K_ref27_End_ok m
  · cases h
def w_ref27_Decode (b : List Event) : List (RV C) := [(dRow 32).e b]
noncomputable def Q_ref27_Decode_4 (m : Nat) : St C → (Exit → St C → Option (List (RV C))) → Option (List (RV C)) := fun σ k => codeK Try.prog (Ψ_ref27_Decode m) (callK Try.prog (Ψ_ref27_Decode m) keep m 0) (keep 17) m (subC body17 [.r, .r, .r, .l, .r, .b, .o]) σ k
noncomputable def KL_ref27_Decode_4 (m : Nat) : Exit → St C → Option (List (RV C)) := contK Try.prog (Ψ_ref27_Decode m) (callK Try.prog (Ψ_ref27_Decode m) keep m 0) (keep 17) m body17 [.r, .r, .r, .l, .r, .b, .o] (leaveK Try.prog Try.f17.results.toList (finK Try.prog Try.f17.resultTypes.toList))
noncomputable def L_ref27_Decode_l4 (m n : Nat) (i_7 : Int) (l_1 : List Event) (c1 : Lin) (out_5 : List Event) (c3 : State) : Option (List (RV C)) := iterK (Q_ref27_Decode_4 m) (St.norm (keep 17 4)) n ({ T := [.dead, .fl (.one (.sl 0)), .fl (.one (.ptr 1 0)), .dead, .dead, .fl (.one (.sl 2)), .fl (.one (.ptr 3 0)), .fl (.one (.int .i64 i_7))] ++ List.replicate 30 .dead, F := [[]], H := [.row 32 false l_1, .box 23 (cells_Lin c1), .row 32 true out_5, .box 27 (cells_State c3)] } : St C) (KL_ref27_Decode_4 m)
noncomputable def b_ref27_Decode_l4 {R : Type} (m : Nat) (ret : List Event → Option R) (k_l4 : Int → List Event → Lin → List Event → State → Option R) (i_7 : Int) (l_1 : List Event) (c1 : Lin) (out_5 : List Event) (c3 : State) : Option R :=
 bif decide (i_7 < (l_1.length : Int)) then
 (bif decide (0 ≤ i_7) then
 (bif decide (i_7 < (l_1.length : Int)) then
 ((ref27_Step m c1 c3 (l_1.getD i_7.toNat dflt_Event)).bind fun r0 =>
 bif decide ((out_5.length + r0.snd.length) * 64 ≤ 140737488355328) then
 k_l4 (IntKind.i64.wrap (i_7 + 1)) l_1 c1 (out_5 ++ r0.snd) r0.fst
 else
 none)
 else
 none)
 else
 none)
 else
 (ref27_End m c1 c3).bind fun r1 =>
 bif decide ((out_5.length + r1.length) * 64 ≤ 140737488355328) then
 ret (out_5 ++ r1)
 else
 none
theorem L_ref27_Decode_l4_step (m n : Nat) (i_7 : Int) (l_1 : List Event) (c1 : Lin) (out_5 : List Event) (c3 : State) : L_ref27_Decode_l4 m (n + 1) i_7 l_1 c1 out_5 c3 = b_ref27_Decode_l4 m (fun x0 => some (w_ref27_Decode x0)) (fun i_7 l_1 c1 out_5 c3 => L_ref27_Decode_l4 m n i_7 l_1 c1 out_5 c3) i_7 l_1 c1 out_5 c3 := by kernel_rfl
theorem b_ref27_Decode_l4_map (m : Nat) {k_l4 : Int → List Event → Lin → List Event → State → Option (List (RV C))} {q_l4 : Int → List Event → Lin → List Event → State → Option (List Event)} (h_l4 : ∀ i_7 l_1 c1 out_5 c3, k_l4 i_7 l_1 c1 out_5 c3 = (q_l4 i_7 l_1 c1 out_5 c3).map w_ref27_Decode) (i_7 : Int) (l_1 : List Event) (c1 : Lin) (out_5 : List Event) (c3 : State) : b_ref27_Decode_l4 m (fun x0 => some (w_ref27_Decode x0)) k_l4 i_7 l_1 c1 out_5 c3 = (b_ref27_Decode_l4 m (fun x0 => some x0) q_l4 i_7 l_1 c1 out_5 c3).map w_ref27_Decode := by
  simp only [b_ref27_Decode_l4, cond_map, bind_map, map_none, map_some, h_l4]
noncomputable def ref27_Decode_l4 (m : Nat) : Nat → Int → List Event → Lin → List Event → State → Option (List Event)
  | 0, _, _, _, _, _ => none
  | n + 1, i_7, l_1, c1, out_5, c3 => b_ref27_Decode_l4 m (fun x0 => some x0) (fun i_7 l_1 c1 out_5 c3 => ref27_Decode_l4 m n i_7 l_1 c1 out_5 c3) i_7 l_1 c1 out_5 c3
theorem L_ref27_Decode_l4_eq (m : Nat) : ∀ (n : Nat) (i_7 : Int) (l_1 : List Event) (c1 : Lin) (out_5 : List Event) (c3 : State), L_ref27_Decode_l4 m n i_7 l_1 c1 out_5 c3 = (ref27_Decode_l4 m n i_7 l_1 c1 out_5 c3).map w_ref27_Decode
  | 0, i_7, l_1, c1, out_5, c3 => by kernel_rfl
  | n + 1, i_7, l_1, c1, out_5, c3 => by
    rw [L_ref27_Decode_l4_step]
    exact b_ref27_Decode_l4_map m (fun i_7 l_1 c1 out_5 c3 => L_ref27_Decode_l4_eq m n i_7 l_1 c1 out_5 c3) i_7 l_1 c1 out_5 c3
noncomputable def b_ref27_Decode {R : Type} (m : Nat) (ret : List Event → Option R) (k_l4 : Int → List Event → Lin → List Event → State → Option R) (c_0 : Lin) (l_1 : List Event) : Option R :=
 k_l4 0 l_1 c_0 [] (State.mk 0 0 0 0 0 0 0 (bs []))
theorem ref27_Decode_pre (m : Nat) (c_0 : Lin) (l_1 : List Event) : funK Try.prog (Ψ_ref27_Decode m) keep m 1 17 [(dS of_Lin cells_Lin of_Lin_ok).e c_0, (dRow 32).e l_1] = b_ref27_Decode m (fun x0 => some (w_ref27_Decode x0)) (fun i_7 l_1 c1 out_5 c3 => L_ref27_Decode_l4 m m i_7 l_1 c1 out_5 c3) c_0 l_1 := by kernel_rfl
theorem b_ref27_Decode_map (m : Nat) {k_l4 : Int → List Event → Lin → List Event → State → Option (List (RV C))} {q_l4 : Int → List Event → Lin → List Event → State → Option (List Event)} (h_l4 : ∀ i_7 l_1 c1 out_5 c3, k_l4 i_7 l_1 c1 out_5 c3 = (q_l4 i_7 l_1 c1 out_5 c3).map w_ref27_Decode) (c_0 : Lin) (l_1 : List Event) : b_ref27_Decode m (fun x0 => some (w_ref27_Decode x0)) k_l4 c_0 l_1 = (b_ref27_Decode m (fun x0 => some x0) q_l4 c_0 l_1).map w_ref27_Decode := by
  simp only [b_ref27_Decode, cond_map, bind_map, map_none, map_some, h_l4]
noncomputable def ref27_Decode (m : Nat) (c_0 : Lin) (l_1 : List Event) : Option (List Event) := b_ref27_Decode m (fun x0 => some x0) (fun i_7 l_1 c1 out_5 c3 => ref27_Decode_l4 m m i_7 l_1 c1 out_5 c3) c_0 l_1
theorem ref27_Decode_fun (m : Nat) (c_0 : Lin) (l_1 : List Event) : funK Try.prog (Ψ_ref27_Decode m) keep m 1 17 [(dS of_Lin cells_Lin of_Lin_ok).e c_0, (dRow 32).e l_1] = (ref27_Decode m c_0 l_1).map w_ref27_Decode := by
  rw [ref27_Decode_pre]
  exact b_ref27_Decode_map m (fun i_7 l_1 c1 out_5 c3 => L_ref27_Decode_l4_eq m m i_7 l_1 c1 out_5 c3) c_0 l_1
noncomputable def K_ref27_Decode (m : Nat) : KnownF C := mkK (dCons (dS of_Lin cells_Lin of_Lin_ok) (dCons (dRow 32) dNil)) (fun a => ref27_Decode m a.1 a.2.1) w_ref27_Decode
theorem K_ref27_Decode_ok (m : Nat) : KnownAt C Try.prog 17 fun l => (K_ref27_Decode m).run _ l some :=
  mkK_known good fit (Ψ_ref27_Decode_ok m) (keep := keep) (m := m) (d := 1) fun a => ref27_Decode_fun m a.1 a.2.1
/-! ### signalbench/signalbenchlaw27.LinDecodes -/
noncomputable def Ψ_law27_LinDecodes (m : Nat) : Known C := fun f => match f with
  | 8 => some (K_law27_lives m)
  | 9 => some (K_lin_Start m)
  | 10 => some (K_ref27_Start m)
  | 11 => some (K_lin_Step m)
  | 12 => some (K_ref27_Step m)
  | 13 => some (K_law27_same m)
  | 14 => some (K_lin_End m)
  | 15 => some (K_ref27_End m)
  | 16 => some (K_lin_Decode m)
  | 17 => some (K_ref27_Decode m)
  | _ => none
theorem Ψ_law27_LinDecodes_ok (m : Nat) : KnownOk C Try.prog (Ψ_law27_LinDecodes m) := by
  intro f φ h
  unfold Ψ_law27_LinDecodes at h
  split at h
  · injection h with h; subst h; exact K_law27_lives_ok m
  · injection h with h; subst h; exact K_lin_Start_ok m
  · injection h with h; subst h; exact K_ref27_Start_ok m
  · injection h with h; subst h; exact K_lin_Step_ok m
  · injection h with h; subst h; exact K_ref27_Step_ok m
  · injection h with h; subst h; exact K_law27_same_ok m
  · injection h with h; subst h; exact K_lin_End_ok m
  · injection h with h; subst h; exact K_ref27_End_ok m
  · injection h with h; subst h; exact K_lin_Decode_ok m
  · injection h with h; subst h; exact K_ref27_Decode_ok m
  · cases h
def w_law27_LinDecodes (b : Bool) : List (RV C) := [dBool.e b]
noncomputable def Q_law27_LinDecodes_7 (m : Nat) : St C → (Exit → St C → Option (List (RV C))) → Option (List (RV C)) := fun σ k => codeK Try.prog (Ψ_law27_LinDecodes m) (callK Try.prog (Ψ_law27_LinDecodes m) keep m 0) (keep 3) m (subC body3 [.r, .r, .r, .r, .l, .r, .b, .o]) σ k
noncomputable def KL_law27_LinDecodes_7 (m : Nat) : Exit → St C → Option (List (RV C)) := contK Try.prog (Ψ_law27_LinDecodes m) (callK Try.prog (Ψ_law27_LinDecodes m) keep m 0) (keep 3) m body3 [.r, .r, .r, .r, .l, .r, .b, .o] (leaveK Try.prog Try.f3.results.toList (finK Try.prog Try.f3.resultTypes.toList))
noncomputable def L_law27_LinDecodes_l7 (m n : Nat) (i_7 : Int) (l_1 : List Event) (c1 : Lin) (c2 : State) (c3 : State) : Option (List (RV C)) := iterK (Q_law27_LinDecodes_7 m) (St.norm (keep 3 7)) n ({ T := [.dead, .fl (.one (.sl 0)), .fl (.one (.ptr 1 0)), .dead, .dead, .fl (.one (.ptr 2 0)), .fl (.one (.ptr 3 0)), .fl (.one (.int .i64 i_7))] ++ List.replicate 61 .dead, F := [[]], H := [.row 32 false l_1, .box 23 (cells_Lin c1), .box 27 (cells_State c2), .box 27 (cells_State c3)] } : St C) (KL_law27_LinDecodes_7 m)
noncomputable def b_law27_LinDecodes_l7 {R : Type} (m : Nat) (ret : Bool → Option R) (k_l7 : Int → List Event → Lin → State → State → Option R) (i_7 : Int) (l_1 : List Event) (c1 : Lin) (c2 : State) (c3 : State) : Option R :=
 bif decide (i_7 < (l_1.length : Int)) then
 (bif decide (0 ≤ i_7) then
 (bif decide (i_7 < (l_1.length : Int)) then
 ((lin_Step m c1 c2 (l_1.getD i_7.toNat dflt_Event)).bind fun r0 =>
 bif decide (0 ≤ i_7) then
 (bif decide (i_7 < (l_1.length : Int)) then
 ((ref27_Step m c1 c3 (l_1.getD i_7.toNat dflt_Event)).bind fun r1 =>
 (law27_same m r0.snd r1.snd).bind fun r2 =>
 bif !r2 then
 ret false
 else
 k_l7 (IntKind.i64.wrap (i_7 + 1)) l_1 c1 r0.fst r1.fst)
 else
 none)
 else
 none)
 else
 none)
 else
 none)
 else
 (lin_End m c1 c2).bind fun r3 =>
 (ref27_End m c1 c3).bind fun r4 =>
 (law27_same m r3 r4).bind fun r5 =>
 bif r5 then
 ((lin_Decode m c1 l_1).bind fun r6 =>
 (ref27_Decode m c1 l_1).bind fun r7 =>
 (law27_same m r6 r7).bind fun r8 =>
 ret r8)
 else
 ret false
theorem L_law27_LinDecodes_l7_step (m n : Nat) (i_7 : Int) (l_1 : List Event) (c1 : Lin) (c2 : State) (c3 : State) : L_law27_LinDecodes_l7 m (n + 1) i_7 l_1 c1 c2 c3 = b_law27_LinDecodes_l7 m (fun x0 => some (w_law27_LinDecodes x0)) (fun i_7 l_1 c1 c2 c3 => L_law27_LinDecodes_l7 m n i_7 l_1 c1 c2 c3) i_7 l_1 c1 c2 c3 := by kernel_rfl
theorem b_law27_LinDecodes_l7_map (m : Nat) {k_l7 : Int → List Event → Lin → State → State → Option (List (RV C))} {q_l7 : Int → List Event → Lin → State → State → Option (Bool)} (h_l7 : ∀ i_7 l_1 c1 c2 c3, k_l7 i_7 l_1 c1 c2 c3 = (q_l7 i_7 l_1 c1 c2 c3).map w_law27_LinDecodes) (i_7 : Int) (l_1 : List Event) (c1 : Lin) (c2 : State) (c3 : State) : b_law27_LinDecodes_l7 m (fun x0 => some (w_law27_LinDecodes x0)) k_l7 i_7 l_1 c1 c2 c3 = (b_law27_LinDecodes_l7 m (fun x0 => some x0) q_l7 i_7 l_1 c1 c2 c3).map w_law27_LinDecodes := by
  simp only [b_law27_LinDecodes_l7, cond_map, bind_map, map_none, map_some, h_l7]
noncomputable def law27_LinDecodes_l7 (m : Nat) : Nat → Int → List Event → Lin → State → State → Option (Bool)
  | 0, _, _, _, _, _ => none
  | n + 1, i_7, l_1, c1, c2, c3 => b_law27_LinDecodes_l7 m (fun x0 => some x0) (fun i_7 l_1 c1 c2 c3 => law27_LinDecodes_l7 m n i_7 l_1 c1 c2 c3) i_7 l_1 c1 c2 c3
theorem L_law27_LinDecodes_l7_eq (m : Nat) : ∀ (n : Nat) (i_7 : Int) (l_1 : List Event) (c1 : Lin) (c2 : State) (c3 : State), L_law27_LinDecodes_l7 m n i_7 l_1 c1 c2 c3 = (law27_LinDecodes_l7 m n i_7 l_1 c1 c2 c3).map w_law27_LinDecodes
  | 0, i_7, l_1, c1, c2, c3 => by kernel_rfl
  | n + 1, i_7, l_1, c1, c2, c3 => by
    rw [L_law27_LinDecodes_l7_step]
    exact b_law27_LinDecodes_l7_map m (fun i_7 l_1 c1 c2 c3 => L_law27_LinDecodes_l7_eq m n i_7 l_1 c1 c2 c3) i_7 l_1 c1 c2 c3
noncomputable def b_law27_LinDecodes {R : Type} (m : Nat) (ret : Bool → Option R) (k_l7 : Int → List Event → Lin → State → State → Option R) (c_0 : Lin) (l_1 : List Event) : Option R :=
 (law27_lives m).bind fun r0 =>
 bif !r0 then
 ret false
 else
 bif decide ((l_1.length : Int) > 6000) then
 ret true
 else
 k_l7 0 l_1 c_0 (State.mk 0 0 0 0 0 0 0 (bs [])) (State.mk 0 0 0 0 0 0 0 (bs []))
theorem law27_LinDecodes_pre (m : Nat) (c_0 : Lin) (l_1 : List Event) : funK Try.prog (Ψ_law27_LinDecodes m) keep m 1 3 [(dS of_Lin cells_Lin of_Lin_ok).e c_0, (dRow 32).e l_1] = b_law27_LinDecodes m (fun x0 => some (w_law27_LinDecodes x0)) (fun i_7 l_1 c1 c2 c3 => L_law27_LinDecodes_l7 m m i_7 l_1 c1 c2 c3) c_0 l_1 := by kernel_rfl
theorem b_law27_LinDecodes_map (m : Nat) {k_l7 : Int → List Event → Lin → State → State → Option (List (RV C))} {q_l7 : Int → List Event → Lin → State → State → Option (Bool)} (h_l7 : ∀ i_7 l_1 c1 c2 c3, k_l7 i_7 l_1 c1 c2 c3 = (q_l7 i_7 l_1 c1 c2 c3).map w_law27_LinDecodes) (c_0 : Lin) (l_1 : List Event) : b_law27_LinDecodes m (fun x0 => some (w_law27_LinDecodes x0)) k_l7 c_0 l_1 = (b_law27_LinDecodes m (fun x0 => some x0) q_l7 c_0 l_1).map w_law27_LinDecodes := by
  simp only [b_law27_LinDecodes, cond_map, bind_map, map_none, map_some, h_l7]
noncomputable def law27_LinDecodes (m : Nat) (c_0 : Lin) (l_1 : List Event) : Option (Bool) := b_law27_LinDecodes m (fun x0 => some x0) (fun i_7 l_1 c1 c2 c3 => law27_LinDecodes_l7 m m i_7 l_1 c1 c2 c3) c_0 l_1
theorem law27_LinDecodes_fun (m : Nat) (c_0 : Lin) (l_1 : List Event) : funK Try.prog (Ψ_law27_LinDecodes m) keep m 1 3 [(dS of_Lin cells_Lin of_Lin_ok).e c_0, (dRow 32).e l_1] = (law27_LinDecodes m c_0 l_1).map w_law27_LinDecodes := by
  rw [law27_LinDecodes_pre]
  exact b_law27_LinDecodes_map m (fun i_7 l_1 c1 c2 c3 => L_law27_LinDecodes_l7_eq m m i_7 l_1 c1 c2 c3) c_0 l_1
noncomputable def K_law27_LinDecodes (m : Nat) : KnownF C := mkK (dCons (dS of_Lin cells_Lin of_Lin_ok) (dCons (dRow 32) dNil)) (fun a => law27_LinDecodes m a.1 a.2.1) w_law27_LinDecodes
theorem K_law27_LinDecodes_ok (m : Nat) : KnownAt C Try.prog 3 fun l => (K_law27_LinDecodes m).run _ l some :=
  mkK_known good fit (Ψ_law27_LinDecodes_ok m) (keep := keep) (m := m) (d := 1) fun a => law27_LinDecodes_fun m a.1 a.2.1
/-! ### signalbench/signalbenchlaw27.few -/
def w_law27_few (b : Bool) : List (RV C) := [dBool.e b]
noncomputable def Q_law27_few_5 (m : Nat) : St C → (Exit → St C → Option (List (RV C))) → Option (List (RV C)) := fun σ k => codeK Try.prog Ψ0 (callK Try.prog Ψ0 keep m 0) (keep 18) m (subC body18 [.r, .r, .r, .l, .r, .b, .o]) σ k
noncomputable def KL_law27_few_5 (m : Nat) : Exit → St C → Option (List (RV C)) := contK Try.prog Ψ0 (callK Try.prog Ψ0 keep m 0) (keep 18) m body18 [.r, .r, .r, .l, .r, .b, .o] (leaveK Try.prog Try.f18.results.toList (finK Try.prog Try.f18.resultTypes.toList))
noncomputable def L_law27_few_l5 (m n : Nat) (n_3 : Int) (i_4 : Int) (l_0 : List Item) : Option (List (RV C)) := iterK (Q_law27_few_5 m) (St.norm (keep 18 5)) n ({ T := [.fl (.one (.sl 0)), .dead, .dead, .fl (.one (.int .i64 n_3)), .fl (.one (.int .i64 i_4))] ++ List.replicate 19 .dead, F := [[]], H := [.row 45 false l_0] } : St C) (KL_law27_few_5 m)
noncomputable def b_law27_few_l5 {R : Type} (m : Nat) (ret : Bool → Option R) (k_l5 : Int → Int → List Item → Option R) (n_3 : Int) (i_4 : Int) (l_0 : List Item) : Option R :=
 bif decide (i_4 < (l_0.length : Int)) then
 bif decide (0 ≤ i_4) then
 bif decide (i_4 < (l_0.length : Int)) then
 bif decide (IntKind.i64.wrap (n_3 + ((l_0.getD i_4.toNat dflt_Item).Data.size : Int)) > 20000) then
 ret false
 else
 k_l5 (IntKind.i64.wrap (n_3 + ((l_0.getD i_4.toNat dflt_Item).Data.size : Int))) (IntKind.i64.wrap (i_4 + 1)) l_0
 else
 none
 else
 none
 else
 ret true
theorem L_law27_few_l5_step (m n : Nat) (n_3 : Int) (i_4 : Int) (l_0 : List Item) : L_law27_few_l5 m (n + 1) n_3 i_4 l_0 = b_law27_few_l5 m (fun x0 => some (w_law27_few x0)) (fun n_3 i_4 l_0 => L_law27_few_l5 m n n_3 i_4 l_0) n_3 i_4 l_0 := by kernel_rfl
theorem b_law27_few_l5_map (m : Nat) {k_l5 : Int → Int → List Item → Option (List (RV C))} {q_l5 : Int → Int → List Item → Option (Bool)} (h_l5 : ∀ n_3 i_4 l_0, k_l5 n_3 i_4 l_0 = (q_l5 n_3 i_4 l_0).map w_law27_few) (n_3 : Int) (i_4 : Int) (l_0 : List Item) : b_law27_few_l5 m (fun x0 => some (w_law27_few x0)) k_l5 n_3 i_4 l_0 = (b_law27_few_l5 m (fun x0 => some x0) q_l5 n_3 i_4 l_0).map w_law27_few := by
  simp only [b_law27_few_l5, cond_map, bind_map, map_none, map_some, h_l5]
noncomputable def law27_few_l5 (m : Nat) : Nat → Int → Int → List Item → Option (Bool)
  | 0, _, _, _ => none
  | n + 1, n_3, i_4, l_0 => b_law27_few_l5 m (fun x0 => some x0) (fun n_3 i_4 l_0 => law27_few_l5 m n n_3 i_4 l_0) n_3 i_4 l_0
theorem L_law27_few_l5_eq (m : Nat) : ∀ (n : Nat) (n_3 : Int) (i_4 : Int) (l_0 : List Item), L_law27_few_l5 m n n_3 i_4 l_0 = (law27_few_l5 m n n_3 i_4 l_0).map w_law27_few
  | 0, n_3, i_4, l_0 => by kernel_rfl
  | n + 1, n_3, i_4, l_0 => by
    rw [L_law27_few_l5_step]
    exact b_law27_few_l5_map m (fun n_3 i_4 l_0 => L_law27_few_l5_eq m n n_3 i_4 l_0) n_3 i_4 l_0
noncomputable def b_law27_few {R : Type} (m : Nat) (ret : Bool → Option R) (k_l5 : Int → Int → List Item → Option R) (l_0 : List Item) : Option R :=
 bif decide ((l_0.length : Int) > 1100) then
 ret false
 else
 k_l5 0 0 l_0
theorem law27_few_pre (m : Nat) (l_0 : List Item) : funK Try.prog Ψ0 keep m 1 18 [(dRow 45).e l_0] = b_law27_few m (fun x0 => some (w_law27_few x0)) (fun n_3 i_4 l_0 => L_law27_few_l5 m m n_3 i_4 l_0) l_0 := by kernel_rfl
theorem b_law27_few_map (m : Nat) {k_l5 : Int → Int → List Item → Option (List (RV C))} {q_l5 : Int → Int → List Item → Option (Bool)} (h_l5 : ∀ n_3 i_4 l_0, k_l5 n_3 i_4 l_0 = (q_l5 n_3 i_4 l_0).map w_law27_few) (l_0 : List Item) : b_law27_few m (fun x0 => some (w_law27_few x0)) k_l5 l_0 = (b_law27_few m (fun x0 => some x0) q_l5 l_0).map w_law27_few := by
  simp only [b_law27_few, cond_map, bind_map, map_none, map_some, h_l5]
noncomputable def law27_few (m : Nat) (l_0 : List Item) : Option (Bool) := b_law27_few m (fun x0 => some x0) (fun n_3 i_4 l_0 => law27_few_l5 m m n_3 i_4 l_0) l_0
theorem law27_few_fun (m : Nat) (l_0 : List Item) : funK Try.prog Ψ0 keep m 1 18 [(dRow 45).e l_0] = (law27_few m l_0).map w_law27_few := by
  rw [law27_few_pre]
  exact b_law27_few_map m (fun n_3 i_4 l_0 => L_law27_few_l5_eq m m n_3 i_4 l_0) l_0
noncomputable def K_law27_few (m : Nat) : KnownF C := mkK (dCons (dRow 45) dNil) (fun a => law27_few m a.1) w_law27_few
theorem K_law27_few_ok (m : Nat) : KnownAt C Try.prog 18 fun l => (K_law27_few m).run _ l some :=
  mkK_known good fit Ψ0_ok (keep := keep) (m := m) (d := 1) fun a => law27_few_fun m a.1
/-! ### signalbench/signalbenchlaw27.gaps -/
def w_law27_gaps (b : Bool) : List (RV C) := [dBool.e b]
noncomputable def Q_law27_gaps_4 (m : Nat) : St C → (Exit → St C → Option (List (RV C))) → Option (List (RV C)) := fun σ k => codeK Try.prog Ψ0 (callK Try.prog Ψ0 keep m 0) (keep 20) m (subC body20 [.r, .r, .l, .r, .b, .o]) σ k
noncomputable def KL_law27_gaps_4 (m : Nat) : Exit → St C → Option (List (RV C)) := contK Try.prog Ψ0 (callK Try.prog Ψ0 keep m 0) (keep 20) m body20 [.r, .r, .l, .r, .b, .o] (leaveK Try.prog Try.f20.results.toList (finK Try.prog Try.f20.resultTypes.toList))
noncomputable def L_law27_gaps_l4 (m n : Nat) (i_5 : Int) (l_0 : List Item) : Option (List (RV C)) := iterK (Q_law27_gaps_4 m) (St.norm (keep 20 4)) n ({ T := [.fl (.one (.sl 0)), .dead, .dead, .dead, .dead, .fl (.one (.int .i64 i_5))] ++ List.replicate 24 .dead, F := [[]], H := [.row 45 false l_0] } : St C) (KL_law27_gaps_4 m)
noncomputable def b_law27_gaps_l4 {R : Type} (m : Nat) (ret : Bool → Option R) (k_l4 : Int → List Item → Option R) (i_5 : Int) (l_0 : List Item) : Option R :=
 bif decide (i_5 < (l_0.length : Int)) then
 bif decide (0 ≤ i_5) then
 bif decide (i_5 < (l_0.length : Int)) then
 bif decide ((l_0.getD i_5.toNat dflt_Item).Gap < 0) then
 ret false
 else
 bif decide (0 ≤ i_5) then
 bif decide (i_5 < (l_0.length : Int)) then
 bif decide ((l_0.getD i_5.toNat dflt_Item).Gap > 1048576) then
 ret false
 else
 k_l4 (IntKind.i64.wrap (i_5 + 1)) l_0
 else
 none
 else
 none
 else
 none
 else
 none
 else
 ret true
theorem L_law27_gaps_l4_step (m n : Nat) (i_5 : Int) (l_0 : List Item) : L_law27_gaps_l4 m (n + 1) i_5 l_0 = b_law27_gaps_l4 m (fun x0 => some (w_law27_gaps x0)) (fun i_5 l_0 => L_law27_gaps_l4 m n i_5 l_0) i_5 l_0 := by kernel_rfl
theorem b_law27_gaps_l4_map (m : Nat) {k_l4 : Int → List Item → Option (List (RV C))} {q_l4 : Int → List Item → Option (Bool)} (h_l4 : ∀ i_5 l_0, k_l4 i_5 l_0 = (q_l4 i_5 l_0).map w_law27_gaps) (i_5 : Int) (l_0 : List Item) : b_law27_gaps_l4 m (fun x0 => some (w_law27_gaps x0)) k_l4 i_5 l_0 = (b_law27_gaps_l4 m (fun x0 => some x0) q_l4 i_5 l_0).map w_law27_gaps := by
  simp only [b_law27_gaps_l4, cond_map, bind_map, map_none, map_some, h_l4]
noncomputable def law27_gaps_l4 (m : Nat) : Nat → Int → List Item → Option (Bool)
  | 0, _, _ => none
  | n + 1, i_5, l_0 => b_law27_gaps_l4 m (fun x0 => some x0) (fun i_5 l_0 => law27_gaps_l4 m n i_5 l_0) i_5 l_0
theorem L_law27_gaps_l4_eq (m : Nat) : ∀ (n : Nat) (i_5 : Int) (l_0 : List Item), L_law27_gaps_l4 m n i_5 l_0 = (law27_gaps_l4 m n i_5 l_0).map w_law27_gaps
  | 0, i_5, l_0 => by kernel_rfl
  | n + 1, i_5, l_0 => by
    rw [L_law27_gaps_l4_step]
    exact b_law27_gaps_l4_map m (fun i_5 l_0 => L_law27_gaps_l4_eq m n i_5 l_0) i_5 l_0
noncomputable def b_law27_gaps {R : Type} (m : Nat) (ret : Bool → Option R) (k_l4 : Int → List Item → Option R) (l_0 : List Item) (most_1 : Int) : Option R :=
 bif decide ((l_0.length : Int) > most_1) then
 ret false
 else
 k_l4 0 l_0
theorem law27_gaps_pre (m : Nat) (l_0 : List Item) (most_1 : Int) : funK Try.prog Ψ0 keep m 1 20 [(dRow 45).e l_0, (dInt .i64).e most_1] = b_law27_gaps m (fun x0 => some (w_law27_gaps x0)) (fun i_5 l_0 => L_law27_gaps_l4 m m i_5 l_0) l_0 most_1 := by kernel_rfl
theorem b_law27_gaps_map (m : Nat) {k_l4 : Int → List Item → Option (List (RV C))} {q_l4 : Int → List Item → Option (Bool)} (h_l4 : ∀ i_5 l_0, k_l4 i_5 l_0 = (q_l4 i_5 l_0).map w_law27_gaps) (l_0 : List Item) (most_1 : Int) : b_law27_gaps m (fun x0 => some (w_law27_gaps x0)) k_l4 l_0 most_1 = (b_law27_gaps m (fun x0 => some x0) q_l4 l_0 most_1).map w_law27_gaps := by
  simp only [b_law27_gaps, cond_map, bind_map, map_none, map_some, h_l4]
noncomputable def law27_gaps (m : Nat) (l_0 : List Item) (most_1 : Int) : Option (Bool) := b_law27_gaps m (fun x0 => some x0) (fun i_5 l_0 => law27_gaps_l4 m m i_5 l_0) l_0 most_1
theorem law27_gaps_fun (m : Nat) (l_0 : List Item) (most_1 : Int) : funK Try.prog Ψ0 keep m 1 20 [(dRow 45).e l_0, (dInt .i64).e most_1] = (law27_gaps m l_0 most_1).map w_law27_gaps := by
  rw [law27_gaps_pre]
  exact b_law27_gaps_map m (fun i_5 l_0 => L_law27_gaps_l4_eq m m i_5 l_0) l_0 most_1
noncomputable def K_law27_gaps (m : Nat) : KnownF C := mkK (dCons (dRow 45) (dCons (dInt .i64) dNil)) (fun a => law27_gaps m a.1 a.2.1) w_law27_gaps
theorem K_law27_gaps_ok (m : Nat) : KnownAt C Try.prog 20 fun l => (K_law27_gaps m).run _ l some :=
  mkK_known good fit Ψ0_ok (keep := keep) (m := m) (d := 1) fun a => law27_gaps_fun m a.1 a.2.1
/-! ### signalbench/signalbenchlaw27.LinRoundTrips -/
noncomputable def Ψ_law27_LinRoundTrips (m : Nat) : Known C := fun f => match f with
  | 8 => some (K_law27_lives m)
  | 18 => some (K_law27_few m)
  | 19 => some (K_lin_Encode m)
  | 20 => some (K_law27_gaps m)
  | 21 => some (K_law27_events m)
  | 16 => some (K_lin_Decode m)
  | _ => none
theorem Ψ_law27_LinRoundTrips_ok (m : Nat) : KnownOk C Try.prog (Ψ_law27_LinRoundTrips m) := by
  intro f φ h
  unfold Ψ_law27_LinRoundTrips at h
  split at h
  · injection h with h; subst h; exact K_law27_lives_ok m
  · injection h with h; subst h; exact K_law27_few_ok m
  · injection h with h; subst h; exact K_lin_Encode_ok m
  · injection h with h; subst h; exact K_law27_gaps_ok m
  · injection h with h; subst h; exact K_law27_events_ok m
  · injection h with h; subst h; exact K_lin_Decode_ok m
  · cases h
def w_law27_LinRoundTrips (b : Bool) : List (RV C) := [dBool.e b]
noncomputable def Q_law27_LinRoundTrips_15 (m : Nat) : St C → (Exit → St C → Option (List (RV C))) → Option (List (RV C)) := fun σ k => codeK Try.prog (Ψ_law27_LinRoundTrips m) (callK Try.prog (Ψ_law27_LinRoundTrips m) keep m 0) (keep 4) m (subC body4 [.r, .r, .r, .r, .r, .r, .r, .r, .r, .l, .r, .b, .o]) σ k
noncomputable def KL_law27_LinRoundTrips_15 (m : Nat) : Exit → St C → Option (List (RV C)) := contK Try.prog (Ψ_law27_LinRoundTrips m) (callK Try.prog (Ψ_law27_LinRoundTrips m) keep m 0) (keep 4) m body4 [.r, .r, .r, .r, .r, .r, .r, .r, .r, .l, .r, .b, .o] (leaveK Try.prog Try.f4.results.toList (finK Try.prog Try.f4.resultTypes.toList))
noncomputable def L_law27_LinRoundTrips_l15 (m n : Nat) (ticks_2 : Int) (at_10 : Int) (i_11 : Int) (l_1 : List Item) (out_9 : List Event) : Option (List (RV C)) := iterK (Q_law27_LinRoundTrips_15 m) (St.norm (keep 4 15)) n ({ T := [.dead, .fl (.one (.sl 0)), .fl (.one (.int .i64 ticks_2)), .dead, .dead, .dead, .dead, .dead, .dead, .fl (.one (.sl 1)), .fl (.one (.int .i64 at_10)), .fl (.one (.int .i64 i_11))] ++ List.replicate 89 .dead, F := [[]], H := [.row 45 false l_1, .row 32 true out_9] } : St C) (KL_law27_LinRoundTrips_15 m)
noncomputable def b_law27_LinRoundTrips_l15 {R : Type} (m : Nat) (ret : Bool → Option R) (k_l15 : Int → Int → Int → List Item → List Event → Option R) (ticks_2 : Int) (at_10 : Int) (i_11 : Int) (l_1 : List Item) (out_9 : List Event) : Option R :=
 bif decide (i_11 < (l_1.length : Int)) then
 bif decide (0 ≤ i_11) then
 bif decide (i_11 < (l_1.length : Int)) then
 bif decide (0 ≤ i_11) then
 bif decide (i_11 < (l_1.length : Int)) then
 bif decide (0 ≤ i_11) then
 bif decide (i_11 < (out_9.length : Int)) then
 bif decide (0 ≤ i_11) then
 bif decide (i_11 < (l_1.length : Int)) then
 bif decide (0 ≤ i_11) then
 bif decide (i_11 < (l_1.length : Int)) then
 bif decide (0 ≤ i_11) then
 bif decide (i_11 < (l_1.length : Int)) then
 bif !((out_9.getD i_11.toNat dflt_Event).Kind == 5 && ((out_9.getD i_11.toNat dflt_Event).From == IntKind.i64.wrap (at_10 + (l_1.getD i_11.toNat dflt_Item).Gap) && ((out_9.getD i_11.toNat dflt_Event).To == IntKind.i64.wrap (IntKind.i64.wrap (at_10 + (l_1.getD i_11.toNat dflt_Item).Gap) + IntKind.i64.wrap (ticks_2 * IntKind.i64.wrap (((l_1.getD i_11.toNat dflt_Item).Data.size : Int) + 4))) && ((out_9.getD i_11.toNat dflt_Event).Value == (l_1.getD i_11.toNat dflt_Item).Value && ((out_9.getD i_11.toNat dflt_Event).Aux == 0 && ((out_9.getD i_11.toNat dflt_Event).Data == (l_1.getD i_11.toNat dflt_Item).Data && ((out_9.getD i_11.toNat dflt_Event).Fault == (l_1.getD i_11.toNat dflt_Item).Fault && true))))))) then
 ret false
 else
 k_l15 ticks_2 (IntKind.i64.wrap (IntKind.i64.wrap (at_10 + (l_1.getD i_11.toNat dflt_Item).Gap) + IntKind.i64.wrap (ticks_2 * IntKind.i64.wrap (((l_1.getD i_11.toNat dflt_Item).Data.size : Int) + 4)))) (IntKind.i64.wrap (i_11 + 1)) l_1 out_9
 else
 none
 else
 none
 else
 none
 else
 none
 else
 none
 else
 none
 else
 none
 else
 none
 else
 none
 else
 none
 else
 none
 else
 none
 else
 ret true
theorem L_law27_LinRoundTrips_l15_step (m n : Nat) (ticks_2 : Int) (at_10 : Int) (i_11 : Int) (l_1 : List Item) (out_9 : List Event) : L_law27_LinRoundTrips_l15 m (n + 1) ticks_2 at_10 i_11 l_1 out_9 = b_law27_LinRoundTrips_l15 m (fun x0 => some (w_law27_LinRoundTrips x0)) (fun ticks_2 at_10 i_11 l_1 out_9 => L_law27_LinRoundTrips_l15 m n ticks_2 at_10 i_11 l_1 out_9) ticks_2 at_10 i_11 l_1 out_9 := by kernel_rfl
theorem b_law27_LinRoundTrips_l15_map (m : Nat) {k_l15 : Int → Int → Int → List Item → List Event → Option (List (RV C))} {q_l15 : Int → Int → Int → List Item → List Event → Option (Bool)} (h_l15 : ∀ ticks_2 at_10 i_11 l_1 out_9, k_l15 ticks_2 at_10 i_11 l_1 out_9 = (q_l15 ticks_2 at_10 i_11 l_1 out_9).map w_law27_LinRoundTrips) (ticks_2 : Int) (at_10 : Int) (i_11 : Int) (l_1 : List Item) (out_9 : List Event) : b_law27_LinRoundTrips_l15 m (fun x0 => some (w_law27_LinRoundTrips x0)) k_l15 ticks_2 at_10 i_11 l_1 out_9 = (b_law27_LinRoundTrips_l15 m (fun x0 => some x0) q_l15 ticks_2 at_10 i_11 l_1 out_9).map w_law27_LinRoundTrips := by
  simp only [b_law27_LinRoundTrips_l15, cond_map, bind_map, map_none, map_some, h_l15]
noncomputable def law27_LinRoundTrips_l15 (m : Nat) : Nat → Int → Int → Int → List Item → List Event → Option (Bool)
  | 0, _, _, _, _, _ => none
  | n + 1, ticks_2, at_10, i_11, l_1, out_9 => b_law27_LinRoundTrips_l15 m (fun x0 => some x0) (fun ticks_2 at_10 i_11 l_1 out_9 => law27_LinRoundTrips_l15 m n ticks_2 at_10 i_11 l_1 out_9) ticks_2 at_10 i_11 l_1 out_9
theorem L_law27_LinRoundTrips_l15_eq (m : Nat) : ∀ (n : Nat) (ticks_2 : Int) (at_10 : Int) (i_11 : Int) (l_1 : List Item) (out_9 : List Event), L_law27_LinRoundTrips_l15 m n ticks_2 at_10 i_11 l_1 out_9 = (law27_LinRoundTrips_l15 m n ticks_2 at_10 i_11 l_1 out_9).map w_law27_LinRoundTrips
  | 0, ticks_2, at_10, i_11, l_1, out_9 => by kernel_rfl
  | n + 1, ticks_2, at_10, i_11, l_1, out_9 => by
    rw [L_law27_LinRoundTrips_l15_step]
    exact b_law27_LinRoundTrips_l15_map m (fun ticks_2 at_10 i_11 l_1 out_9 => L_law27_LinRoundTrips_l15_eq m n ticks_2 at_10 i_11 l_1 out_9) ticks_2 at_10 i_11 l_1 out_9
noncomputable def b_law27_LinRoundTrips {R : Type} (m : Nat) (ret : Bool → Option R) (k_l15 : Int → Int → Int → List Item → List Event → Option R) (c_0 : Lin) (l_1 : List Item) (ticks_2 : Int) : Option R :=
 (law27_lives m).bind fun r0 =>
 bif !r0 then
 ret false
 else
 (law27_few m l_1).bind fun r1 =>
 bif !r1 then
 ret true
 else
 bif decide (ticks_2 < 1) then
 ret true
 else
 bif decide (ticks_2 > 1000) then
 ret true
 else
 (lin_Encode m c_0 l_1).bind fun r2 =>
 bif r2.snd != 0 then
 ret ((r2.fst.length : Int) == 0)
 else
 (law27_gaps m r2.fst (IntKind.i64.wrap (12 * (l_1.length : Int)))).bind fun r3 =>
 bif !r3 then
 ret false
 else
 (law27_events m r2.fst ticks_2).bind fun r4 =>
 (lin_Decode m c_0 r4).bind fun r5 =>
 bif (r5.length : Int) != (l_1.length : Int) then
 ret false
 else
 k_l15 ticks_2 0 0 l_1 r5
theorem law27_LinRoundTrips_pre (m : Nat) (c_0 : Lin) (l_1 : List Item) (ticks_2 : Int) : funK Try.prog (Ψ_law27_LinRoundTrips m) keep m 1 4 [(dS of_Lin cells_Lin of_Lin_ok).e c_0, (dRow 45).e l_1, (dInt .i64).e ticks_2] = b_law27_LinRoundTrips m (fun x0 => some (w_law27_LinRoundTrips x0)) (fun ticks_2 at_10 i_11 l_1 out_9 => L_law27_LinRoundTrips_l15 m m ticks_2 at_10 i_11 l_1 out_9) c_0 l_1 ticks_2 := by kernel_rfl
theorem b_law27_LinRoundTrips_map (m : Nat) {k_l15 : Int → Int → Int → List Item → List Event → Option (List (RV C))} {q_l15 : Int → Int → Int → List Item → List Event → Option (Bool)} (h_l15 : ∀ ticks_2 at_10 i_11 l_1 out_9, k_l15 ticks_2 at_10 i_11 l_1 out_9 = (q_l15 ticks_2 at_10 i_11 l_1 out_9).map w_law27_LinRoundTrips) (c_0 : Lin) (l_1 : List Item) (ticks_2 : Int) : b_law27_LinRoundTrips m (fun x0 => some (w_law27_LinRoundTrips x0)) k_l15 c_0 l_1 ticks_2 = (b_law27_LinRoundTrips m (fun x0 => some x0) q_l15 c_0 l_1 ticks_2).map w_law27_LinRoundTrips := by
  simp only [b_law27_LinRoundTrips, cond_map, bind_map, map_none, map_some, h_l15]
noncomputable def law27_LinRoundTrips (m : Nat) (c_0 : Lin) (l_1 : List Item) (ticks_2 : Int) : Option (Bool) := b_law27_LinRoundTrips m (fun x0 => some x0) (fun ticks_2 at_10 i_11 l_1 out_9 => law27_LinRoundTrips_l15 m m ticks_2 at_10 i_11 l_1 out_9) c_0 l_1 ticks_2
theorem law27_LinRoundTrips_fun (m : Nat) (c_0 : Lin) (l_1 : List Item) (ticks_2 : Int) : funK Try.prog (Ψ_law27_LinRoundTrips m) keep m 1 4 [(dS of_Lin cells_Lin of_Lin_ok).e c_0, (dRow 45).e l_1, (dInt .i64).e ticks_2] = (law27_LinRoundTrips m c_0 l_1 ticks_2).map w_law27_LinRoundTrips := by
  rw [law27_LinRoundTrips_pre]
  exact b_law27_LinRoundTrips_map m (fun ticks_2 at_10 i_11 l_1 out_9 => L_law27_LinRoundTrips_l15_eq m m ticks_2 at_10 i_11 l_1 out_9) c_0 l_1 ticks_2
noncomputable def K_law27_LinRoundTrips (m : Nat) : KnownF C := mkK (dCons (dS of_Lin cells_Lin of_Lin_ok) (dCons (dRow 45) (dCons (dInt .i64) dNil))) (fun a => law27_LinRoundTrips m a.1 a.2.1 a.2.2.1) w_law27_LinRoundTrips
theorem K_law27_LinRoundTrips_ok (m : Nat) : KnownAt C Try.prog 4 fun l => (K_law27_LinRoundTrips m).run _ l some :=
  mkK_known good fit (Ψ_law27_LinRoundTrips_ok m) (keep := keep) (m := m) (d := 1) fun a => law27_LinRoundTrips_fun m a.1 a.2.1 a.2.2.1
/-! ### signalbench/signalbenchlaw27.LinProtects -/
noncomputable def Ψ_law27_LinProtects (m : Nat) : Known C := fun f => match f with
  | 8 => some (K_law27_lives m)
  | 19 => some (K_lin_Encode m)
  | 20 => some (K_law27_gaps m)
  | 21 => some (K_law27_events m)
  | 16 => some (K_lin_Decode m)
  | _ => none
theorem Ψ_law27_LinProtects_ok (m : Nat) : KnownOk C Try.prog (Ψ_law27_LinProtects m) := by
  intro f φ h
  unfold Ψ_law27_LinProtects at h
  split at h
  · injection h with h; subst h; exact K_law27_lives_ok m
  · injection h with h; subst h; exact K_lin_Encode_ok m
  · injection h with h; subst h; exact K_law27_gaps_ok m
  · injection h with h; subst h; exact K_law27_events_ok m
  · injection h with h; subst h; exact K_lin_Decode_ok m
  · cases h
def w_law27_LinProtects (b : Bool) : List (RV C) := [dBool.e b]
noncomputable def b_law27_LinProtects {R : Type} (m : Nat) (ret : Bool → Option R) (c_0 : Lin) (id_1 : Int) (data_2 : ByteArray) (at_3 : Int) (bit_4 : Int) : Option R :=
 (law27_lives m).bind fun r0 =>
 bif !r0 then
 ret false
 else
 bif decide (id_1 < 0) then
 ret true
 else
 bif decide (id_1 > 63) then
 ret true
 else
 bif decide ((data_2.size : Int) < 1) then
 ret true
 else
 bif decide ((data_2.size : Int) > 8) then
 ret true
 else
 bif decide (at_3 < 2) then
 ret true
 else
 bif decide (at_3 > IntKind.i64.wrap ((data_2.size : Int) + 3)) then
 ret true
 else
 bif decide (bit_4 < 0) then
 ret true
 else
 bif decide (bit_4 > 7) then
 ret true
 else
 (lin_Encode m c_0 [Item.mk 0 id_1 0 data_2 0]).bind fun r1 =>
 bif r1.snd != 0 then
 ret false
 else
 (law27_gaps m r1.fst 12).bind fun r2 =>
 bif !r2 then
 ret false
 else
 bif (r1.fst.length : Int) != IntKind.i64.wrap ((data_2.size : Int) + 4) then
 ret false
 else
 (law27_events m r1.fst 1).bind fun r3 =>
 bif decide (0 ≤ at_3) then
 (bif decide (at_3 < (r3.length : Int)) then
 (bif decide ((r3.getD at_3.toNat dflt_Event).Value < 0) then
 ret false
 else
 bif decide (0 ≤ at_3) then
 (bif decide (at_3 < (r3.length : Int)) then
 (bif decide ((r3.getD at_3.toNat dflt_Event).Value > 255) then
 ret false
 else
 bif decide (0 ≤ at_3) then
 (bif decide (at_3 < (r3.length : Int)) then
 (bif decide (bit_4 < 0) then
 none
 else
 bif decide (0 ≤ at_3) then
 (bif decide (at_3 < (r3.length : Int)) then
 ((lin_Decode m c_0 (r3.set at_3.toNat (Event.mk (r3.getD at_3.toNat dflt_Event).Kind (r3.getD at_3.toNat dflt_Event).From (r3.getD at_3.toNat dflt_Event).To (IntKind.i64.wrap (((BitVec.ofInt 64 (r3.getD at_3.toNat dflt_Event).Value ^^^ BitVec.ofInt 64 (IntKind.i64.wrap (1 * 2 ^ min bit_4.toNat 64))).toNat : Int))) (r3.getD at_3.toNat dflt_Event).Aux (r3.getD at_3.toNat dflt_Event).Data (r3.getD at_3.toNat dflt_Event).Fault))).bind fun r4 =>
 bif (r4.length : Int) == 1 then
 bif decide (0 < (r4.length : Int)) then
 bif (r4.getD 0 dflt_Event).Fault != 0 then
 bif decide (0 < (r4.length : Int)) then
 bif (r4.getD 0 dflt_Event).Fault != 8 then
 bif decide (0 < (r4.length : Int)) then
 ret ((r4.getD 0 dflt_Event).Fault != 7)
 else
 none
 else
 ret false
 else
 none
 else
 ret false
 else
 none
 else
 ret false)
 else
 none)
 else
 none)
 else
 none)
 else
 none)
 else
 none)
 else
 none)
 else
 none)
 else
 none
theorem law27_LinProtects_pre (m : Nat) (c_0 : Lin) (id_1 : Int) (data_2 : ByteArray) (at_3 : Int) (bit_4 : Int) : funK Try.prog (Ψ_law27_LinProtects m) keep m 1 5 [(dS of_Lin cells_Lin of_Lin_ok).e c_0, (dInt .i64).e id_1, dStr.e data_2, (dInt .i64).e at_3, (dInt .i64).e bit_4] = b_law27_LinProtects m (fun x0 => some (w_law27_LinProtects x0)) c_0 id_1 data_2 at_3 bit_4 := by kernel_rfl
theorem b_law27_LinProtects_map (m : Nat) (c_0 : Lin) (id_1 : Int) (data_2 : ByteArray) (at_3 : Int) (bit_4 : Int) : b_law27_LinProtects m (fun x0 => some (w_law27_LinProtects x0)) c_0 id_1 data_2 at_3 bit_4 = (b_law27_LinProtects m (fun x0 => some x0) c_0 id_1 data_2 at_3 bit_4).map w_law27_LinProtects := by
  simp only [b_law27_LinProtects, cond_map, bind_map, map_none, map_some]
noncomputable def law27_LinProtects (m : Nat) (c_0 : Lin) (id_1 : Int) (data_2 : ByteArray) (at_3 : Int) (bit_4 : Int) : Option (Bool) := b_law27_LinProtects m (fun x0 => some x0) c_0 id_1 data_2 at_3 bit_4
theorem law27_LinProtects_fun (m : Nat) (c_0 : Lin) (id_1 : Int) (data_2 : ByteArray) (at_3 : Int) (bit_4 : Int) : funK Try.prog (Ψ_law27_LinProtects m) keep m 1 5 [(dS of_Lin cells_Lin of_Lin_ok).e c_0, (dInt .i64).e id_1, dStr.e data_2, (dInt .i64).e at_3, (dInt .i64).e bit_4] = (law27_LinProtects m c_0 id_1 data_2 at_3 bit_4).map w_law27_LinProtects := by
  rw [law27_LinProtects_pre]
  exact b_law27_LinProtects_map m c_0 id_1 data_2 at_3 bit_4
noncomputable def K_law27_LinProtects (m : Nat) : KnownF C := mkK (dCons (dS of_Lin cells_Lin of_Lin_ok) (dCons (dInt .i64) (dCons dStr (dCons (dInt .i64) (dCons (dInt .i64) dNil))))) (fun a => law27_LinProtects m a.1 a.2.1 a.2.2.1 a.2.2.2.1 a.2.2.2.2.1) w_law27_LinProtects
theorem K_law27_LinProtects_ok (m : Nat) : KnownAt C Try.prog 5 fun l => (K_law27_LinProtects m).run _ l some :=
  mkK_known good fit (Ψ_law27_LinProtects_ok m) (keep := keep) (m := m) (d := 1) fun a => law27_LinProtects_fun m a.1 a.2.1 a.2.2.1 a.2.2.2.1 a.2.2.2.2.1
/-! ### signalbench/signalbenchlaw27.LinSeparates -/
noncomputable def Ψ_law27_LinSeparates (m : Nat) : Known C := fun f => match f with
  | 8 => some (K_law27_lives m)
  | 21 => some (K_law27_events m)
  | 16 => some (K_lin_Decode m)
  | _ => none
theorem Ψ_law27_LinSeparates_ok (m : Nat) : KnownOk C Try.prog (Ψ_law27_LinSeparates m) := by
  intro f φ h
  unfold Ψ_law27_LinSeparates at h
  split at h
  · injection h with h; subst h; exact K_law27_lives_ok m
  · injection h with h; subst h; exact K_law27_events_ok m
  · injection h with h; subst h; exact K_lin_Decode_ok m
  · cases h
def w_law27_LinSeparates (b : Bool) : List (RV C) := [dBool.e b]
noncomputable def Q_law27_LinSeparates_7 (m : Nat) : St C → (Exit → St C → Option (List (RV C))) → Option (List (RV C)) := fun σ k => codeK Try.prog (Ψ_law27_LinSeparates m) (callK Try.prog (Ψ_law27_LinSeparates m) keep m 0) (keep 6) m (subC body6 [.r, .r, .r, .r, .l, .r, .b, .o]) σ k
noncomputable def KL_law27_LinSeparates_7 (m : Nat) : Exit → St C → Option (List (RV C)) := contK Try.prog (Ψ_law27_LinSeparates m) (callK Try.prog (Ψ_law27_LinSeparates m) keep m 0) (keep 6) m body6 [.r, .r, .r, .r, .l, .r, .b, .o] (leaveK Try.prog Try.f6.results.toList (finK Try.prog Try.f6.resultTypes.toList))
noncomputable def Q_law27_LinSeparates_11 (m : Nat) : St C → (Exit → St C → Option (List (RV C))) → Option (List (RV C)) := fun σ k => codeK Try.prog (Ψ_law27_LinSeparates m) (callK Try.prog (Ψ_law27_LinSeparates m) keep m 0) (keep 6) m (subC body6 [.r, .r, .r, .r, .r, .l, .r, .b, .o]) σ k
noncomputable def KL_law27_LinSeparates_11 (m : Nat) : Exit → St C → Option (List (RV C)) := contK Try.prog (Ψ_law27_LinSeparates m) (callK Try.prog (Ψ_law27_LinSeparates m) keep m 0) (keep 6) m body6 [.r, .r, .r, .r, .r, .l, .r, .b, .o] (leaveK Try.prog Try.f6.results.toList (finK Try.prog Try.f6.resultTypes.toList))
noncomputable def L_law27_LinSeparates_l7 (m n : Nat) (a_1 : ByteArray) (b_2 : ByteArray) (i_9 : Int) (c0 : Lin) (x_7 : List Item) (y_8 : List Item) : Option (List (RV C)) := iterK (Q_law27_LinSeparates_7 m) (St.norm (keep 6 7)) n ({ T := [.dead, .fl (.one (.str a_1)), .fl (.one (.str b_2)), .fl (.one (.ptr 0 0)), .dead, .dead, .dead, .fl (.one (.sl 1)), .fl (.one (.sl 2)), .fl (.one (.int .i64 i_9))] ++ List.replicate 105 .dead, F := [[]], H := [.box 23 (cells_Lin c0), .row 45 true x_7, .row 45 true y_8] } : St C) (KL_law27_LinSeparates_7 m)
noncomputable def L_law27_LinSeparates_l11 (m n : Nat) (b_2 : ByteArray) (i_10 : Int) (c0 : Lin) (x_7 : List Item) (y_8 : List Item) : Option (List (RV C)) := iterK (Q_law27_LinSeparates_11 m) (St.norm (keep 6 11)) n ({ T := [.dead, .dead, .fl (.one (.str b_2)), .fl (.one (.ptr 0 0)), .dead, .dead, .dead, .fl (.one (.sl 1)), .fl (.one (.sl 2)), .dead, .fl (.one (.int .i64 i_10))] ++ List.replicate 104 .dead, F := [[]], H := [.box 23 (cells_Lin c0), .row 45 true x_7, .row 45 true y_8] } : St C) (KL_law27_LinSeparates_11 m)
noncomputable def b_law27_LinSeparates_l11 {R : Type} (m : Nat) (ret : Bool → Option R) (k_l11 : ByteArray → Int → Lin → List Item → List Item → Option R) (b_2 : ByteArray) (i_10 : Int) (c0 : Lin) (x_7 : List Item) (y_8 : List Item) : Option R :=
 bif decide (i_10 < (b_2.size : Int)) then
 bif decide (0 ≤ i_10) then
 bif decide (i_10 < (b_2.size : Int)) then
 bif decide ((y_8.length + 1) * 48 ≤ 140737488355328) then
 k_l11 b_2 (IntKind.i64.wrap (i_10 + 1)) c0 x_7 (y_8 ++ [Item.mk 0 (IntKind.i64.wrap (byteAt b_2 i_10)) 0 (bs []) 0])
 else
 none
 else
 none
 else
 none
 else
 (law27_events m x_7 1).bind fun r0 =>
 (lin_Decode m c0 r0).bind fun r1 =>
 (law27_events m y_8 1).bind fun r2 =>
 (lin_Decode m c0 r2).bind fun r3 =>
 bif decide ((0 + x_7.length) * 48 ≤ 140737488355328) then
 (bif decide ((([] ++ x_7).length + y_8.length) * 48 ≤ 140737488355328) then
 ((law27_events m ([] ++ x_7 ++ y_8) 1).bind fun r4 =>
 (lin_Decode m c0 r4).bind fun r5 =>
 bif (r1.length : Int) != 1 then
 ret false
 else
 bif (r3.length : Int) != 1 then
 ret false
 else
 bif (r5.length : Int) != 2 then
 ret false
 else
 bif decide (0 < (r5.length : Int)) then
 bif decide (0 < (r1.length : Int)) then
 bif !((r5.getD 0 dflt_Event).Kind == (r1.getD 0 dflt_Event).Kind && ((r5.getD 0 dflt_Event).From == (r1.getD 0 dflt_Event).From && ((r5.getD 0 dflt_Event).To == (r1.getD 0 dflt_Event).To && ((r5.getD 0 dflt_Event).Value == (r1.getD 0 dflt_Event).Value && ((r5.getD 0 dflt_Event).Aux == (r1.getD 0 dflt_Event).Aux && ((r5.getD 0 dflt_Event).Data == (r1.getD 0 dflt_Event).Data && ((r5.getD 0 dflt_Event).Fault == (r1.getD 0 dflt_Event).Fault && true))))))) then
 ret false
 else
 bif decide (0 < (r3.length : Int)) then
 bif decide (1 < (r5.length : Int)) then
 ret ((r5.getD 1 dflt_Event).Kind == (r3.getD 0 dflt_Event).Kind && ((r5.getD 1 dflt_Event).From == IntKind.i64.wrap ((r3.getD 0 dflt_Event).From + (x_7.length : Int)) && ((r5.getD 1 dflt_Event).To == IntKind.i64.wrap ((r3.getD 0 dflt_Event).To + (x_7.length : Int)) && ((r5.getD 1 dflt_Event).Value == (r3.getD 0 dflt_Event).Value && ((r5.getD 1 dflt_Event).Aux == (r3.getD 0 dflt_Event).Aux && ((r5.getD 1 dflt_Event).Data == (r3.getD 0 dflt_Event).Data && ((r5.getD 1 dflt_Event).Fault == (r3.getD 0 dflt_Event).Fault && true)))))))
 else
 none
 else
 none
 else
 none
 else
 none)
 else
 none)
 else
 none
theorem L_law27_LinSeparates_l11_step (m n : Nat) (b_2 : ByteArray) (i_10 : Int) (c0 : Lin) (x_7 : List Item) (y_8 : List Item) : L_law27_LinSeparates_l11 m (n + 1) b_2 i_10 c0 x_7 y_8 = b_law27_LinSeparates_l11 m (fun x0 => some (w_law27_LinSeparates x0)) (fun b_2 i_10 c0 x_7 y_8 => L_law27_LinSeparates_l11 m n b_2 i_10 c0 x_7 y_8) b_2 i_10 c0 x_7 y_8 := by kernel_rfl
theorem b_law27_LinSeparates_l11_map (m : Nat) {k_l11 : ByteArray → Int → Lin → List Item → List Item → Option (List (RV C))} {q_l11 : ByteArray → Int → Lin → List Item → List Item → Option (Bool)} (h_l11 : ∀ b_2 i_10 c0 x_7 y_8, k_l11 b_2 i_10 c0 x_7 y_8 = (q_l11 b_2 i_10 c0 x_7 y_8).map w_law27_LinSeparates) (b_2 : ByteArray) (i_10 : Int) (c0 : Lin) (x_7 : List Item) (y_8 : List Item) : b_law27_LinSeparates_l11 m (fun x0 => some (w_law27_LinSeparates x0)) k_l11 b_2 i_10 c0 x_7 y_8 = (b_law27_LinSeparates_l11 m (fun x0 => some x0) q_l11 b_2 i_10 c0 x_7 y_8).map w_law27_LinSeparates := by
  simp only [b_law27_LinSeparates_l11, cond_map, bind_map, map_none, map_some, h_l11]
noncomputable def law27_LinSeparates_l11 (m : Nat) : Nat → ByteArray → Int → Lin → List Item → List Item → Option (Bool)
  | 0, _, _, _, _, _ => none
  | n + 1, b_2, i_10, c0, x_7, y_8 => b_law27_LinSeparates_l11 m (fun x0 => some x0) (fun b_2 i_10 c0 x_7 y_8 => law27_LinSeparates_l11 m n b_2 i_10 c0 x_7 y_8) b_2 i_10 c0 x_7 y_8
theorem L_law27_LinSeparates_l11_eq (m : Nat) : ∀ (n : Nat) (b_2 : ByteArray) (i_10 : Int) (c0 : Lin) (x_7 : List Item) (y_8 : List Item), L_law27_LinSeparates_l11 m n b_2 i_10 c0 x_7 y_8 = (law27_LinSeparates_l11 m n b_2 i_10 c0 x_7 y_8).map w_law27_LinSeparates
  | 0, b_2, i_10, c0, x_7, y_8 => by kernel_rfl
  | n + 1, b_2, i_10, c0, x_7, y_8 => by
    rw [L_law27_LinSeparates_l11_step]
    exact b_law27_LinSeparates_l11_map m (fun b_2 i_10 c0 x_7 y_8 => L_law27_LinSeparates_l11_eq m n b_2 i_10 c0 x_7 y_8) b_2 i_10 c0 x_7 y_8
noncomputable def b_law27_LinSeparates_l7 {R : Type} (m : Nat) (ret : Bool → Option R) (k_l7 : ByteArray → ByteArray → Int → Lin → List Item → List Item → Option R) (k_l11 : ByteArray → Int → Lin → List Item → List Item → Option R) (a_1 : ByteArray) (b_2 : ByteArray) (i_9 : Int) (c0 : Lin) (x_7 : List Item) (y_8 : List Item) : Option R :=
 bif decide (i_9 < (a_1.size : Int)) then
 bif decide (0 ≤ i_9) then
 bif decide (i_9 < (a_1.size : Int)) then
 bif decide ((x_7.length + 1) * 48 ≤ 140737488355328) then
 k_l7 a_1 b_2 (IntKind.i64.wrap (i_9 + 1)) c0 (x_7 ++ [Item.mk 0 (IntKind.i64.wrap (byteAt a_1 i_9)) 0 (bs []) 0]) y_8
 else
 none
 else
 none
 else
 none
 else
 k_l11 b_2 0 c0 x_7 y_8
theorem L_law27_LinSeparates_l7_step (m n : Nat) (a_1 : ByteArray) (b_2 : ByteArray) (i_9 : Int) (c0 : Lin) (x_7 : List Item) (y_8 : List Item) : L_law27_LinSeparates_l7 m (n + 1) a_1 b_2 i_9 c0 x_7 y_8 = b_law27_LinSeparates_l7 m (fun x0 => some (w_law27_LinSeparates x0)) (fun a_1 b_2 i_9 c0 x_7 y_8 => L_law27_LinSeparates_l7 m n a_1 b_2 i_9 c0 x_7 y_8) (fun b_2 i_10 c0 x_7 y_8 => L_law27_LinSeparates_l11 m m b_2 i_10 c0 x_7 y_8) a_1 b_2 i_9 c0 x_7 y_8 := by kernel_rfl
theorem b_law27_LinSeparates_l7_map (m : Nat) {k_l7 : ByteArray → ByteArray → Int → Lin → List Item → List Item → Option (List (RV C))} {q_l7 : ByteArray → ByteArray → Int → Lin → List Item → List Item → Option (Bool)} (h_l7 : ∀ a_1 b_2 i_9 c0 x_7 y_8, k_l7 a_1 b_2 i_9 c0 x_7 y_8 = (q_l7 a_1 b_2 i_9 c0 x_7 y_8).map w_law27_LinSeparates) {k_l11 : ByteArray → Int → Lin → List Item → List Item → Option (List (RV C))} {q_l11 : ByteArray → Int → Lin → List Item → List Item → Option (Bool)} (h_l11 : ∀ b_2 i_10 c0 x_7 y_8, k_l11 b_2 i_10 c0 x_7 y_8 = (q_l11 b_2 i_10 c0 x_7 y_8).map w_law27_LinSeparates) (a_1 : ByteArray) (b_2 : ByteArray) (i_9 : Int) (c0 : Lin) (x_7 : List Item) (y_8 : List Item) : b_law27_LinSeparates_l7 m (fun x0 => some (w_law27_LinSeparates x0)) k_l7 k_l11 a_1 b_2 i_9 c0 x_7 y_8 = (b_law27_LinSeparates_l7 m (fun x0 => some x0) q_l7 q_l11 a_1 b_2 i_9 c0 x_7 y_8).map w_law27_LinSeparates := by
  simp only [b_law27_LinSeparates_l7, cond_map, bind_map, map_none, map_some, h_l7, h_l11]
noncomputable def law27_LinSeparates_l7 (m : Nat) : Nat → ByteArray → ByteArray → Int → Lin → List Item → List Item → Option (Bool)
  | 0, _, _, _, _, _, _ => none
  | n + 1, a_1, b_2, i_9, c0, x_7, y_8 => b_law27_LinSeparates_l7 m (fun x0 => some x0) (fun a_1 b_2 i_9 c0 x_7 y_8 => law27_LinSeparates_l7 m n a_1 b_2 i_9 c0 x_7 y_8) (fun b_2 i_10 c0 x_7 y_8 => law27_LinSeparates_l11 m m b_2 i_10 c0 x_7 y_8) a_1 b_2 i_9 c0 x_7 y_8
theorem L_law27_LinSeparates_l7_eq (m : Nat) : ∀ (n : Nat) (a_1 : ByteArray) (b_2 : ByteArray) (i_9 : Int) (c0 : Lin) (x_7 : List Item) (y_8 : List Item), L_law27_LinSeparates_l7 m n a_1 b_2 i_9 c0 x_7 y_8 = (law27_LinSeparates_l7 m n a_1 b_2 i_9 c0 x_7 y_8).map w_law27_LinSeparates
  | 0, a_1, b_2, i_9, c0, x_7, y_8 => by kernel_rfl
  | n + 1, a_1, b_2, i_9, c0, x_7, y_8 => by
    rw [L_law27_LinSeparates_l7_step]
    exact b_law27_LinSeparates_l7_map m (fun a_1 b_2 i_9 c0 x_7 y_8 => L_law27_LinSeparates_l7_eq m n a_1 b_2 i_9 c0 x_7 y_8) (fun b_2 i_10 c0 x_7 y_8 => L_law27_LinSeparates_l11_eq m m b_2 i_10 c0 x_7 y_8) a_1 b_2 i_9 c0 x_7 y_8
noncomputable def b_law27_LinSeparates {R : Type} (m : Nat) (ret : Bool → Option R) (k_l7 : ByteArray → ByteArray → Int → Lin → List Item → List Item → Option R) (c_0 : Lin) (a_1 : ByteArray) (b_2 : ByteArray) : Option R :=
 (law27_lives m).bind fun r0 =>
 bif !r0 then
 ret false
 else
 bif decide ((a_1.size : Int) > 2000) then
 ret true
 else
 bif decide ((b_2.size : Int) > 2000) then
 ret true
 else
 k_l7 a_1 b_2 0 c_0 ([Item.mk 0 0 1 (bs []) 0]) ([Item.mk 0 0 1 (bs []) 0])
theorem law27_LinSeparates_pre (m : Nat) (c_0 : Lin) (a_1 : ByteArray) (b_2 : ByteArray) : funK Try.prog (Ψ_law27_LinSeparates m) keep m 1 6 [(dS of_Lin cells_Lin of_Lin_ok).e c_0, dStr.e a_1, dStr.e b_2] = b_law27_LinSeparates m (fun x0 => some (w_law27_LinSeparates x0)) (fun a_1 b_2 i_9 c0 x_7 y_8 => L_law27_LinSeparates_l7 m m a_1 b_2 i_9 c0 x_7 y_8) c_0 a_1 b_2 := by kernel_rfl
theorem b_law27_LinSeparates_map (m : Nat) {k_l7 : ByteArray → ByteArray → Int → Lin → List Item → List Item → Option (List (RV C))} {q_l7 : ByteArray → ByteArray → Int → Lin → List Item → List Item → Option (Bool)} (h_l7 : ∀ a_1 b_2 i_9 c0 x_7 y_8, k_l7 a_1 b_2 i_9 c0 x_7 y_8 = (q_l7 a_1 b_2 i_9 c0 x_7 y_8).map w_law27_LinSeparates) (c_0 : Lin) (a_1 : ByteArray) (b_2 : ByteArray) : b_law27_LinSeparates m (fun x0 => some (w_law27_LinSeparates x0)) k_l7 c_0 a_1 b_2 = (b_law27_LinSeparates m (fun x0 => some x0) q_l7 c_0 a_1 b_2).map w_law27_LinSeparates := by
  simp only [b_law27_LinSeparates, cond_map, bind_map, map_none, map_some, h_l7]
noncomputable def law27_LinSeparates (m : Nat) (c_0 : Lin) (a_1 : ByteArray) (b_2 : ByteArray) : Option (Bool) := b_law27_LinSeparates m (fun x0 => some x0) (fun a_1 b_2 i_9 c0 x_7 y_8 => law27_LinSeparates_l7 m m a_1 b_2 i_9 c0 x_7 y_8) c_0 a_1 b_2
theorem law27_LinSeparates_fun (m : Nat) (c_0 : Lin) (a_1 : ByteArray) (b_2 : ByteArray) : funK Try.prog (Ψ_law27_LinSeparates m) keep m 1 6 [(dS of_Lin cells_Lin of_Lin_ok).e c_0, dStr.e a_1, dStr.e b_2] = (law27_LinSeparates m c_0 a_1 b_2).map w_law27_LinSeparates := by
  rw [law27_LinSeparates_pre]
  exact b_law27_LinSeparates_map m (fun a_1 b_2 i_9 c0 x_7 y_8 => L_law27_LinSeparates_l7_eq m m a_1 b_2 i_9 c0 x_7 y_8) c_0 a_1 b_2
noncomputable def K_law27_LinSeparates (m : Nat) : KnownF C := mkK (dCons (dS of_Lin cells_Lin of_Lin_ok) (dCons dStr (dCons dStr dNil))) (fun a => law27_LinSeparates m a.1 a.2.1 a.2.2.1) w_law27_LinSeparates
theorem K_law27_LinSeparates_ok (m : Nat) : KnownAt C Try.prog 6 fun l => (K_law27_LinSeparates m).run _ l some :=
  mkK_known good fit (Ψ_law27_LinSeparates_ok m) (keep := keep) (m := m) (d := 1) fun a => law27_LinSeparates_fun m a.1 a.2.1 a.2.2.1
/-! ### signalbench/signalbenchref27.item -/
def w_ref27_item (b : Int) : List (RV C) := [(dInt .i64).e b]
noncomputable def b_ref27_item {R : Type} (m : Nat) (ret : Int → Option R) (x_0 : Item) : Option R :=
 bif decide (x_0.Gap < 0) then
 ret 1
 else
 bif decide (x_0.Gap > 1048576) then
 ret 1
 else
 bif decide ((x_0.Data.size : Int) > 4096) then
 ret 6
 else
 bif decide (x_0.Value < 0) then
 ret 2
 else
 bif decide (x_0.Value > 63) then
 ret 2
 else
 bif decide ((x_0.Data.size : Int) < 1) then
 ret 2
 else
 bif decide ((x_0.Data.size : Int) > 8) then
 ret 2
 else
 bif x_0.Fault != 0 then
 bif x_0.Fault != 1 then
 bif x_0.Fault != 2 then
 bif x_0.Fault != 3 then
 ret 1
 else
 bif x_0.Aux != 0 then
 ret 1
 else
 ret 0
 else
 bif x_0.Aux != 0 then
 ret 1
 else
 ret 0
 else
 bif x_0.Aux != 0 then
 ret 1
 else
 ret 0
 else
 bif x_0.Aux != 0 then
 ret 1
 else
 ret 0
theorem ref27_item_pre (m : Nat) (x_0 : Item) : funK Try.prog Ψ0 keep m 1 31 [(dS of_Item cells_Item of_Item_ok).e x_0] = b_ref27_item m (fun x0 => some (w_ref27_item x0)) x_0 := by kernel_rfl
theorem b_ref27_item_map (m : Nat) (x_0 : Item) : b_ref27_item m (fun x0 => some (w_ref27_item x0)) x_0 = (b_ref27_item m (fun x0 => some x0) x_0).map w_ref27_item := by
  simp only [b_ref27_item, cond_map, bind_map, map_none, map_some]
noncomputable def ref27_item (m : Nat) (x_0 : Item) : Option (Int) := b_ref27_item m (fun x0 => some x0) x_0
theorem ref27_item_fun (m : Nat) (x_0 : Item) : funK Try.prog Ψ0 keep m 1 31 [(dS of_Item cells_Item of_Item_ok).e x_0] = (ref27_item m x_0).map w_ref27_item := by
  rw [ref27_item_pre]
  exact b_ref27_item_map m x_0
noncomputable def K_ref27_item (m : Nat) : KnownF C := mkK (dCons (dS of_Item cells_Item of_Item_ok) dNil) (fun a => ref27_item m a.1) w_ref27_item
theorem K_ref27_item_ok (m : Nat) : KnownAt C Try.prog 31 fun l => (K_ref27_item m).run _ l some :=
  mkK_known good fit Ψ0_ok (keep := keep) (m := m) (d := 1) fun a => ref27_item_fun m a.1
/-! ### signalbench/signalbenchref27.Encode -/
noncomputable def Ψ_ref27_Encode (m : Nat) : Known C := fun f => match f with
  | 31 => some (K_ref27_item m)
  | 32 => some (K_ref27_Protect m)
  | 33 => some (K_ref27_sum m)
  | _ => none
theorem Ψ_ref27_Encode_ok (m : Nat) : KnownOk C Try.prog (Ψ_ref27_Encode m) := by
  intro f φ h
  unfold Ψ_ref27_Encode at h
  split at h
  · injection h with h; subst h; exact K_ref27_item_ok m
  · injection h with h; subst h; exact K_ref27_Protect_ok m
  · injection h with h; subst h; exact K_ref27_sum_ok m
  · cases h
def w_ref27_Encode (b : List Item × Int) : List (RV C) := [(dRow 45).e b.1, (dInt .i64).e b.2]
noncomputable def Q_ref27_Encode_5 (m : Nat) : St C → (Exit → St C → Option (List (RV C))) → Option (List (RV C)) := fun σ k => codeK Try.prog (Ψ_ref27_Encode m) (callK Try.prog (Ψ_ref27_Encode m) keep m 0) (keep 22) m (subC body22 [.r, .r, .r, .l, .r, .b, .o]) σ k
noncomputable def KL_ref27_Encode_5 (m : Nat) : Exit → St C → Option (List (RV C)) := contK Try.prog (Ψ_ref27_Encode m) (callK Try.prog (Ψ_ref27_Encode m) keep m 0) (keep 22) m body22 [.r, .r, .r, .l, .r, .b, .o] (leaveK Try.prog Try.f22.results.toList (finK Try.prog Try.f22.resultTypes.toList))
noncomputable def Q_ref27_Encode_21 (m : Nat) : St C → (Exit → St C → Option (List (RV C))) → Option (List (RV C)) := fun σ k => codeK Try.prog (Ψ_ref27_Encode m) (callK Try.prog (Ψ_ref27_Encode m) keep m 0) (keep 22) m (subC (subC body22 [.r, .r, .r, .l, .r, .b, .o]) [.r, .l, .b, .r, .r, .r, .r, .r, .r, .r, .r, .l, .r, .b, .o]) σ k
noncomputable def KL_ref27_Encode_21 (m : Nat) (n5 : Nat) : Exit → St C → Option (List (RV C)) := contK Try.prog (Ψ_ref27_Encode m) (callK Try.prog (Ψ_ref27_Encode m) keep m 0) (keep 22) m (subC body22 [.r, .r, .r, .l, .r, .b, .o]) [.r, .l, .b, .r, .r, .r, .r, .r, .r, .r, .r, .l, .r, .b, .o] (rndK (Q_ref27_Encode_5 m) (St.norm (keep 22 5)) n5 (KL_ref27_Encode_5 m))
noncomputable def L_ref27_Encode_l5 (m n : Nat) (i_7 : Int) (l_1 : List Item) (c1 : Lin) (out_6 : List Item) : Option (List (RV C)) := iterK (Q_ref27_Encode_5 m) (St.norm (keep 22 5)) n ({ T := [.dead, .fl (.one (.sl 0)), .fl (.one (.ptr 1 0)), .dead, .dead, .dead, .fl (.one (.sl 2)), .fl (.one (.int .i64 i_7))] ++ List.replicate 78 .dead, F := [[]], H := [.row 45 false l_1, .box 23 (cells_Lin c1), .row 45 true out_6] } : St C) (KL_ref27_Encode_5 m)
noncomputable def L_ref27_Encode_l21 (m n5 n : Nat) (i_7 : Int) (check_12 : Int) (k_13 : Int) (l_1 : List Item) (c1 : Lin) (out_6 : List Item) (c3 : Item) : Option (List (RV C)) := iterK (Q_ref27_Encode_21 m) (St.norm (keep 22 21)) n ({ T := [.dead, .fl (.one (.sl 0)), .fl (.one (.ptr 1 0)), .dead, .dead, .dead, .fl (.one (.sl 2)), .fl (.one (.int .i64 i_7)), .fl (.one (.ptr 3 0)), .dead, .dead, .dead, .fl (.one (.int .i64 check_12)), .fl (.one (.int .i64 k_13))] ++ List.replicate 72 .dead, F := [[]], H := [.row 45 false l_1, .box 23 (cells_Lin c1), .row 45 true out_6, .box 45 (cells_Item c3)] } : St C) (KL_ref27_Encode_21 m n5)
noncomputable def b_ref27_Encode_l21 {R : Type} (m : Nat) (ret : List Item → Int → Option R) (k_l21 : Int → Int → Int → List Item → Lin → List Item → Item → Option R) (k_l5 : Int → List Item → Lin → List Item → Option R) (i_7 : Int) (check_12 : Int) (k_13 : Int) (l_1 : List Item) (c1 : Lin) (out_6 : List Item) (c3 : Item) : Option R :=
 bif decide (k_13 < (c3.Data.size : Int)) then
 bif decide (0 ≤ k_13) then
 bif decide (k_13 < (c3.Data.size : Int)) then
 bif decide ((out_6.length + 1) * 48 ≤ 140737488355328) then
 k_l21 i_7 check_12 (IntKind.i64.wrap (k_13 + 1)) l_1 c1 (out_6 ++ [Item.mk 0 (IntKind.i64.wrap (byteAt c3.Data k_13)) 0 (bs []) 0]) c3
 else
 none
 else
 none
 else
 none
 else
 bif decide ((out_6.length + 1) * 48 ≤ 140737488355328) then
 k_l5 (IntKind.i64.wrap (i_7 + 1)) l_1 c1 (out_6 ++ [Item.mk 0 check_12 0 (bs []) 0])
 else
 none
theorem L_ref27_Encode_l21_step (m n5 n : Nat) (i_7 : Int) (check_12 : Int) (k_13 : Int) (l_1 : List Item) (c1 : Lin) (out_6 : List Item) (c3 : Item) : L_ref27_Encode_l21 m n5 (n + 1) i_7 check_12 k_13 l_1 c1 out_6 c3 = b_ref27_Encode_l21 m (fun x0 x1 => some (w_ref27_Encode (x0, x1))) (fun i_7 check_12 k_13 l_1 c1 out_6 c3 => L_ref27_Encode_l21 m n5 n i_7 check_12 k_13 l_1 c1 out_6 c3) (fun i_7 l_1 c1 out_6 => L_ref27_Encode_l5 m n5 i_7 l_1 c1 out_6) i_7 check_12 k_13 l_1 c1 out_6 c3 := by kernel_rfl
theorem b_ref27_Encode_l21_map (m : Nat) {k_l21 : Int → Int → Int → List Item → Lin → List Item → Item → Option (List (RV C))} {q_l21 : Int → Int → Int → List Item → Lin → List Item → Item → Option (List Item × Int)} (h_l21 : ∀ i_7 check_12 k_13 l_1 c1 out_6 c3, k_l21 i_7 check_12 k_13 l_1 c1 out_6 c3 = (q_l21 i_7 check_12 k_13 l_1 c1 out_6 c3).map w_ref27_Encode) {k_l5 : Int → List Item → Lin → List Item → Option (List (RV C))} {q_l5 : Int → List Item → Lin → List Item → Option (List Item × Int)} (h_l5 : ∀ i_7 l_1 c1 out_6, k_l5 i_7 l_1 c1 out_6 = (q_l5 i_7 l_1 c1 out_6).map w_ref27_Encode) (i_7 : Int) (check_12 : Int) (k_13 : Int) (l_1 : List Item) (c1 : Lin) (out_6 : List Item) (c3 : Item) : b_ref27_Encode_l21 m (fun x0 x1 => some (w_ref27_Encode (x0, x1))) k_l21 k_l5 i_7 check_12 k_13 l_1 c1 out_6 c3 = (b_ref27_Encode_l21 m (fun x0 x1 => some (x0, x1)) q_l21 q_l5 i_7 check_12 k_13 l_1 c1 out_6 c3).map w_ref27_Encode := by
  simp only [b_ref27_Encode_l21, cond_map, bind_map, map_none, map_some, h_l21, h_l5]
noncomputable def ref27_Encode_l21 (m : Nat) (q_l5 : Int → List Item → Lin → List Item → Option (List Item × Int)) : Nat → Int → Int → Int → List Item → Lin → List Item → Item → Option (List Item × Int)
  | 0, _, _, _, _, _, _, _ => none
  | n + 1, i_7, check_12, k_13, l_1, c1, out_6, c3 => b_ref27_Encode_l21 m (fun x0 x1 => some (x0, x1)) (fun i_7 check_12 k_13 l_1 c1 out_6 c3 => ref27_Encode_l21 m q_l5 n i_7 check_12 k_13 l_1 c1 out_6 c3) q_l5 i_7 check_12 k_13 l_1 c1 out_6 c3
theorem L_ref27_Encode_l21_eq (m n5 : Nat) (q_l5 : Int → List Item → Lin → List Item → Option (List Item × Int)) (h_l5 : ∀ i_7 l_1 c1 out_6, L_ref27_Encode_l5 m n5 i_7 l_1 c1 out_6 = (q_l5 i_7 l_1 c1 out_6).map w_ref27_Encode) : ∀ (n : Nat) (i_7 : Int) (check_12 : Int) (k_13 : Int) (l_1 : List Item) (c1 : Lin) (out_6 : List Item) (c3 : Item), L_ref27_Encode_l21 m n5 n i_7 check_12 k_13 l_1 c1 out_6 c3 = (ref27_Encode_l21 m q_l5 n i_7 check_12 k_13 l_1 c1 out_6 c3).map w_ref27_Encode
  | 0, i_7, check_12, k_13, l_1, c1, out_6, c3 => by kernel_rfl
  | n + 1, i_7, check_12, k_13, l_1, c1, out_6, c3 => by
    rw [L_ref27_Encode_l21_step]
    exact b_ref27_Encode_l21_map m (fun i_7 check_12 k_13 l_1 c1 out_6 c3 => L_ref27_Encode_l21_eq m n5 q_l5 h_l5 n i_7 check_12 k_13 l_1 c1 out_6 c3) h_l5 i_7 check_12 k_13 l_1 c1 out_6 c3
noncomputable def b_ref27_Encode_l5 {R : Type} (m : Nat) (ret : List Item → Int → Option R) (k_l21 : Int → Int → Int → List Item → Lin → List Item → Item → Option R) (i_7 : Int) (l_1 : List Item) (c1 : Lin) (out_6 : List Item) : Option R :=
 bif decide (i_7 < (l_1.length : Int)) then
 (bif decide (0 ≤ i_7) then
 (bif decide (i_7 < (l_1.length : Int)) then
 ((ref27_item m (l_1.getD i_7.toNat dflt_Item)).bind fun r0 =>
 bif r0 != 0 then
 ret [] r0
 else
 bif (l_1.getD i_7.toNat dflt_Item).Fault == 1 then
 (bif (l_1.getD i_7.toNat dflt_Item).Fault == 2 then
 ((ref27_sum m c1 (IntKind.i64.wrap (((BitVec.ofInt 64 (IntKind.i64.wrap (IntKind.i64.wrap ((l_1.getD i_7.toNat dflt_Item).Value + IntKind.i64.wrap (64 * IntKind.i64.wrap (((BitVec.ofInt 64 (IntKind.i64.wrap (((BitVec.ofInt 64 (IntKind.i64.wrap (((BitVec.ofInt 64 (IntKind.i64.wrap (((BitVec.ofInt 64 ((l_1.getD i_7.toNat dflt_Item).Value.fdiv 1) &&& BitVec.ofInt 64 1).toNat : Int))) ^^^ BitVec.ofInt 64 (IntKind.i64.wrap (((BitVec.ofInt 64 ((l_1.getD i_7.toNat dflt_Item).Value.fdiv 2) &&& BitVec.ofInt 64 1).toNat : Int)))).toNat : Int))) ^^^ BitVec.ofInt 64 (IntKind.i64.wrap (((BitVec.ofInt 64 ((l_1.getD i_7.toNat dflt_Item).Value.fdiv 4) &&& BitVec.ofInt 64 1).toNat : Int)))).toNat : Int))) ^^^ BitVec.ofInt 64 (IntKind.i64.wrap (((BitVec.ofInt 64 ((l_1.getD i_7.toNat dflt_Item).Value.fdiv 16) &&& BitVec.ofInt 64 1).toNat : Int)))).toNat : Int)))) + IntKind.i64.wrap (128 * IntKind.i64.wrap (((BitVec.ofInt 64 (IntKind.i64.wrap (((BitVec.ofInt 64 (IntKind.i64.wrap (((BitVec.ofInt 64 (IntKind.i64.wrap (1 - IntKind.i64.wrap (((BitVec.ofInt 64 ((l_1.getD i_7.toNat dflt_Item).Value.fdiv 2) &&& BitVec.ofInt 64 1).toNat : Int)))) ^^^ BitVec.ofInt 64 (IntKind.i64.wrap (((BitVec.ofInt 64 ((l_1.getD i_7.toNat dflt_Item).Value.fdiv 8) &&& BitVec.ofInt 64 1).toNat : Int)))).toNat : Int))) ^^^ BitVec.ofInt 64 (IntKind.i64.wrap (((BitVec.ofInt 64 ((l_1.getD i_7.toNat dflt_Item).Value.fdiv 16) &&& BitVec.ofInt 64 1).toNat : Int)))).toNat : Int))) ^^^ BitVec.ofInt 64 (IntKind.i64.wrap (((BitVec.ofInt 64 ((l_1.getD i_7.toNat dflt_Item).Value.fdiv 32) &&& BitVec.ofInt 64 1).toNat : Int)))).toNat : Int))))) ^^^ BitVec.ofInt 64 64).toNat : Int))) (l_1.getD i_7.toNat dflt_Item).Data).bind fun r1 =>
 bif (l_1.getD i_7.toNat dflt_Item).Fault == 3 then
 bif decide ((out_6.length + 3) * 48 ≤ 140737488355328) then
 k_l21 i_7 (IntKind.i64.wrap (((BitVec.ofInt 64 r1 ^^^ BitVec.ofInt 64 1).toNat : Int))) 0 l_1 c1 (out_6 ++ [Item.mk (l_1.getD i_7.toNat dflt_Item).Gap 0 1 (bs []) 0, Item.mk 0 84 0 (bs []) 0, Item.mk 0 (IntKind.i64.wrap (((BitVec.ofInt 64 (IntKind.i64.wrap (IntKind.i64.wrap ((l_1.getD i_7.toNat dflt_Item).Value + IntKind.i64.wrap (64 * IntKind.i64.wrap (((BitVec.ofInt 64 (IntKind.i64.wrap (((BitVec.ofInt 64 (IntKind.i64.wrap (((BitVec.ofInt 64 (IntKind.i64.wrap (((BitVec.ofInt 64 ((l_1.getD i_7.toNat dflt_Item).Value.fdiv 1) &&& BitVec.ofInt 64 1).toNat : Int))) ^^^ BitVec.ofInt 64 (IntKind.i64.wrap (((BitVec.ofInt 64 ((l_1.getD i_7.toNat dflt_Item).Value.fdiv 2) &&& BitVec.ofInt 64 1).toNat : Int)))).toNat : Int))) ^^^ BitVec.ofInt 64 (IntKind.i64.wrap (((BitVec.ofInt 64 ((l_1.getD i_7.toNat dflt_Item).Value.fdiv 4) &&& BitVec.ofInt 64 1).toNat : Int)))).toNat : Int))) ^^^ BitVec.ofInt 64 (IntKind.i64.wrap (((BitVec.ofInt 64 ((l_1.getD i_7.toNat dflt_Item).Value.fdiv 16) &&& BitVec.ofInt 64 1).toNat : Int)))).toNat : Int)))) + IntKind.i64.wrap (128 * IntKind.i64.wrap (((BitVec.ofInt 64 (IntKind.i64.wrap (((BitVec.ofInt 64 (IntKind.i64.wrap (((BitVec.ofInt 64 (IntKind.i64.wrap (1 - IntKind.i64.wrap (((BitVec.ofInt 64 ((l_1.getD i_7.toNat dflt_Item).Value.fdiv 2) &&& BitVec.ofInt 64 1).toNat : Int)))) ^^^ BitVec.ofInt 64 (IntKind.i64.wrap (((BitVec.ofInt 64 ((l_1.getD i_7.toNat dflt_Item).Value.fdiv 8) &&& BitVec.ofInt 64 1).toNat : Int)))).toNat : Int))) ^^^ BitVec.ofInt 64 (IntKind.i64.wrap (((BitVec.ofInt 64 ((l_1.getD i_7.toNat dflt_Item).Value.fdiv 16) &&& BitVec.ofInt 64 1).toNat : Int)))).toNat : Int))) ^^^ BitVec.ofInt 64 (IntKind.i64.wrap (((BitVec.ofInt 64 ((l_1.getD i_7.toNat dflt_Item).Value.fdiv 32) &&& BitVec.ofInt 64 1).toNat : Int)))).toNat : Int))))) ^^^ BitVec.ofInt 64 64).toNat : Int))) 0 (bs []) 0]) (l_1.getD i_7.toNat dflt_Item)
 else
 none
 else
 bif decide ((out_6.length + 3) * 48 ≤ 140737488355328) then
 k_l21 i_7 r1 0 l_1 c1 (out_6 ++ [Item.mk (l_1.getD i_7.toNat dflt_Item).Gap 0 1 (bs []) 0, Item.mk 0 84 0 (bs []) 0, Item.mk 0 (IntKind.i64.wrap (((BitVec.ofInt 64 (IntKind.i64.wrap (IntKind.i64.wrap ((l_1.getD i_7.toNat dflt_Item).Value + IntKind.i64.wrap (64 * IntKind.i64.wrap (((BitVec.ofInt 64 (IntKind.i64.wrap (((BitVec.ofInt 64 (IntKind.i64.wrap (((BitVec.ofInt 64 (IntKind.i64.wrap (((BitVec.ofInt 64 ((l_1.getD i_7.toNat dflt_Item).Value.fdiv 1) &&& BitVec.ofInt 64 1).toNat : Int))) ^^^ BitVec.ofInt 64 (IntKind.i64.wrap (((BitVec.ofInt 64 ((l_1.getD i_7.toNat dflt_Item).Value.fdiv 2) &&& BitVec.ofInt 64 1).toNat : Int)))).toNat : Int))) ^^^ BitVec.ofInt 64 (IntKind.i64.wrap (((BitVec.ofInt 64 ((l_1.getD i_7.toNat dflt_Item).Value.fdiv 4) &&& BitVec.ofInt 64 1).toNat : Int)))).toNat : Int))) ^^^ BitVec.ofInt 64 (IntKind.i64.wrap (((BitVec.ofInt 64 ((l_1.getD i_7.toNat dflt_Item).Value.fdiv 16) &&& BitVec.ofInt 64 1).toNat : Int)))).toNat : Int)))) + IntKind.i64.wrap (128 * IntKind.i64.wrap (((BitVec.ofInt 64 (IntKind.i64.wrap (((BitVec.ofInt 64 (IntKind.i64.wrap (((BitVec.ofInt 64 (IntKind.i64.wrap (1 - IntKind.i64.wrap (((BitVec.ofInt 64 ((l_1.getD i_7.toNat dflt_Item).Value.fdiv 2) &&& BitVec.ofInt 64 1).toNat : Int)))) ^^^ BitVec.ofInt 64 (IntKind.i64.wrap (((BitVec.ofInt 64 ((l_1.getD i_7.toNat dflt_Item).Value.fdiv 8) &&& BitVec.ofInt 64 1).toNat : Int)))).toNat : Int))) ^^^ BitVec.ofInt 64 (IntKind.i64.wrap (((BitVec.ofInt 64 ((l_1.getD i_7.toNat dflt_Item).Value.fdiv 16) &&& BitVec.ofInt 64 1).toNat : Int)))).toNat : Int))) ^^^ BitVec.ofInt 64 (IntKind.i64.wrap (((BitVec.ofInt 64 ((l_1.getD i_7.toNat dflt_Item).Value.fdiv 32) &&& BitVec.ofInt 64 1).toNat : Int)))).toNat : Int))))) ^^^ BitVec.ofInt 64 64).toNat : Int))) 0 (bs []) 0]) (l_1.getD i_7.toNat dflt_Item)
 else
 none)
 else
 (ref27_sum m c1 (IntKind.i64.wrap (IntKind.i64.wrap ((l_1.getD i_7.toNat dflt_Item).Value + IntKind.i64.wrap (64 * IntKind.i64.wrap (((BitVec.ofInt 64 (IntKind.i64.wrap (((BitVec.ofInt 64 (IntKind.i64.wrap (((BitVec.ofInt 64 (IntKind.i64.wrap (((BitVec.ofInt 64 ((l_1.getD i_7.toNat dflt_Item).Value.fdiv 1) &&& BitVec.ofInt 64 1).toNat : Int))) ^^^ BitVec.ofInt 64 (IntKind.i64.wrap (((BitVec.ofInt 64 ((l_1.getD i_7.toNat dflt_Item).Value.fdiv 2) &&& BitVec.ofInt 64 1).toNat : Int)))).toNat : Int))) ^^^ BitVec.ofInt 64 (IntKind.i64.wrap (((BitVec.ofInt 64 ((l_1.getD i_7.toNat dflt_Item).Value.fdiv 4) &&& BitVec.ofInt 64 1).toNat : Int)))).toNat : Int))) ^^^ BitVec.ofInt 64 (IntKind.i64.wrap (((BitVec.ofInt 64 ((l_1.getD i_7.toNat dflt_Item).Value.fdiv 16) &&& BitVec.ofInt 64 1).toNat : Int)))).toNat : Int)))) + IntKind.i64.wrap (128 * IntKind.i64.wrap (((BitVec.ofInt 64 (IntKind.i64.wrap (((BitVec.ofInt 64 (IntKind.i64.wrap (((BitVec.ofInt 64 (IntKind.i64.wrap (1 - IntKind.i64.wrap (((BitVec.ofInt 64 ((l_1.getD i_7.toNat dflt_Item).Value.fdiv 2) &&& BitVec.ofInt 64 1).toNat : Int)))) ^^^ BitVec.ofInt 64 (IntKind.i64.wrap (((BitVec.ofInt 64 ((l_1.getD i_7.toNat dflt_Item).Value.fdiv 8) &&& BitVec.ofInt 64 1).toNat : Int)))).toNat : Int))) ^^^ BitVec.ofInt 64 (IntKind.i64.wrap (((BitVec.ofInt 64 ((l_1.getD i_7.toNat dflt_Item).Value.fdiv 16) &&& BitVec.ofInt 64 1).toNat : Int)))).toNat : Int))) ^^^ BitVec.ofInt 64 (IntKind.i64.wrap (((BitVec.ofInt 64 ((l_1.getD i_7.toNat dflt_Item).Value.fdiv 32) &&& BitVec.ofInt 64 1).toNat : Int)))).toNat : Int))))) (l_1.getD i_7.toNat dflt_Item).Data).bind fun r2 =>
 bif (l_1.getD i_7.toNat dflt_Item).Fault == 3 then
 bif decide ((out_6.length + 3) * 48 ≤ 140737488355328) then
 k_l21 i_7 (IntKind.i64.wrap (((BitVec.ofInt 64 r2 ^^^ BitVec.ofInt 64 1).toNat : Int))) 0 l_1 c1 (out_6 ++ [Item.mk (l_1.getD i_7.toNat dflt_Item).Gap 0 1 (bs []) 0, Item.mk 0 84 0 (bs []) 0, Item.mk 0 (IntKind.i64.wrap (IntKind.i64.wrap ((l_1.getD i_7.toNat dflt_Item).Value + IntKind.i64.wrap (64 * IntKind.i64.wrap (((BitVec.ofInt 64 (IntKind.i64.wrap (((BitVec.ofInt 64 (IntKind.i64.wrap (((BitVec.ofInt 64 (IntKind.i64.wrap (((BitVec.ofInt 64 ((l_1.getD i_7.toNat dflt_Item).Value.fdiv 1) &&& BitVec.ofInt 64 1).toNat : Int))) ^^^ BitVec.ofInt 64 (IntKind.i64.wrap (((BitVec.ofInt 64 ((l_1.getD i_7.toNat dflt_Item).Value.fdiv 2) &&& BitVec.ofInt 64 1).toNat : Int)))).toNat : Int))) ^^^ BitVec.ofInt 64 (IntKind.i64.wrap (((BitVec.ofInt 64 ((l_1.getD i_7.toNat dflt_Item).Value.fdiv 4) &&& BitVec.ofInt 64 1).toNat : Int)))).toNat : Int))) ^^^ BitVec.ofInt 64 (IntKind.i64.wrap (((BitVec.ofInt 64 ((l_1.getD i_7.toNat dflt_Item).Value.fdiv 16) &&& BitVec.ofInt 64 1).toNat : Int)))).toNat : Int)))) + IntKind.i64.wrap (128 * IntKind.i64.wrap (((BitVec.ofInt 64 (IntKind.i64.wrap (((BitVec.ofInt 64 (IntKind.i64.wrap (((BitVec.ofInt 64 (IntKind.i64.wrap (1 - IntKind.i64.wrap (((BitVec.ofInt 64 ((l_1.getD i_7.toNat dflt_Item).Value.fdiv 2) &&& BitVec.ofInt 64 1).toNat : Int)))) ^^^ BitVec.ofInt 64 (IntKind.i64.wrap (((BitVec.ofInt 64 ((l_1.getD i_7.toNat dflt_Item).Value.fdiv 8) &&& BitVec.ofInt 64 1).toNat : Int)))).toNat : Int))) ^^^ BitVec.ofInt 64 (IntKind.i64.wrap (((BitVec.ofInt 64 ((l_1.getD i_7.toNat dflt_Item).Value.fdiv 16) &&& BitVec.ofInt 64 1).toNat : Int)))).toNat : Int))) ^^^ BitVec.ofInt 64 (IntKind.i64.wrap (((BitVec.ofInt 64 ((l_1.getD i_7.toNat dflt_Item).Value.fdiv 32) &&& BitVec.ofInt 64 1).toNat : Int)))).toNat : Int))))) 0 (bs []) 0]) (l_1.getD i_7.toNat dflt_Item)
 else
 none
 else
 bif decide ((out_6.length + 3) * 48 ≤ 140737488355328) then
 k_l21 i_7 r2 0 l_1 c1 (out_6 ++ [Item.mk (l_1.getD i_7.toNat dflt_Item).Gap 0 1 (bs []) 0, Item.mk 0 84 0 (bs []) 0, Item.mk 0 (IntKind.i64.wrap (IntKind.i64.wrap ((l_1.getD i_7.toNat dflt_Item).Value + IntKind.i64.wrap (64 * IntKind.i64.wrap (((BitVec.ofInt 64 (IntKind.i64.wrap (((BitVec.ofInt 64 (IntKind.i64.wrap (((BitVec.ofInt 64 (IntKind.i64.wrap (((BitVec.ofInt 64 ((l_1.getD i_7.toNat dflt_Item).Value.fdiv 1) &&& BitVec.ofInt 64 1).toNat : Int))) ^^^ BitVec.ofInt 64 (IntKind.i64.wrap (((BitVec.ofInt 64 ((l_1.getD i_7.toNat dflt_Item).Value.fdiv 2) &&& BitVec.ofInt 64 1).toNat : Int)))).toNat : Int))) ^^^ BitVec.ofInt 64 (IntKind.i64.wrap (((BitVec.ofInt 64 ((l_1.getD i_7.toNat dflt_Item).Value.fdiv 4) &&& BitVec.ofInt 64 1).toNat : Int)))).toNat : Int))) ^^^ BitVec.ofInt 64 (IntKind.i64.wrap (((BitVec.ofInt 64 ((l_1.getD i_7.toNat dflt_Item).Value.fdiv 16) &&& BitVec.ofInt 64 1).toNat : Int)))).toNat : Int)))) + IntKind.i64.wrap (128 * IntKind.i64.wrap (((BitVec.ofInt 64 (IntKind.i64.wrap (((BitVec.ofInt 64 (IntKind.i64.wrap (((BitVec.ofInt 64 (IntKind.i64.wrap (1 - IntKind.i64.wrap (((BitVec.ofInt 64 ((l_1.getD i_7.toNat dflt_Item).Value.fdiv 2) &&& BitVec.ofInt 64 1).toNat : Int)))) ^^^ BitVec.ofInt 64 (IntKind.i64.wrap (((BitVec.ofInt 64 ((l_1.getD i_7.toNat dflt_Item).Value.fdiv 8) &&& BitVec.ofInt 64 1).toNat : Int)))).toNat : Int))) ^^^ BitVec.ofInt 64 (IntKind.i64.wrap (((BitVec.ofInt 64 ((l_1.getD i_7.toNat dflt_Item).Value.fdiv 16) &&& BitVec.ofInt 64 1).toNat : Int)))).toNat : Int))) ^^^ BitVec.ofInt 64 (IntKind.i64.wrap (((BitVec.ofInt 64 ((l_1.getD i_7.toNat dflt_Item).Value.fdiv 32) &&& BitVec.ofInt 64 1).toNat : Int)))).toNat : Int))))) 0 (bs []) 0]) (l_1.getD i_7.toNat dflt_Item)
 else
 none)
 else
 bif (l_1.getD i_7.toNat dflt_Item).Fault == 2 then
 ((ref27_sum m c1 (IntKind.i64.wrap (((BitVec.ofInt 64 (IntKind.i64.wrap (IntKind.i64.wrap ((l_1.getD i_7.toNat dflt_Item).Value + IntKind.i64.wrap (64 * IntKind.i64.wrap (((BitVec.ofInt 64 (IntKind.i64.wrap (((BitVec.ofInt 64 (IntKind.i64.wrap (((BitVec.ofInt 64 (IntKind.i64.wrap (((BitVec.ofInt 64 ((l_1.getD i_7.toNat dflt_Item).Value.fdiv 1) &&& BitVec.ofInt 64 1).toNat : Int))) ^^^ BitVec.ofInt 64 (IntKind.i64.wrap (((BitVec.ofInt 64 ((l_1.getD i_7.toNat dflt_Item).Value.fdiv 2) &&& BitVec.ofInt 64 1).toNat : Int)))).toNat : Int))) ^^^ BitVec.ofInt 64 (IntKind.i64.wrap (((BitVec.ofInt 64 ((l_1.getD i_7.toNat dflt_Item).Value.fdiv 4) &&& BitVec.ofInt 64 1).toNat : Int)))).toNat : Int))) ^^^ BitVec.ofInt 64 (IntKind.i64.wrap (((BitVec.ofInt 64 ((l_1.getD i_7.toNat dflt_Item).Value.fdiv 16) &&& BitVec.ofInt 64 1).toNat : Int)))).toNat : Int)))) + IntKind.i64.wrap (128 * IntKind.i64.wrap (((BitVec.ofInt 64 (IntKind.i64.wrap (((BitVec.ofInt 64 (IntKind.i64.wrap (((BitVec.ofInt 64 (IntKind.i64.wrap (1 - IntKind.i64.wrap (((BitVec.ofInt 64 ((l_1.getD i_7.toNat dflt_Item).Value.fdiv 2) &&& BitVec.ofInt 64 1).toNat : Int)))) ^^^ BitVec.ofInt 64 (IntKind.i64.wrap (((BitVec.ofInt 64 ((l_1.getD i_7.toNat dflt_Item).Value.fdiv 8) &&& BitVec.ofInt 64 1).toNat : Int)))).toNat : Int))) ^^^ BitVec.ofInt 64 (IntKind.i64.wrap (((BitVec.ofInt 64 ((l_1.getD i_7.toNat dflt_Item).Value.fdiv 16) &&& BitVec.ofInt 64 1).toNat : Int)))).toNat : Int))) ^^^ BitVec.ofInt 64 (IntKind.i64.wrap (((BitVec.ofInt 64 ((l_1.getD i_7.toNat dflt_Item).Value.fdiv 32) &&& BitVec.ofInt 64 1).toNat : Int)))).toNat : Int))))) ^^^ BitVec.ofInt 64 64).toNat : Int))) (l_1.getD i_7.toNat dflt_Item).Data).bind fun r3 =>
 bif (l_1.getD i_7.toNat dflt_Item).Fault == 3 then
 bif decide ((out_6.length + 3) * 48 ≤ 140737488355328) then
 k_l21 i_7 (IntKind.i64.wrap (((BitVec.ofInt 64 r3 ^^^ BitVec.ofInt 64 1).toNat : Int))) 0 l_1 c1 (out_6 ++ [Item.mk (l_1.getD i_7.toNat dflt_Item).Gap 0 1 (bs []) 0, Item.mk 0 85 0 (bs []) 0, Item.mk 0 (IntKind.i64.wrap (((BitVec.ofInt 64 (IntKind.i64.wrap (IntKind.i64.wrap ((l_1.getD i_7.toNat dflt_Item).Value + IntKind.i64.wrap (64 * IntKind.i64.wrap (((BitVec.ofInt 64 (IntKind.i64.wrap (((BitVec.ofInt 64 (IntKind.i64.wrap (((BitVec.ofInt 64 (IntKind.i64.wrap (((BitVec.ofInt 64 ((l_1.getD i_7.toNat dflt_Item).Value.fdiv 1) &&& BitVec.ofInt 64 1).toNat : Int))) ^^^ BitVec.ofInt 64 (IntKind.i64.wrap (((BitVec.ofInt 64 ((l_1.getD i_7.toNat dflt_Item).Value.fdiv 2) &&& BitVec.ofInt 64 1).toNat : Int)))).toNat : Int))) ^^^ BitVec.ofInt 64 (IntKind.i64.wrap (((BitVec.ofInt 64 ((l_1.getD i_7.toNat dflt_Item).Value.fdiv 4) &&& BitVec.ofInt 64 1).toNat : Int)))).toNat : Int))) ^^^ BitVec.ofInt 64 (IntKind.i64.wrap (((BitVec.ofInt 64 ((l_1.getD i_7.toNat dflt_Item).Value.fdiv 16) &&& BitVec.ofInt 64 1).toNat : Int)))).toNat : Int)))) + IntKind.i64.wrap (128 * IntKind.i64.wrap (((BitVec.ofInt 64 (IntKind.i64.wrap (((BitVec.ofInt 64 (IntKind.i64.wrap (((BitVec.ofInt 64 (IntKind.i64.wrap (1 - IntKind.i64.wrap (((BitVec.ofInt 64 ((l_1.getD i_7.toNat dflt_Item).Value.fdiv 2) &&& BitVec.ofInt 64 1).toNat : Int)))) ^^^ BitVec.ofInt 64 (IntKind.i64.wrap (((BitVec.ofInt 64 ((l_1.getD i_7.toNat dflt_Item).Value.fdiv 8) &&& BitVec.ofInt 64 1).toNat : Int)))).toNat : Int))) ^^^ BitVec.ofInt 64 (IntKind.i64.wrap (((BitVec.ofInt 64 ((l_1.getD i_7.toNat dflt_Item).Value.fdiv 16) &&& BitVec.ofInt 64 1).toNat : Int)))).toNat : Int))) ^^^ BitVec.ofInt 64 (IntKind.i64.wrap (((BitVec.ofInt 64 ((l_1.getD i_7.toNat dflt_Item).Value.fdiv 32) &&& BitVec.ofInt 64 1).toNat : Int)))).toNat : Int))))) ^^^ BitVec.ofInt 64 64).toNat : Int))) 0 (bs []) 0]) (l_1.getD i_7.toNat dflt_Item)
 else
 none
 else
 bif decide ((out_6.length + 3) * 48 ≤ 140737488355328) then
 k_l21 i_7 r3 0 l_1 c1 (out_6 ++ [Item.mk (l_1.getD i_7.toNat dflt_Item).Gap 0 1 (bs []) 0, Item.mk 0 85 0 (bs []) 0, Item.mk 0 (IntKind.i64.wrap (((BitVec.ofInt 64 (IntKind.i64.wrap (IntKind.i64.wrap ((l_1.getD i_7.toNat dflt_Item).Value + IntKind.i64.wrap (64 * IntKind.i64.wrap (((BitVec.ofInt 64 (IntKind.i64.wrap (((BitVec.ofInt 64 (IntKind.i64.wrap (((BitVec.ofInt 64 (IntKind.i64.wrap (((BitVec.ofInt 64 ((l_1.getD i_7.toNat dflt_Item).Value.fdiv 1) &&& BitVec.ofInt 64 1).toNat : Int))) ^^^ BitVec.ofInt 64 (IntKind.i64.wrap (((BitVec.ofInt 64 ((l_1.getD i_7.toNat dflt_Item).Value.fdiv 2) &&& BitVec.ofInt 64 1).toNat : Int)))).toNat : Int))) ^^^ BitVec.ofInt 64 (IntKind.i64.wrap (((BitVec.ofInt 64 ((l_1.getD i_7.toNat dflt_Item).Value.fdiv 4) &&& BitVec.ofInt 64 1).toNat : Int)))).toNat : Int))) ^^^ BitVec.ofInt 64 (IntKind.i64.wrap (((BitVec.ofInt 64 ((l_1.getD i_7.toNat dflt_Item).Value.fdiv 16) &&& BitVec.ofInt 64 1).toNat : Int)))).toNat : Int)))) + IntKind.i64.wrap (128 * IntKind.i64.wrap (((BitVec.ofInt 64 (IntKind.i64.wrap (((BitVec.ofInt 64 (IntKind.i64.wrap (((BitVec.ofInt 64 (IntKind.i64.wrap (1 - IntKind.i64.wrap (((BitVec.ofInt 64 ((l_1.getD i_7.toNat dflt_Item).Value.fdiv 2) &&& BitVec.ofInt 64 1).toNat : Int)))) ^^^ BitVec.ofInt 64 (IntKind.i64.wrap (((BitVec.ofInt 64 ((l_1.getD i_7.toNat dflt_Item).Value.fdiv 8) &&& BitVec.ofInt 64 1).toNat : Int)))).toNat : Int))) ^^^ BitVec.ofInt 64 (IntKind.i64.wrap (((BitVec.ofInt 64 ((l_1.getD i_7.toNat dflt_Item).Value.fdiv 16) &&& BitVec.ofInt 64 1).toNat : Int)))).toNat : Int))) ^^^ BitVec.ofInt 64 (IntKind.i64.wrap (((BitVec.ofInt 64 ((l_1.getD i_7.toNat dflt_Item).Value.fdiv 32) &&& BitVec.ofInt 64 1).toNat : Int)))).toNat : Int))))) ^^^ BitVec.ofInt 64 64).toNat : Int))) 0 (bs []) 0]) (l_1.getD i_7.toNat dflt_Item)
 else
 none)
 else
 (ref27_sum m c1 (IntKind.i64.wrap (IntKind.i64.wrap ((l_1.getD i_7.toNat dflt_Item).Value + IntKind.i64.wrap (64 * IntKind.i64.wrap (((BitVec.ofInt 64 (IntKind.i64.wrap (((BitVec.ofInt 64 (IntKind.i64.wrap (((BitVec.ofInt 64 (IntKind.i64.wrap (((BitVec.ofInt 64 ((l_1.getD i_7.toNat dflt_Item).Value.fdiv 1) &&& BitVec.ofInt 64 1).toNat : Int))) ^^^ BitVec.ofInt 64 (IntKind.i64.wrap (((BitVec.ofInt 64 ((l_1.getD i_7.toNat dflt_Item).Value.fdiv 2) &&& BitVec.ofInt 64 1).toNat : Int)))).toNat : Int))) ^^^ BitVec.ofInt 64 (IntKind.i64.wrap (((BitVec.ofInt 64 ((l_1.getD i_7.toNat dflt_Item).Value.fdiv 4) &&& BitVec.ofInt 64 1).toNat : Int)))).toNat : Int))) ^^^ BitVec.ofInt 64 (IntKind.i64.wrap (((BitVec.ofInt 64 ((l_1.getD i_7.toNat dflt_Item).Value.fdiv 16) &&& BitVec.ofInt 64 1).toNat : Int)))).toNat : Int)))) + IntKind.i64.wrap (128 * IntKind.i64.wrap (((BitVec.ofInt 64 (IntKind.i64.wrap (((BitVec.ofInt 64 (IntKind.i64.wrap (((BitVec.ofInt 64 (IntKind.i64.wrap (1 - IntKind.i64.wrap (((BitVec.ofInt 64 ((l_1.getD i_7.toNat dflt_Item).Value.fdiv 2) &&& BitVec.ofInt 64 1).toNat : Int)))) ^^^ BitVec.ofInt 64 (IntKind.i64.wrap (((BitVec.ofInt 64 ((l_1.getD i_7.toNat dflt_Item).Value.fdiv 8) &&& BitVec.ofInt 64 1).toNat : Int)))).toNat : Int))) ^^^ BitVec.ofInt 64 (IntKind.i64.wrap (((BitVec.ofInt 64 ((l_1.getD i_7.toNat dflt_Item).Value.fdiv 16) &&& BitVec.ofInt 64 1).toNat : Int)))).toNat : Int))) ^^^ BitVec.ofInt 64 (IntKind.i64.wrap (((BitVec.ofInt 64 ((l_1.getD i_7.toNat dflt_Item).Value.fdiv 32) &&& BitVec.ofInt 64 1).toNat : Int)))).toNat : Int))))) (l_1.getD i_7.toNat dflt_Item).Data).bind fun r4 =>
 bif (l_1.getD i_7.toNat dflt_Item).Fault == 3 then
 bif decide ((out_6.length + 3) * 48 ≤ 140737488355328) then
 k_l21 i_7 (IntKind.i64.wrap (((BitVec.ofInt 64 r4 ^^^ BitVec.ofInt 64 1).toNat : Int))) 0 l_1 c1 (out_6 ++ [Item.mk (l_1.getD i_7.toNat dflt_Item).Gap 0 1 (bs []) 0, Item.mk 0 85 0 (bs []) 0, Item.mk 0 (IntKind.i64.wrap (IntKind.i64.wrap ((l_1.getD i_7.toNat dflt_Item).Value + IntKind.i64.wrap (64 * IntKind.i64.wrap (((BitVec.ofInt 64 (IntKind.i64.wrap (((BitVec.ofInt 64 (IntKind.i64.wrap (((BitVec.ofInt 64 (IntKind.i64.wrap (((BitVec.ofInt 64 ((l_1.getD i_7.toNat dflt_Item).Value.fdiv 1) &&& BitVec.ofInt 64 1).toNat : Int))) ^^^ BitVec.ofInt 64 (IntKind.i64.wrap (((BitVec.ofInt 64 ((l_1.getD i_7.toNat dflt_Item).Value.fdiv 2) &&& BitVec.ofInt 64 1).toNat : Int)))).toNat : Int))) ^^^ BitVec.ofInt 64 (IntKind.i64.wrap (((BitVec.ofInt 64 ((l_1.getD i_7.toNat dflt_Item).Value.fdiv 4) &&& BitVec.ofInt 64 1).toNat : Int)))).toNat : Int))) ^^^ BitVec.ofInt 64 (IntKind.i64.wrap (((BitVec.ofInt 64 ((l_1.getD i_7.toNat dflt_Item).Value.fdiv 16) &&& BitVec.ofInt 64 1).toNat : Int)))).toNat : Int)))) + IntKind.i64.wrap (128 * IntKind.i64.wrap (((BitVec.ofInt 64 (IntKind.i64.wrap (((BitVec.ofInt 64 (IntKind.i64.wrap (((BitVec.ofInt 64 (IntKind.i64.wrap (1 - IntKind.i64.wrap (((BitVec.ofInt 64 ((l_1.getD i_7.toNat dflt_Item).Value.fdiv 2) &&& BitVec.ofInt 64 1).toNat : Int)))) ^^^ BitVec.ofInt 64 (IntKind.i64.wrap (((BitVec.ofInt 64 ((l_1.getD i_7.toNat dflt_Item).Value.fdiv 8) &&& BitVec.ofInt 64 1).toNat : Int)))).toNat : Int))) ^^^ BitVec.ofInt 64 (IntKind.i64.wrap (((BitVec.ofInt 64 ((l_1.getD i_7.toNat dflt_Item).Value.fdiv 16) &&& BitVec.ofInt 64 1).toNat : Int)))).toNat : Int))) ^^^ BitVec.ofInt 64 (IntKind.i64.wrap (((BitVec.ofInt 64 ((l_1.getD i_7.toNat dflt_Item).Value.fdiv 32) &&& BitVec.ofInt 64 1).toNat : Int)))).toNat : Int))))) 0 (bs []) 0]) (l_1.getD i_7.toNat dflt_Item)
 else
 none
 else
 bif decide ((out_6.length + 3) * 48 ≤ 140737488355328) then
 k_l21 i_7 r4 0 l_1 c1 (out_6 ++ [Item.mk (l_1.getD i_7.toNat dflt_Item).Gap 0 1 (bs []) 0, Item.mk 0 85 0 (bs []) 0, Item.mk 0 (IntKind.i64.wrap (IntKind.i64.wrap ((l_1.getD i_7.toNat dflt_Item).Value + IntKind.i64.wrap (64 * IntKind.i64.wrap (((BitVec.ofInt 64 (IntKind.i64.wrap (((BitVec.ofInt 64 (IntKind.i64.wrap (((BitVec.ofInt 64 (IntKind.i64.wrap (((BitVec.ofInt 64 ((l_1.getD i_7.toNat dflt_Item).Value.fdiv 1) &&& BitVec.ofInt 64 1).toNat : Int))) ^^^ BitVec.ofInt 64 (IntKind.i64.wrap (((BitVec.ofInt 64 ((l_1.getD i_7.toNat dflt_Item).Value.fdiv 2) &&& BitVec.ofInt 64 1).toNat : Int)))).toNat : Int))) ^^^ BitVec.ofInt 64 (IntKind.i64.wrap (((BitVec.ofInt 64 ((l_1.getD i_7.toNat dflt_Item).Value.fdiv 4) &&& BitVec.ofInt 64 1).toNat : Int)))).toNat : Int))) ^^^ BitVec.ofInt 64 (IntKind.i64.wrap (((BitVec.ofInt 64 ((l_1.getD i_7.toNat dflt_Item).Value.fdiv 16) &&& BitVec.ofInt 64 1).toNat : Int)))).toNat : Int)))) + IntKind.i64.wrap (128 * IntKind.i64.wrap (((BitVec.ofInt 64 (IntKind.i64.wrap (((BitVec.ofInt 64 (IntKind.i64.wrap (((BitVec.ofInt 64 (IntKind.i64.wrap (1 - IntKind.i64.wrap (((BitVec.ofInt 64 ((l_1.getD i_7.toNat dflt_Item).Value.fdiv 2) &&& BitVec.ofInt 64 1).toNat : Int)))) ^^^ BitVec.ofInt 64 (IntKind.i64.wrap (((BitVec.ofInt 64 ((l_1.getD i_7.toNat dflt_Item).Value.fdiv 8) &&& BitVec.ofInt 64 1).toNat : Int)))).toNat : Int))) ^^^ BitVec.ofInt 64 (IntKind.i64.wrap (((BitVec.ofInt 64 ((l_1.getD i_7.toNat dflt_Item).Value.fdiv 16) &&& BitVec.ofInt 64 1).toNat : Int)))).toNat : Int))) ^^^ BitVec.ofInt 64 (IntKind.i64.wrap (((BitVec.ofInt 64 ((l_1.getD i_7.toNat dflt_Item).Value.fdiv 32) &&& BitVec.ofInt 64 1).toNat : Int)))).toNat : Int))))) 0 (bs []) 0]) (l_1.getD i_7.toNat dflt_Item)
 else
 none)
 else
 none)
 else
 none)
 else
 ret out_6 0
theorem L_ref27_Encode_l5_step (m n : Nat) (i_7 : Int) (l_1 : List Item) (c1 : Lin) (out_6 : List Item) : L_ref27_Encode_l5 m (n + 1) i_7 l_1 c1 out_6 = b_ref27_Encode_l5 m (fun x0 x1 => some (w_ref27_Encode (x0, x1))) (fun i_7 check_12 k_13 l_1 c1 out_6 c3 => L_ref27_Encode_l21 m n m i_7 check_12 k_13 l_1 c1 out_6 c3) i_7 l_1 c1 out_6 := by kernel_rfl
theorem b_ref27_Encode_l5_map (m : Nat) {k_l21 : Int → Int → Int → List Item → Lin → List Item → Item → Option (List (RV C))} {q_l21 : Int → Int → Int → List Item → Lin → List Item → Item → Option (List Item × Int)} (h_l21 : ∀ i_7 check_12 k_13 l_1 c1 out_6 c3, k_l21 i_7 check_12 k_13 l_1 c1 out_6 c3 = (q_l21 i_7 check_12 k_13 l_1 c1 out_6 c3).map w_ref27_Encode) (i_7 : Int) (l_1 : List Item) (c1 : Lin) (out_6 : List Item) : b_ref27_Encode_l5 m (fun x0 x1 => some (w_ref27_Encode (x0, x1))) k_l21 i_7 l_1 c1 out_6 = (b_ref27_Encode_l5 m (fun x0 x1 => some (x0, x1)) q_l21 i_7 l_1 c1 out_6).map w_ref27_Encode := by
  simp only [b_ref27_Encode_l5, cond_map, bind_map, map_none, map_some, h_l21]
noncomputable def ref27_Encode_l5 (m : Nat) : Nat → Int → List Item → Lin → List Item → Option (List Item × Int)
  | 0, _, _, _, _ => none
  | n + 1, i_7, l_1, c1, out_6 => b_ref27_Encode_l5 m (fun x0 x1 => some (x0, x1)) (fun i_7 check_12 k_13 l_1 c1 out_6 c3 => ref27_Encode_l21 m (fun i_7 l_1 c1 out_6 => ref27_Encode_l5 m n i_7 l_1 c1 out_6) m i_7 check_12 k_13 l_1 c1 out_6 c3) i_7 l_1 c1 out_6
theorem L_ref27_Encode_l5_eq (m : Nat) : ∀ (n : Nat) (i_7 : Int) (l_1 : List Item) (c1 : Lin) (out_6 : List Item), L_ref27_Encode_l5 m n i_7 l_1 c1 out_6 = (ref27_Encode_l5 m n i_7 l_1 c1 out_6).map w_ref27_Encode
  | 0, i_7, l_1, c1, out_6 => by kernel_rfl
  | n + 1, i_7, l_1, c1, out_6 => by
    rw [L_ref27_Encode_l5_step]
    exact b_ref27_Encode_l5_map m (fun i_7 check_12 k_13 l_1 c1 out_6 c3 => L_ref27_Encode_l21_eq m n (fun i_7 l_1 c1 out_6 => ref27_Encode_l5 m n i_7 l_1 c1 out_6) (fun i_7 l_1 c1 out_6 => L_ref27_Encode_l5_eq m n i_7 l_1 c1 out_6) m i_7 check_12 k_13 l_1 c1 out_6 c3) i_7 l_1 c1 out_6
noncomputable def b_ref27_Encode {R : Type} (m : Nat) (ret : List Item → Int → Option R) (k_l5 : Int → List Item → Lin → List Item → Option R) (c_0 : Lin) (l_1 : List Item) : Option R :=
 bif decide ((l_1.length : Int) > 1024) then
 ret [] 6
 else
 k_l5 0 l_1 c_0 []
theorem ref27_Encode_pre (m : Nat) (c_0 : Lin) (l_1 : List Item) : funK Try.prog (Ψ_ref27_Encode m) keep m 1 22 [(dS of_Lin cells_Lin of_Lin_ok).e c_0, (dRow 45).e l_1] = b_ref27_Encode m (fun x0 x1 => some (w_ref27_Encode (x0, x1))) (fun i_7 l_1 c1 out_6 => L_ref27_Encode_l5 m m i_7 l_1 c1 out_6) c_0 l_1 := by kernel_rfl
theorem b_ref27_Encode_map (m : Nat) {k_l5 : Int → List Item → Lin → List Item → Option (List (RV C))} {q_l5 : Int → List Item → Lin → List Item → Option (List Item × Int)} (h_l5 : ∀ i_7 l_1 c1 out_6, k_l5 i_7 l_1 c1 out_6 = (q_l5 i_7 l_1 c1 out_6).map w_ref27_Encode) (c_0 : Lin) (l_1 : List Item) : b_ref27_Encode m (fun x0 x1 => some (w_ref27_Encode (x0, x1))) k_l5 c_0 l_1 = (b_ref27_Encode m (fun x0 x1 => some (x0, x1)) q_l5 c_0 l_1).map w_ref27_Encode := by
  simp only [b_ref27_Encode, cond_map, bind_map, map_none, map_some, h_l5]
noncomputable def ref27_Encode (m : Nat) (c_0 : Lin) (l_1 : List Item) : Option (List Item × Int) := b_ref27_Encode m (fun x0 x1 => some (x0, x1)) (fun i_7 l_1 c1 out_6 => ref27_Encode_l5 m m i_7 l_1 c1 out_6) c_0 l_1
theorem ref27_Encode_fun (m : Nat) (c_0 : Lin) (l_1 : List Item) : funK Try.prog (Ψ_ref27_Encode m) keep m 1 22 [(dS of_Lin cells_Lin of_Lin_ok).e c_0, (dRow 45).e l_1] = (ref27_Encode m c_0 l_1).map w_ref27_Encode := by
  rw [ref27_Encode_pre]
  exact b_ref27_Encode_map m (fun i_7 l_1 c1 out_6 => L_ref27_Encode_l5_eq m m i_7 l_1 c1 out_6) c_0 l_1
noncomputable def K_ref27_Encode (m : Nat) : KnownF C := mkK (dCons (dS of_Lin cells_Lin of_Lin_ok) (dCons (dRow 45) dNil)) (fun a => ref27_Encode m a.1 a.2.1) w_ref27_Encode
theorem K_ref27_Encode_ok (m : Nat) : KnownAt C Try.prog 22 fun l => (K_ref27_Encode m).run _ l some :=
  mkK_known good fit (Ψ_ref27_Encode_ok m) (keep := keep) (m := m) (d := 1) fun a => ref27_Encode_fun m a.1 a.2.1
/-! ### signalbench/lin.Check -/
def w_lin_Check (b : Int) : List (RV C) := [(dInt .i64).e b]
noncomputable def b_lin_Check {R : Type} (m : Nat) (ret : Int → Option R) (c_0 : Lin) : Option R :=
 ret 0
theorem lin_Check_pre (m : Nat) (c_0 : Lin) : funK Try.prog Ψ0 keep m 1 23 [(dS of_Lin cells_Lin of_Lin_ok).e c_0] = b_lin_Check m (fun x0 => some (w_lin_Check x0)) c_0 := by kernel_rfl
theorem b_lin_Check_map (m : Nat) (c_0 : Lin) : b_lin_Check m (fun x0 => some (w_lin_Check x0)) c_0 = (b_lin_Check m (fun x0 => some x0) c_0).map w_lin_Check := by
  simp only [b_lin_Check, cond_map, bind_map, map_none, map_some]
noncomputable def lin_Check (m : Nat) (c_0 : Lin) : Option (Int) := b_lin_Check m (fun x0 => some x0) c_0
theorem lin_Check_fun (m : Nat) (c_0 : Lin) : funK Try.prog Ψ0 keep m 1 23 [(dS of_Lin cells_Lin of_Lin_ok).e c_0] = (lin_Check m c_0).map w_lin_Check := by
  rw [lin_Check_pre]
  exact b_lin_Check_map m c_0
noncomputable def K_lin_Check (m : Nat) : KnownF C := mkK (dCons (dS of_Lin cells_Lin of_Lin_ok) dNil) (fun a => lin_Check m a.1) w_lin_Check
theorem K_lin_Check_ok (m : Nat) : KnownAt C Try.prog 23 fun l => (K_lin_Check m).run _ l some :=
  mkK_known good fit Ψ0_ok (keep := keep) (m := m) (d := 1) fun a => lin_Check_fun m a.1
/-! ### signalbench/signalbenchlaw27.sameItems -/
def w_law27_sameItems (b : Bool) : List (RV C) := [dBool.e b]
noncomputable def Q_law27_sameItems_4 (m : Nat) : St C → (Exit → St C → Option (List (RV C))) → Option (List (RV C)) := fun σ k => codeK Try.prog Ψ0 (callK Try.prog Ψ0 keep m 0) (keep 24) m (subC body24 [.r, .r, .l, .r, .b, .o]) σ k
noncomputable def KL_law27_sameItems_4 (m : Nat) : Exit → St C → Option (List (RV C)) := contK Try.prog Ψ0 (callK Try.prog Ψ0 keep m 0) (keep 24) m body24 [.r, .r, .l, .r, .b, .o] (leaveK Try.prog Try.f24.results.toList (finK Try.prog Try.f24.resultTypes.toList))
noncomputable def L_law27_sameItems_l4 (m n : Nat) (i_5 : Int) (a_0 : List Item) (b_1 : List Item) : Option (List (RV C)) := iterK (Q_law27_sameItems_4 m) (St.norm (keep 24 4)) n ({ T := [.fl (.one (.sl 0)), .fl (.one (.sl 1)), .dead, .dead, .dead, .fl (.one (.int .i64 i_5))] ++ List.replicate 20 .dead, F := [[]], H := [.row 45 false a_0, .row 45 false b_1] } : St C) (KL_law27_sameItems_4 m)
noncomputable def b_law27_sameItems_l4 {R : Type} (m : Nat) (ret : Bool → Option R) (k_l4 : Int → List Item → List Item → Option R) (i_5 : Int) (a_0 : List Item) (b_1 : List Item) : Option R :=
 bif decide (i_5 < (a_0.length : Int)) then
 bif decide (0 ≤ i_5) then
 bif decide (i_5 < (a_0.length : Int)) then
 bif decide (0 ≤ i_5) then
 bif decide (i_5 < (b_1.length : Int)) then
 bif !((a_0.getD i_5.toNat dflt_Item).Gap == (b_1.getD i_5.toNat dflt_Item).Gap && ((a_0.getD i_5.toNat dflt_Item).Value == (b_1.getD i_5.toNat dflt_Item).Value && ((a_0.getD i_5.toNat dflt_Item).Aux == (b_1.getD i_5.toNat dflt_Item).Aux && ((a_0.getD i_5.toNat dflt_Item).Data == (b_1.getD i_5.toNat dflt_Item).Data && ((a_0.getD i_5.toNat dflt_Item).Fault == (b_1.getD i_5.toNat dflt_Item).Fault && true))))) then
 ret false
 else
 k_l4 (IntKind.i64.wrap (i_5 + 1)) a_0 b_1
 else
 none
 else
 none
 else
 none
 else
 none
 else
 ret true
theorem L_law27_sameItems_l4_step (m n : Nat) (i_5 : Int) (a_0 : List Item) (b_1 : List Item) : L_law27_sameItems_l4 m (n + 1) i_5 a_0 b_1 = b_law27_sameItems_l4 m (fun x0 => some (w_law27_sameItems x0)) (fun i_5 a_0 b_1 => L_law27_sameItems_l4 m n i_5 a_0 b_1) i_5 a_0 b_1 := by kernel_rfl
theorem b_law27_sameItems_l4_map (m : Nat) {k_l4 : Int → List Item → List Item → Option (List (RV C))} {q_l4 : Int → List Item → List Item → Option (Bool)} (h_l4 : ∀ i_5 a_0 b_1, k_l4 i_5 a_0 b_1 = (q_l4 i_5 a_0 b_1).map w_law27_sameItems) (i_5 : Int) (a_0 : List Item) (b_1 : List Item) : b_law27_sameItems_l4 m (fun x0 => some (w_law27_sameItems x0)) k_l4 i_5 a_0 b_1 = (b_law27_sameItems_l4 m (fun x0 => some x0) q_l4 i_5 a_0 b_1).map w_law27_sameItems := by
  simp only [b_law27_sameItems_l4, cond_map, bind_map, map_none, map_some, h_l4]
noncomputable def law27_sameItems_l4 (m : Nat) : Nat → Int → List Item → List Item → Option (Bool)
  | 0, _, _, _ => none
  | n + 1, i_5, a_0, b_1 => b_law27_sameItems_l4 m (fun x0 => some x0) (fun i_5 a_0 b_1 => law27_sameItems_l4 m n i_5 a_0 b_1) i_5 a_0 b_1
theorem L_law27_sameItems_l4_eq (m : Nat) : ∀ (n : Nat) (i_5 : Int) (a_0 : List Item) (b_1 : List Item), L_law27_sameItems_l4 m n i_5 a_0 b_1 = (law27_sameItems_l4 m n i_5 a_0 b_1).map w_law27_sameItems
  | 0, i_5, a_0, b_1 => by kernel_rfl
  | n + 1, i_5, a_0, b_1 => by
    rw [L_law27_sameItems_l4_step]
    exact b_law27_sameItems_l4_map m (fun i_5 a_0 b_1 => L_law27_sameItems_l4_eq m n i_5 a_0 b_1) i_5 a_0 b_1
noncomputable def b_law27_sameItems {R : Type} (m : Nat) (ret : Bool → Option R) (k_l4 : Int → List Item → List Item → Option R) (a_0 : List Item) (b_1 : List Item) : Option R :=
 bif (a_0.length : Int) != (b_1.length : Int) then
 ret false
 else
 k_l4 0 a_0 b_1
theorem law27_sameItems_pre (m : Nat) (a_0 : List Item) (b_1 : List Item) : funK Try.prog Ψ0 keep m 1 24 [(dRow 45).e a_0, (dRow 45).e b_1] = b_law27_sameItems m (fun x0 => some (w_law27_sameItems x0)) (fun i_5 a_0 b_1 => L_law27_sameItems_l4 m m i_5 a_0 b_1) a_0 b_1 := by kernel_rfl
theorem b_law27_sameItems_map (m : Nat) {k_l4 : Int → List Item → List Item → Option (List (RV C))} {q_l4 : Int → List Item → List Item → Option (Bool)} (h_l4 : ∀ i_5 a_0 b_1, k_l4 i_5 a_0 b_1 = (q_l4 i_5 a_0 b_1).map w_law27_sameItems) (a_0 : List Item) (b_1 : List Item) : b_law27_sameItems m (fun x0 => some (w_law27_sameItems x0)) k_l4 a_0 b_1 = (b_law27_sameItems m (fun x0 => some x0) q_l4 a_0 b_1).map w_law27_sameItems := by
  simp only [b_law27_sameItems, cond_map, bind_map, map_none, map_some, h_l4]
noncomputable def law27_sameItems (m : Nat) (a_0 : List Item) (b_1 : List Item) : Option (Bool) := b_law27_sameItems m (fun x0 => some x0) (fun i_5 a_0 b_1 => law27_sameItems_l4 m m i_5 a_0 b_1) a_0 b_1
theorem law27_sameItems_fun (m : Nat) (a_0 : List Item) (b_1 : List Item) : funK Try.prog Ψ0 keep m 1 24 [(dRow 45).e a_0, (dRow 45).e b_1] = (law27_sameItems m a_0 b_1).map w_law27_sameItems := by
  rw [law27_sameItems_pre]
  exact b_law27_sameItems_map m (fun i_5 a_0 b_1 => L_law27_sameItems_l4_eq m m i_5 a_0 b_1) a_0 b_1
noncomputable def K_law27_sameItems (m : Nat) : KnownF C := mkK (dCons (dRow 45) (dCons (dRow 45) dNil)) (fun a => law27_sameItems m a.1 a.2.1) w_law27_sameItems
theorem K_law27_sameItems_ok (m : Nat) : KnownAt C Try.prog 24 fun l => (K_law27_sameItems m).run _ l some :=
  mkK_known good fit Ψ0_ok (keep := keep) (m := m) (d := 1) fun a => law27_sameItems_fun m a.1 a.2.1
end Go.Abs.K
