/- Plain functions for the functions of the seat, printed by a program of this claim's own, with their proofs. -/
import Derived.Test.YtohpkolbocmbbaaF1
set_option linter.unusedVariables false
set_option linter.unusedSimpArgs false
set_option maxRecDepth 100000
namespace Go.Abs.K
open Go Go.Abs Go.Proofs
/-! ### signalbench/signalbenchlaw27.LinEncodes -/
noncomputable def Ψ_law27_LinEncodes (m : Nat) : Known C := fun f => match f with
  | 8 => some (K_law27_lives m)
  | 18 => some (K_law27_few m)
  | 19 => some (K_lin_Encode m)
  | 22 => some (K_ref27_Encode m)
  | 23 => some (K_lin_Check m)
  | 24 => some (K_law27_sameItems m)
  | _ => none
theorem Ψ_law27_LinEncodes_ok (m : Nat) : KnownOk C Try.prog (Ψ_law27_LinEncodes m) := by
  intro f φ h
  unfold Ψ_law27_LinEncodes at h
  split at h
  · injection h with h; subst h; exact K_law27_lives_ok m
  · injection h with h; subst h; exact K_law27_few_ok m
  · injection h with h; subst h; exact K_lin_Encode_ok m
  · injection h with h; subst h; exact K_ref27_Encode_ok m
  · injection h with h; subst h; exact K_lin_Check_ok m
  · injection h with h; subst h; exact K_law27_sameItems_ok m
  · cases h
def w_law27_LinEncodes (b : Bool) : List (RV C) := [dBool.e b]
noncomputable def b_law27_LinEncodes {R : Type} (m : Nat) (ret : Bool → Option R) (c_0 : Lin) (l_1 : List Item) : Option R :=
 (law27_lives m).bind fun r0 =>
 bif !r0 then
 ret false
 else
 (law27_few m l_1).bind fun r1 =>
 bif !r1 then
 ret true
 else
 (lin_Encode m c_0 l_1).bind fun r2 =>
 (ref27_Encode m c_0 l_1).bind fun r3 =>
 bif r2.snd == r3.snd then
 ((law27_sameItems m r2.fst r3.fst).bind fun r4 =>
 ret r4)
 else
 ret false
theorem law27_LinEncodes_pre (m : Nat) (c_0 : Lin) (l_1 : List Item) : funK Try.prog (Ψ_law27_LinEncodes m) keep m 1 7 [(dS of_Lin cells_Lin of_Lin_ok).e c_0, (dRow 45).e l_1] = b_law27_LinEncodes m (fun x0 => some (w_law27_LinEncodes x0)) c_0 l_1 := by kernel_rfl
theorem b_law27_LinEncodes_map (m : Nat) (c_0 : Lin) (l_1 : List Item) : b_law27_LinEncodes m (fun x0 => some (w_law27_LinEncodes x0)) c_0 l_1 = (b_law27_LinEncodes m (fun x0 => some x0) c_0 l_1).map w_law27_LinEncodes := by
  simp only [b_law27_LinEncodes, cond_map, bind_map, map_none, map_some]
noncomputable def law27_LinEncodes (m : Nat) (c_0 : Lin) (l_1 : List Item) : Option (Bool) := b_law27_LinEncodes m (fun x0 => some x0) c_0 l_1
theorem law27_LinEncodes_fun (m : Nat) (c_0 : Lin) (l_1 : List Item) : funK Try.prog (Ψ_law27_LinEncodes m) keep m 1 7 [(dS of_Lin cells_Lin of_Lin_ok).e c_0, (dRow 45).e l_1] = (law27_LinEncodes m c_0 l_1).map w_law27_LinEncodes := by
  rw [law27_LinEncodes_pre]
  exact b_law27_LinEncodes_map m c_0 l_1
noncomputable def K_law27_LinEncodes (m : Nat) : KnownF C := mkK (dCons (dS of_Lin cells_Lin of_Lin_ok) (dCons (dRow 45) dNil)) (fun a => law27_LinEncodes m a.1 a.2.1) w_law27_LinEncodes
theorem K_law27_LinEncodes_ok (m : Nat) : KnownAt C Try.prog 7 fun l => (K_law27_LinEncodes m).run _ l some :=
  mkK_known good fit (Ψ_law27_LinEncodes_ok m) (keep := keep) (m := m) (d := 1) fun a => law27_LinEncodes_fun m a.1 a.2.1
end Go.Abs.K
