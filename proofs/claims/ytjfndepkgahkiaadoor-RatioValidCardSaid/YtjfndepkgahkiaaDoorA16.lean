/- EACH OPERATION OF THE MODEL DOES WHAT IS TOLD OF IT (thirteenth part: append). -/
import Derived.Test.YtjfndepkgahkiaaDoorA15
import Derived.Lib.AppendStr
set_option linter.unusedVariables false
set_option linter.unusedSimpArgs false
namespace Go.Abs
open Go.RowKit
section
variable {C : Codec} {P : Program} {G : C.Good P} {w0 : Base C} {σ : St C} {as : List Act} {a : Act} {w : World} {pl : Pl} {n : Nat} {H : Nat → Blk C} {o : Oper} {r : Res C}

/-- Appending to what is owned; to what has no room. -/
structure Apps (C : Codec) (P : Program) (w : World) (base : Nat) (t t' ty e : TypeId) (src : Value) (ys : List (C.Elt e)) : Prop where
  own : ∀ (v : Value) (m : Nat) (xs : List Value), w.ownsRow base e (C.sz e) v m xs → (m + ys.length) * P.bytesOf e ≤ 140737488355328 →
    ∃ v' w', (Builtin.append_ #[t, t'] ty #[v, src]).run P w = .ok v' w' ∧ w'.ownsRow base e (C.sz e) v' (m + ys.length) (xs ++ flat C e ys) ∧ w.grownBy w' v.ownBlock ∧ (v'.ownBlock = v.ownBlock ∨ v'.ownBlock = some w.heap.size)
  grow : ∀ (ad : Addr) (m : Nat) (xs : List Value), xs.length = m * C.sz e → (∀ j u, xs[j]? = some u → w.cell? (ad.add j) = some u) → 0 < ys.length → (m + ys.length) * P.bytesOf e ≤ 140737488355328 →
    ∃ v' w', (Builtin.append_ #[t, t'] ty #[.slice (some ad) m m, src]).run P w = .ok v' w' ∧ w'.ownsRow base e (C.sz e) v' (m + ys.length) (xs ++ flat C e ys) ∧ w.grownBy w' none ∧ v'.ownBlock = some w.heap.size

theorem small_of {e : TypeId} (G : C.Good P) (hhas : C.has e = true) {k : Nat} (h : k * P.bytesOf e ≤ 140737488355328) : k ≤ 140737488355328 := by
  obtain ⟨_, _, hb⟩ := G.sz _ hhas
  have : k ≤ k * P.bytesOf e := Nat.le_mul_of_pos_right _ hb
  omega
theorem grown_row {base : Nat} {e : TypeId} {sz : Nat} (hb : base ≤ w.heap.size) (z : Value) (hz : z.cells.size = sz) (olds news : List Value) (m k old : Nat) (ho : olds.length = m * sz) (hn : news.length = k * sz) (h63 : m + k ≤ maxLen) :
    (w.drew.alloc (.cells (olds.toArray ++ news.toArray ++ Builtin.zeroCells z.cells (grownCap w (m + k) old e - (m + k))) e)).ownsRow base e sz
        (.slice (some ⟨w.heap.size, 0, none⟩) (m + k) (grownCap w (m + k) old e)) (m + k) (olds ++ news) ∧
      w.grownBy (w.drew.alloc (.cells (olds.toArray ++ news.toArray ++ Builtin.zeroCells z.cells (grownCap w (m + k) old e - (m + k))) e)) none := by
  have hge := grownCap_ge w (m + k) old e
  have hcm : grownCap w (m + k) old e ≤ maxLen := grownCap_le_maxLen w (m + k) old e h63
  have hlen : (olds ++ news).length = (m + k) * sz := by rw [List.length_append, ho, hn, Nat.add_mul]
  refine ⟨⟨hlen, .inr ⟨w.heap.size, _, _, rfl, hb, heap_alloc_new w.drew _, hge, hcm, ?_, ?_⟩⟩, ⟨rfl, rfl, rfl, by simp, fun k hk _ => heap_alloc_old w.drew _ k hk⟩⟩
  · simp only [Array.size_append, List.size_toArray, size_zeroCells, hz, ho, hn, ← Nat.add_mul]
    congr 1
    omega
  · simp only [Array.toList_append, List.append_assoc]
    rw [← List.append_assoc, ← hlen]
    exact List.take_left
theorem apps_slice (G : C.Good P) {base : Nat} (hb : base ≤ w.heap.size) {t ty e : TypeId} (ht : P.underlying t = some (.slice e)) (hhas : C.has e = true) {ao : Option Addr} {m c : Nat} {ys : List (C.Elt e)} (hm : ys.length = m) (hmc : m ≤ c) (hc : ao = none → c = 0)
    (hr : Reads w ao (flat C e ys)) : Apps C P w base t t ty e (.slice ao m c) ys := by
  obtain ⟨i, z, hi, hz, hzs⟩ := G.zero e hhas
  obtain ⟨hsz, hpos, hby⟩ := G.sz _ hhas
  have hcell : i.size = C.sz e := by rw [← hsz]; simp [Program.cellsOf, hi]
  have hbytes : i.bytes = P.bytesOf e := by simp [Program.bytesOf, hi]
  subst hm
  cases ao with
  | none =>
    have hc := hc rfl
    subst hc
    have h0 : ys = [] := List.eq_nil_of_length_eq_zero (by omega)
    subst h0
    refine ⟨fun v m xs hv _ => ?_, fun ad m xs _ _ h0 => by simp at h0⟩
    exact ⟨v, w, run_append_owned_none (P := P) w base t ty e i _ ht hi v m xs hv, by simpa [flat] using hv, ⟨rfl, rfl, rfl, Nat.le_refl _, fun _ _ _ => rfl⟩, .inl rfl⟩
  | some ad0 =>
    have hnews : ∀ j u, (flat C e ys)[j]? = some u → w.cell? (ad0.add j) = some u := fun j u hu => by
      rcases hr with hr | ⟨ad', e', hr⟩
      · rw [hr] at hu; cases hu
      · injection e' with e'; subst e'; exact hr j u hu
    refine ⟨fun v m xs hv h47 => ?_, fun ad m xs hl hx h0 h47 => ?_⟩
    · have hs := small_of G hhas h47
      obtain ⟨v', w', h1, h2, h3, _, h5⟩ := run_append_own_at (P := P) w base t ty e i z (C.sz e) i.bytes ht hi hz hcell rfl hzs hpos v m xs hv ad0 ys.length c (flat C e ys) (flat_len G hhas ys) hnews (flat_one G hhas ys)
        (by simp only [maxLen]; omega) (by rw [hbytes]; exact h47) hb
      exact ⟨v', w', h1, h2, h3, h5⟩
    · have hs := small_of G hhas h47
      have hrun := run_append_grow (P := P) w t ty e i z ht hi hz ad m m xs (by rw [hcell]; exact hl) hx ad0 ys.length c (flat C e ys) (by rw [hcell]; exact flat_len G hhas ys) hnews (by omega) (by omega) (growslice_fits (by omega) (by rw [hbytes]; exact h47))
      have hg := grown_row (w := w) hb z hzs xs (flat C e ys) m ys.length m (e := e) hl (flat_len G hhas ys) (by simp only [maxLen]; omega)
      exact ⟨_, _, hrun, hg.1, hg.2, rfl⟩
theorem strCells_eq (s0 : ByteArray) : Lib.strCells s0 = s0.data.toList.map fun b => Value.int .u8 (b.toNat : Int) := rfl
theorem apps_str (G : C.Good P) {base : Nat} (hb : base ≤ w.heap.size) {t t' ty e : TypeId} (ht : P.underlying t = some (.slice e)) (ht' : P.underlying t' = some .string) {s0 : ByteArray} {f : ByteArray → List (C.Elt e)} (hf : C.bytes e = some f) :
    Apps C P w base t t' ty e (.string s0) (f s0) := by
  obtain ⟨hhas, hs1, hfb⟩ := G.bytes _ f hf
  have hfb := hfb s0
  have hfl : (f s0).length = s0.size := by
    have := congrArg List.length hfb
    simp only [List.length_map, Array.length_toList] at this
    exact this
  have hflat : flat C e (f s0) = Lib.strCells s0 := by
    have := flat_bytes (e := e) (ns := s0.data.toList.map fun b => (b.toNat : Int)) (l := f s0) (by rw [hfb, List.map_map]; rfl)
    rw [this, List.map_map]; rfl
  obtain ⟨i, z, hi, hz, hzs⟩ := G.zero e hhas
  obtain ⟨hsz, hpos, hby⟩ := G.sz _ hhas
  have hcell : i.size = C.sz e := by rw [← hsz]; simp [Program.cellsOf, hi]
  have hbytes : i.bytes = P.bytesOf e := by simp [Program.bytesOf, hi]
  have hsl := Lib.strCells_length s0
  refine ⟨fun v m xs hv h47 => ?_, fun ad m xs hl hx h0 h47 => ?_⟩
  · have hs := small_of G hhas h47
    rw [hfl] at h47 hs
    rw [hflat, hfl]
    have hxl : xs.length = m := by have := hv.1; rw [hs1] at this; omega
    rcases hv.2 with ⟨rfl, rfl⟩ | ⟨g, cap, cur, rfl, hbg, hg, hnc, hcm, hcs, htake⟩
    · have hx : xs = [] := List.eq_nil_of_length_eq_zero hxl
      subst hx
      by_cases hm : s0.size = 0
      · have hn : Lib.strCells s0 = [] := List.eq_nil_of_length_eq_zero (by rw [hsl]; exact hm)
        refine ⟨.slice none 0 0, w, ?_, by rw [hm, hn]; exact World.ownsRow_nil w base e _, ⟨rfl, rfl, rfl, Nat.le_refl _, fun _ _ _ => rfl⟩, .inl rfl⟩
        have hf := Lib.run_firstCells_string (P := P) w 1 s0
        rw [hm] at hf
        simp [Builtin.append_, run_underlying ht, run_underlying ht', sizeOf, typeInfo, hi, hcell, hs1, Builtin.lenOf, hm, hf]
      · have hr := run_append_nil_string (P := P) w t t' ty e i z ht ht' hi hz s0 (by omega) (by omega) (by rw [hbytes]; have := h47; rw [Nat.zero_add] at this; omega)
        have e1 : (s0.data.map fun b => Value.int .u8 b.toNat) = (Lib.strCells s0).toArray := by
          apply Array.ext'
          simp [Lib.strCells]
        rw [e1] at hr
        have hgr := grown_row (w := w) hb z (by rw [hzs]) [] (Lib.strCells s0) 0 s0.size 0 (e := e) (by simp) (by rw [hsl, hs1, Nat.mul_one]) (by simp only [maxLen]; omega)
        simp only [Nat.zero_add, List.nil_append, Array.empty_append] at hgr ⊢
        exact ⟨_, _, hr, hgr.1, ⟨hgr.2.os, hgr.2.tape, hgr.2.output, hgr.2.size, fun k hk _ => hgr.2.block k hk (by simp)⟩, .inr rfl⟩
    · by_cases hroom : m + s0.size ≤ cap
      · have hcs' : cur.size = cap := by rw [hcs, hs1, Nat.mul_one]
        have hr := Lib.run_append_room_string (P := P) w t t' ty e i ht ht' hi (by rw [hcell, hs1]) g m cap cur hg s0 hroom (by omega)
        refine ⟨_, _, hr, ⟨by rw [List.length_append, hxl, hsl, hs1, Nat.mul_one], .inr ⟨g, cap, _, rfl, hbg, setRow_heap w g cur _ e _ hg, hroom, hcm, ?_, ?_⟩⟩, ⟨rfl, rfl, rfl, by simp, fun k _ hk => setRow_other w g k _ (fun e => hk (by simp [Value.ownBlock, e]))⟩, .inl rfl⟩
        · rw [hs1, Nat.mul_one]
          simp only [List.size_toArray, List.length_append, List.length_take, List.length_drop, Array.length_toList, hsl]
          omega
        · have ht' : cur.toList.take m = xs := by rw [hs1, Nat.mul_one] at htake; exact htake
          rw [ht', hs1, Nat.mul_one]
          have : m + s0.size = (xs ++ Lib.strCells s0).length := by rw [List.length_append, hxl, hsl]
          rw [this]
          exact List.take_left
      · have holds : ∀ j u, xs[j]? = some u → w.cell? ((⟨g, 0, none⟩ : Addr).add j) = some u := hv.cells (g := g) rfl
        have hr := Lib.run_append_grow_string (P := P) w t t' ty e i z ht ht' hi hz ⟨g, 0, none⟩ m cap xs (by rw [hcell, hs1]; omega) holds s0 (by omega) (by omega) (by rw [hbytes]; exact growslice_fits (by omega) (by omega))
        have hgr := grown_row (w := w) hb z (by rw [hzs]) xs (Lib.strCells s0) m s0.size cap (e := e) (by rw [hs1]; omega) (by rw [hsl, hs1, Nat.mul_one]) (by simp only [maxLen]; omega)
        exact ⟨_, _, hr, hgr.1, ⟨hgr.2.os, hgr.2.tape, hgr.2.output, hgr.2.size, fun k hk _ => hgr.2.block k hk (by simp)⟩, .inr rfl⟩
  · have hs := small_of G hhas h47
    rw [hfl] at h47 hs h0
    rw [hflat, hfl]
    have hr := Lib.run_append_grow_string (P := P) w t t' ty e i z ht ht' hi hz ad m m xs (by rw [hcell]; exact hl) hx s0 (by omega) (by omega) (by rw [hbytes]; exact growslice_fits (by omega) (by omega))
    have hgr := grown_row (w := w) hb z (by rw [hzs]) xs (Lib.strCells s0) m s0.size m (e := e) hl (by rw [hsl, hs1, Nat.mul_one]) (by simp only [maxLen]; omega)
    exact ⟨_, _, hr, hgr.1, hgr.2, rfl⟩
end
end Go.Abs
