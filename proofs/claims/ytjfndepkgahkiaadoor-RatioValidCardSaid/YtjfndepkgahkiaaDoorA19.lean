/- EACH OPERATION OF THE MODEL DOES WHAT IS TOLD OF IT (sixteenth part: all of them, joined). -/
import Derived.Test.YtjfndepkgahkiaaDoorA18
set_option linter.unusedVariables false
set_option linter.unusedSimpArgs false
namespace Go.Abs
open Go.RowKit
section
variable {C : Codec} {P : Program} {G : C.Good P} {w0 : Base C} {σ : St C} {as : List Act} {a : Act} {w : World} {pl : Pl} {n : Nat} {H : Nat → Blk C} {o : Oper} {r : Res C}

theorem core_call (h : Rel G w0 σ as a w pl) (hS : Seen H σ.blk) {c : Call} (hop : o.op = .call c) (hm : makes (.call c) = true → σ.blk n = .gone ∧ n < σ.H.length) (hk : coreK P n H (.call c) ((Op.call c).operands.toList.map σ.ev) some = some r) : Out G w0 σ as a w o r := by
  cases hcal : c.callee with
  | value f =>
    obtain ⟨callee, args, argTypes⟩ := c
    simp only at hcal; subst hcal
    exfalso; simp [coreK] at hk
  | invoke f m =>
    obtain ⟨callee, args, argTypes⟩ := c
    simp only at hcal; subst hcal
    exfalso; simp [coreK] at hk
  | builtin b =>
    have e : (Op.call c).operands.toList.map σ.ev = c.args.toList.map σ.ev := by
      simp [Op.operands, Call.operands, hcal]
    rw [e] at hk
    cases b <;> try (obtain ⟨callee, args, argTypes⟩ := c; simp only at hcal; subst hcal; exfalso; simp [coreK] at hk; done)
    case len =>
      match hargs : c.args.toList with
      | [x] => exact out_len h hS hop hcal (by apply Array.ext'; simpa using hargs) (by rw [hargs] at hk; exact hk)
      | [] => rw [hargs] at hk; obtain ⟨callee, args, argTypes⟩ := c; simp only at hcal; subst hcal; simp [coreK] at hk
      | _ :: _ :: _ => rw [hargs] at hk; obtain ⟨callee, args, argTypes⟩ := c; simp only at hcal; subst hcal; simp [coreK] at hk
    case append =>
      obtain ⟨hn, hlen⟩ := hm (by obtain ⟨callee, args, argTypes⟩ := c; simp only at hcal; subst hcal; rfl)
      match hargs : c.args.toList with
      | [x, y] => exact out_append h hS hn hlen hop hcal (by apply Array.ext'; simpa using hargs) (by rw [hargs] at hk; exact hk)
      | [] => rw [hargs] at hk; obtain ⟨callee, args, argTypes⟩ := c; simp only at hcal; subst hcal; simp [coreK] at hk
      | [_] => rw [hargs] at hk; obtain ⟨callee, args, argTypes⟩ := c; simp only at hcal; subst hcal; simp [coreK] at hk
      | _ :: _ :: _ :: _ => rw [hargs] at hk; obtain ⟨callee, args, argTypes⟩ := c; simp only at hcal; subst hcal; simp [coreK] at hk
    case delete =>
      match hargs : c.args.toList with
      | [x, y] => exact out_delete h hS hop hcal (by apply Array.ext'; simpa using hargs) (by rw [hargs] at hk; exact hk)
      | [] => rw [hargs] at hk; obtain ⟨callee, args, argTypes⟩ := c; simp only at hcal; subst hcal; simp [coreK] at hk
      | [_] => rw [hargs] at hk; obtain ⟨callee, args, argTypes⟩ := c; simp only at hcal; subst hcal; simp [coreK] at hk
      | _ :: _ :: _ :: _ => rw [hargs] at hk; obtain ⟨callee, args, argTypes⟩ := c; simp only at hcal; subst hcal; simp [coreK] at hk
    case min => exact out_minmax h hop (.inl hcal) hk
    case max => exact out_minmax h hop (.inr hcal) hk
theorem core_sound (h : Rel G w0 σ as a w pl) (hS : Seen H σ.blk) (hm : makes o.op = true → σ.blk n = .gone ∧ n < σ.H.length) (hk : coreK P n H o.op (σ.vals o.op) some = some r) : Out G w0 σ as a w o r := by
  generalize hop : o.op = op at hk hm
  unfold St.vals at hk
  cases op <;> try (exfalso; simp [coreK] at hk; done)
  case move x =>
    simp only [Op.operands, List.map_cons, List.map_nil, coreK, Option.some.injEq] at hk
    subst hk; exact out_move h (.inl hop)
  case assign x =>
    simp only [Op.operands, List.map_cons, List.map_nil, coreK, Option.some.injEq] at hk
    subst hk; exact out_move h (.inr hop)
  case pick c x y =>
    simp only [Op.operands, List.map_cons, List.map_nil] at hk
    have hc := ev_avr h c
    generalize hcv : σ.ev c = ac at hk hc
    rcases ac with (s | _) | _ | _ <;> try (exfalso; simp [coreK] at hk; done)
    cases s <;> try (exfalso; simp [coreK] at hk; done)
    rename_i t
    simp only [coreK] at hk
    cases t <;> (injection hk with hk; subst hk)
    · exact out_pick h hop hc
    · exact out_pick h hop hc
  case alloc t =>
    obtain ⟨hn, hlen⟩ := hm rfl
    exact out_alloc h hn hlen hop hk
  case box t x =>
    obtain ⟨hn, hlen⟩ := hm rfl
    exact out_box h hn hlen hop hk
  case load t x => exact out_load h hS hop hk
  case store t x y => exact out_store h hS hop hk
  case nilCheck x => exact out_nilCheck h hop hk
  case binOp op t x y t' => exact out_bin h hop hk
  case unOp op t x => exact out_un h hop hk
  case extract x j => exact out_extract h hop hk
  case field t x j => exact out_field h hop hk
  case fieldAddr t x j => exact out_fieldAddr h hop hk
  case indexAddr t x i => exact out_indexAddr h hS hop hk
  case index t x i => exact out_index h hop hk
  case build t ps => exact out_build h hop (by simpa [Op.operands] using hk)
  case buildSlice t len ps =>
    obtain ⟨hn, hlen⟩ := hm rfl
    exact out_buildSlice h hn hlen hop (by simpa [Op.operands] using hk)
  case makeSlice t x y =>
    obtain ⟨hn, hlen⟩ := hm rfl
    exact out_makeSlice h hn hlen hop hk
  case makeFunc f b c => exact out_makeFunc h hop hk
  case slice t x lo hi mx =>
    obtain ⟨hn, hlen⟩ := hm rfl
    have e : (Op.slice t x lo hi mx).operands.toList.map σ.ev = σ.ev x :: (lo.toList.map σ.ev ++ (hi.toList.map σ.ev ++ mx.toList.map σ.ev)) := by
      cases lo <;> cases hi <;> cases mx <;> rfl
    rw [e] at hk
    by_cases hs : ∃ s0, σ.ev x = .fl (.one (.str s0))
    · obtain ⟨s0, hs⟩ := hs
      exact out_sliceStr h hop hs hk
    · exact out_slice h hS hn hlen hop (fun s0 e => hs ⟨s0, e⟩) hk
  case makeMap t r =>
    obtain ⟨hn, hlen⟩ := hm rfl
    cases r with
    | none => exact out_makeMap h hn hlen hop hk
    | some r => exfalso; simp [coreK] at hk
  case mapUpdate t m x y => exact out_mapUpdate h hS hop (by simpa [Op.operands] using hk)
  case lookup t m x ok => exact out_lookup h hS hop (by simpa [Op.operands] using hk)
  case convert s d x =>
    obtain ⟨hn, hlen⟩ := hm rfl
    by_cases hs : ∃ s0 e, σ.ev x = .fl (.one (.str s0)) ∧ P.underlying d = some (.slice e)
    · obtain ⟨s0, e, hs, hd⟩ := hs
      exact out_convert_new h hn hlen hop hs hd hk
    · by_cases hm2 : ∃ b e e', σ.ev x = .fl (.one (.sl b)) ∧ P.underlying s = some (.slice e) ∧ P.underlying d = some (.slice e')
      · obtain ⟨b, e, e', h1, h2, h3⟩ := hm2
        exact out_convert_mark h hS hop h1 h2 h3 hk
      · exact out_convert_read h hS hop hk (fun s0 e h1 h2 => hs ⟨s0, e, h1, h2⟩) (fun b e e' h1 h2 h3 => hm2 ⟨b, e, e', h1, h2, h3⟩)
  case call c => exact core_call h hS hop hm hk
end
end Go.Abs
