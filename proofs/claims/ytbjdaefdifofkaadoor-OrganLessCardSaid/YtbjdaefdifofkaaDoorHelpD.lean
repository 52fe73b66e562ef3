/- This text shows one tuning or fork more. No conditions of its own. -/
import Derived.Test.YtbjdaefdifofkaaDoorLawsS
set_option linter.unusedSimpArgs false
set_option linter.unusedVariables false
set_option maxRecDepth 100000
set_option linter.unusedSimpArgs false
set_option linter.unusedVariables false
/-! One tuning more; one fork more. -/
namespace Go.Ai
open Go.Organ (T4 F3 Tb T6)
/-- A row is copied, and something put behind it. -/
theorem join_row {sz bytes : Nat} {es : List AV} {r : AV} (hr : IsRow sz es r) (hb : (es.length + 1) * bytes ≤ 140737488355328) (v : AV) (B : List (List AV)) :
    ∃ y ch, appA { boxes := B } false sz bytes true (.sl sz [] .full) r = some (y, { boxes := B, chains := ch }) ∧ appA { boxes := B, chains := ch } false sz bytes true y (.sl sz [v] .full) = some (.sl sz (es ++ [v]) (.chain 0), { boxes := B, chains := [(es.length + 1, sz)] }) := by
  have hb1 : bytes ≤ 140737488355328 := by
    have : bytes ≤ (es.length + 1) * bytes := Nat.le_mul_of_pos_left _ (by omega)
    omega
  have hb0 : es.length * bytes ≤ 140737488355328 := Nat.le_trans (Nat.mul_le_mul_right _ (by omega)) hb
  by_cases he : es = []
  · subst he
    refine ⟨.sl sz [] .full, [], ?_, ?_⟩
    · rcases hr with ⟨rfl, _⟩ | ⟨rfl, _⟩ | ⟨c, hc, rfl⟩ <;> simp [appA, elemsA, isSl]
    · simp [appA, elemsA, grown, hb1]
  · obtain ⟨c, hc, rfl⟩ := hr.sl he
    refine ⟨.sl sz es (.chain 0), [(es.length, sz)], ?_, ?_⟩
    · simp [appA, elemsA, grown, he, hb0]
    · simp [appA, elemsA, hb]
def OB.more (x : OB) (t : T4) : OB := x.tuned (x.tunes ++ [t]) (.sl 4 ((x.tunes ++ [t]).map tuA) .no)
def OB.forkMore (x : OB) (f : F3) : OB := x.forked (x.forks ++ [f]) (.sl 3 ((x.forks ++ [f]).map foA) .no)
theorem more_ok {x : OB} (hx : x.Ok) (hl : x.tunes.length < 1000) (t : T4) : (x.more t).Ok := tuned_ok hx (.inr (.inr ⟨.no, rfl, rfl⟩)) (by simp; omega)
theorem forkMore_ok {x : OB} (hx : x.Ok) (hl : x.forks.length < 1000) (f : F3) : (x.forkMore f).Ok := forked_ok hx (.inr (.inr ⟨.no, rfl, rfl⟩)) (by simp; omega)
theorem more_chk {x : OB} (hc : Chk x) (hl : x.tunes.length < 6) {t : T4} (ht : Organ.TOk x.N t) : Chk (x.more t) := tuned_chk hc (fun u hu => by
  rcases List.mem_append.1 hu with hu | hu
  · exact hc.b.tunes u hu
  · rw [List.mem_singleton.1 hu]; exact ht) (by simp; omega)
theorem forkMore_chk {x : OB} (hc : Chk x) (hl : x.forks.length < 3) {f : F3} (hf : Organ.FOk x.N f) : Chk (x.forkMore f) := forked_chk hc (fun u hu => by
  rcases List.mem_append.1 hu with hu | hu
  · exact hc.b.forks u hu
  · rw [List.mem_singleton.1 hu]; exact hf) (by simp; omega)
theorem with_call (x : OB) (hx : x.Ok) (hl : x.tunes.length < 1000) (t : T4) : call Cv 47 [x.av, tuA t] = some (x.more t).av := by
  have hcl := xcells_cell x hx
  have hav : x.av.cells = x.cells := rfl
  have hxl : x.cells.length = 6 := rfl
  have hbox : boxA {} x.av = some (.box 0 0, { boxes := [x.cells] }) := by
    simp only [boxA, OB.av, AV.cells, hcl, if_true]; rfl
  have hbox2 : boxA { boxes := [x.cells] } (tuA t) = some (.box 1 0, { boxes := [x.cells, [I t.src, I t.dst, I t.off, I t.err]] }) := rfl
  obtain ⟨y, ch, j1, j2⟩ := join_row (sz := 4) (bytes := 32) hx.trow (by simp; omega) (tuA t) [x.cells, [I t.src, I t.dst, I t.off, I t.err], [I 0, .nils, .nils, .nils, I 0, .nils], x.cells]
  have hz : setAt [I 0, .nils, .nils, .nils, I 0, .nils] 0 x.cells = x.cells := rfl
  have hx1 : x.cells[1]? = some x.tr := rfl
  have hx1g : ∀ h : 1 < x.cells.length, x.cells[1]'h = x.tr := fun _ => rfl
  have hp4 : partA (some 4) [I t.src, I t.dst, I t.off, I t.err] 0 = some (tuA t) := rfl
  have hr0 : ∀ z : AV, List.replicate 0 z = [] := fun _ => rfl
  have hr1 : ∀ z : AV, List.replicate 1 z = [z] := fun _ => rfl
  have hf0 : fillE 4 true [] [] = some [] := rfl
  have hf1 : ∀ z, fillE 4 true [(0, tuA t)] [z] = some [tuA t] := fun _ => rfl
  have hs1 : ∀ v : AV, setAt x.cells 1 [v] = [I x.pipes, v, x.fr, x.br, I x.voice.weeks, x.vr] := fun _ => rfl
  have hp6 : ∀ a b c d e f : AV, partA (some 6) [a, b, c, d, e, f] 0 = some (.agg [a, b, c, d, e, f]) := fun _ _ _ _ _ _ => rfl
  have hs6 : ∀ a b c d e f : AV, setAt [I 0, .nils, .nils, .nils, I 0, .nils] 0 [a, b, c, d, e, f] = [a, b, c, d, e, f] := fun _ _ _ _ _ _ => rfl
  have c1 := hx.frow.cell
  have c2 := br_cell x
  have c3 := vr_cell x
  have q1 := hx.frow.pur
  have q2 := br_pur x
  have q3 := vr_pur x
  have hm : (x.more t).av = .agg [I x.pipes, .sl 4 (x.tunes.map tuA ++ [tuA t]) .no, x.fr, x.br, I x.voice.weeks, x.vr] := by
    show AV.agg [I x.pipes, .sl 4 ((x.tunes ++ [t]).map tuA) .no, x.fr, x.br, I x.voice.weeks, x.vr] = _
    rw [List.map_append]; rfl
  rw [hm]
  rw [call_run comp47 (Nat.le_of_ble_eq_true rfl)]
  simp (maxSteps := 10000000) [-List.getD_eq_getElem?_getD, -boxA, -partA, -setAt, -List.all_eq_true, part_none, part_x, code47, hbox, hbox2, hav, hcl, hxl, hz, hx1, hx1g, hp4, hr0, hr1, hf0, hf1, j1, j2, hs1, hp6, hs6, c1, c2, c3, q1, q2, q3]
/-- The book with one tuning more: can it be true? -/
theorem right_more {x : OB} (hx : x.Ok) (hc : Chk x) (ht : trueO x = true) (hl : x.tunes.length < 6) {t : T4} (hto : Organ.TOk x.N t) : call Cv 15 [(x.more t).av] = some (.tup [.bool (Organ.isO x.N x.forks (x.tunes ++ [t])), I 0]) := by
  have h := Right_call (x.more t) (more_ok hx (by omega) t)
  have hch := (chk_iff _).2 (more_chk hc hl hto)
  have hv : Vc.fine x.voice [] = true := by
    rw [true_iff, Bool.and_eq_true] at ht; exact ht.1
  have : rightB (x.more t) = Organ.isO x.N x.forks (x.tunes ++ [t]) := by
    rw [rightB, hch, true_iff]
    show (true && (Vc.fine x.voice [] && _)) = _
    rw [hv]; rfl
  rw [this, rightE, hch, if_pos rfl] at h
  exact h
theorem right_forkMore {x : OB} (hx : x.Ok) (hc : Chk x) (ht : trueO x = true) (hl : x.forks.length < 3) {f : F3} (hf : Organ.FOk x.N f) : call Cv 15 [(x.forkMore f).av] = some (.tup [.bool (Organ.isO x.N (x.forks ++ [f]) x.tunes), I 0]) := by
  have h := Right_call (x.forkMore f) (forkMore_ok hx (by omega) f)
  have hch := (chk_iff _).2 (forkMore_chk hc hl hf)
  have hv : Vc.fine x.voice [] = true := by
    rw [true_iff, Bool.and_eq_true] at ht; exact ht.1
  have : rightB (x.forkMore f) = Organ.isO x.N (x.forks ++ [f]) x.tunes := by
    rw [rightB, hch, true_iff]
    show (true && (Vc.fine x.voice [] && _)) = _
    rw [hv]; rfl
  rw [this, rightE, hch, if_pos rfl] at h
  exact h
theorem fits_t {x : OB} (hx : x.Ok) (hc : Chk x) (ht : trueO x = true) {t : T4} (hto : Organ.TOk x.N t) : call Cv 31 [x.av, tuA t] = some (.tup [.bool (Organ.isO x.N x.forks (x.tunes ++ [t])), I 0]) := by
  have h := Fits_call x hx t
  have h1 : tuneOk x t = true := (tuneOk_iff hc.p).2 hto
  have h0 : askE x true = 0 := by rw [askE_true hc, tE, ht]; rfl
  rw [h1, h0, fitsO, h1, if_pos h0] at h
  exact h
end Go.Ai
