/- This text shows keys of fewer parts. No conditions of its own. -/
import Derived.Test.YtbjdaefdifofkaaDoorLawsM
import Derived.Test.YtbjdaefdifofkaaDoorCodesL11
set_option linter.unusedSimpArgs false
set_option linter.unusedVariables false
set_option maxRecDepth 100000
set_option linter.unusedSimpArgs false
set_option linter.unusedVariables false
/-! The law of parts that are left out: its loop, keys of fewer parts. -/
namespace Go.Ai
open Go.Organ (T4 F3 Tb T6 shL shH keysL keysF allS)
def head11_0 (lr mr or : AV) (k : Int) : Env := mkE 189 .any [(20, I k), (18, or), (16, mr), (9, lr)]
theorem in_not {y : Int} {m : List Int} (h : y ∈ m) : ¬ idx y m 0 < 0 := by
  have h1 := idx_nonneg y m 0
  rw [decide_eq_decide] at h1
  have := h1.2 h
  omega
theorem loop11_0 (l0 m o : List Int) (lr mr or : AV) (hr : IsRow 1 (ints l0) lr) (hm : IsRow 1 (ints m) mr) (ho : IsRow 1 (ints o) or) (hl : l0.length < 1000) (hml : m.length < 1000) (hol : o.length < 1000) (hsub : ∀ y ∈ l0, y ∈ m) (hsubo : ∀ y ∈ l0, y ∈ o) (σ : St) (s1 : σ.ro ≤ σ.boxes.length) (s2 : σ.mro ≤ σ.maps.length) : ∀ (l : List Int) (k : Nat), k ≤ l0.length → l0.drop k = l →
    run Cv 11 (.loop keep11_0 body11_0) (head11_0 lr mr or k) σ = some (.ex 0, mkE 189 .any [(169, .bool false), (168, I l0.length), (167, lr), (166, I l0.length), (20, I l0.length), (18, or), (16, mr), (9, lr)], σ)
  | [], k, hk, h => by
    obtain rfl := drop_nil hk h
    have hlen := row_len hr
    rw [run_loop]
    simp (maxSteps := 10000000) [-List.getD_eq_getElem?_getD, body11_0, keep11_0, head11_0, hlen]
  | y :: l, k, hk, h => by
    obtain ⟨hlt, ha, hd⟩ := head_drop h
    have hlen := row_len hr
    have hw := wrap_succ hlt (by omega)
    have hlt' : (k : Int) < (l0.length : Int) := by omega
    have hix : ixsA 1 lr (I k) = some (.rp [I y] 0) := by
      obtain ⟨c, hc, hr⟩ := row_sl hr (by intro hn; subst hn; simp at hlt)
      rw [hr]
      simp [ixsA, ints, hlt, ha, AV.cells]
    have hlr : ∀ σ, loadA σ none (.rp [I y] 0) = some (I y) := fun _ => rfl
    have hwc := where_call m mr hm (by omega) y
    have hwo := where_call o or ho (by omega) y
    have hneg : ¬ idx y m 0 < 0 := in_not (hsub y (ha ▸ List.getElem_mem _))
    have hnego : ¬ idx y o 0 < 0 := in_not (hsubo y (ha ▸ List.getElem_mem _))
    have hcut := fun e => cut_self σ e s1 s2
    have hmp := hm.pur
    have hop := ho.pur
    have step : run Cv 11 (.loop keep11_0 body11_0) (head11_0 lr mr or k) σ = run Cv 11 (.loop keep11_0 body11_0) (head11_0 lr mr or (k + 1)) σ := by
      rw [run_loop]
      generalize MC.loop keep11_0 body11_0 = L'
      simp (maxSteps := 10000000) [-List.getD_eq_getElem?_getD, -loadA, -cut, -ixsA, body11_0, keep11_0, head11_0, hlen, hlt', hw, hix, hlr, hmp, hop, hwc, hwo, hneg, hnego, hcut]
    rw [step]
    exact loop11_0 l0 m o lr mr or hr hm ho hl hml hol hsub hsubo σ s1 s2 l (k + 1) hlt hd
theorem keys_ne {x : OB} (hx : x.Ok) {week : Int} {ps : List P3} {r : AV} {e : Int} (hr : PRow ps r) (he : askE x (pieceB x week ps) = e) (h0 : e ≠ 0) : call Cv 26 [x.av, I week, r] = some (.tup [.nils, I e]) := by
  have h := Keys_call x hx week ps r hr
  rw [he, keysO, if_neg (by rw [he]; exact h0)] at h
  exact h
theorem prow (ps : List P3) (c : Cap) (hc : c.pure = c) (hl : ps.length < 1000) : PRow ps (.sl 3 (ps.map paA) c) := ⟨.inr (.inr ⟨c, hc, rfl⟩), by omega⟩
theorem piece_is {x : OB} {w : Int} (hw : lie w 0 (IntKind.wrap .i64 (x.voice.weeks - 1)) = true) {ps : List P3} (h1 : 1 ≤ ps.length) (h4 : ps.length ≤ 4) : pieceB x w ps = ps.all (partOk x) := by
  have h : lie (ps.length : Int) 1 4 = true := lie_true (by omega)
  rw [pieceB, hw, h, Bool.true_and, Bool.true_and]
theorem part_less {x : OB} {p q : P3} (hp : partOk x p = true) (hb : q.boy = p.boy) (h1 : p.low ≤ q.low) (h2 : q.low ≤ q.high) (h3 : q.high ≤ p.high) : partOk x q = true := by
  simp only [partOk, Bool.and_eq_true, decide_eq_true_eq] at hp ⊢
  rw [hb]
  exact ⟨hp.1, by omega, by omega, by omega⟩
theorem sung_less {x : OB} {w sl sh : Int} {p q : P3} {y : Int} (hp : sungO x w sl sh p y = true) (hb : q.boy = p.boy) (h1 : p.low ≤ q.low) (h3 : q.high ≤ p.high) : sungO x w sl sh q y = true := by
  unfold sungO at hp ⊢
  rw [hb]
  exact Organ.allS_mono (by omega) (by omega) hp
/-- Keys of a part, if there are such of two. -/
theorem keys_sub {x : OB} {w sl sh : Int} {ps qs : List P3} (h : ∀ q ∈ qs, ∃ p ∈ ps, q.boy = p.boy ∧ p.low ≤ q.low ∧ q.high ≤ p.high) : ∀ y ∈ keysL (keyOk26 x w sl sh ps), y ∈ keysL (keyOk26 x w sl sh qs) := fun y hy => by
  rw [Organ.mem_keysL] at hy ⊢
  refine ⟨hy.1, hy.2.1, ?_⟩
  have h3 := hy.2.2
  simp only [keyOk26, List.all_eq_true] at h3 ⊢
  intro q hq
  obtain ⟨p, hp, hb, h1, h2⟩ := h q hq
  exact sung_less (h3 p hp) hb h1 h2
end Go.Ai
