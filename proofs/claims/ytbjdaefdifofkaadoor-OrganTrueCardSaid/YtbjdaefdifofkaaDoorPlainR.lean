/- This text shows a tuning read rightly: plain. No conditions of its own. -/
import Derived.Test.YtbjdaefdifofkaaDoorPlain
set_option linter.unusedSimpArgs false
set_option linter.unusedVariables false
set_option linter.unusedVariables false
set_option linter.unusedSimpArgs false
/-! What is rightly tuned, and held against the fork. -/
namespace Go.Organ
def tuneR (l : List Int) (e : Int) (t : T4) : T4 := ⟨t.src, t.dst, max (-30) (min 30 (l.getD t.dst.toNat 0 - l.getD t.src.toNat 0 + e)), t.err⟩
def forkR (l : List Int) (e : Int) (f : F3) : F3 := ⟨f.pipe, l.getD f.pipe.toNat 0 + e, f.err⟩
def tunesR (l : List Int) (d : Nat → Int → Int) : List T4 → Nat → List T4
  | [], _ => []
  | t :: ts, k => tuneR l (d k t.err) t :: tunesR l d ts (k + 1)
def forksR (l : List Int) (d : Nat → Int → Int) : List F3 → Nat → List F3
  | [], _ => []
  | f :: fs, k => forkR l (d k f.err) f :: forksR l d fs (k + 1)
theorem tunesR_len (l : List Int) (d : Nat → Int → Int) : ∀ (ts : List T4) (k : Nat), (tunesR l d ts k).length = ts.length
  | [], _ => rfl
  | t :: ts, k => by rw [tunesR, List.length_cons, tunesR_len l d ts (k + 1), List.length_cons]
theorem forksR_len (l : List Int) (d : Nat → Int → Int) : ∀ (fs : List F3) (k : Nat), (forksR l d fs k).length = fs.length
  | [], _ => rfl
  | t :: ts, k => by rw [forksR, List.length_cons, forksR_len l d ts (k + 1), List.length_cons]
def highsOf (l : List Int) : Nat → Int := fun i => if i = 5 then 0 else l.getD i 0
theorem mem_tunesR {l : List Int} {d : Nat → Int → Int} {u : T4} : ∀ (ts : List T4) (k : Nat), u ∈ tunesR l d ts k → ∃ t ∈ ts, ∃ j, u = tuneR l (d j t.err) t
  | [], _, h => by cases h
  | t :: ts, k, h => by
    rcases List.mem_cons.1 h with rfl | h
    · exact ⟨t, .head _, k, rfl⟩
    · obtain ⟨t', h1, h2⟩ := mem_tunesR ts (k + 1) h
      exact ⟨t', .tail _ h1, h2⟩
theorem mem_forksR {l : List Int} {d : Nat → Int → Int} {u : F3} : ∀ (fs : List F3) (k : Nat), u ∈ forksR l d fs k → ∃ f ∈ fs, ∃ j, u = forkR l (d j f.err) f
  | [], _, h => by cases h
  | t :: ts, k, h => by
    rcases List.mem_cons.1 h with rfl | h
    · exact ⟨t, .head _, k, rfl⟩
    · obtain ⟨t', h1, h2⟩ := mem_forksR ts (k + 1) h
      exact ⟨t', .tail _ h1, h2⟩
section
variable {N : Nat} {fs : List F3} {ts : List T4} {l : List Int} {d d' : Nat → Int → Int}
theorem rightly_ok (h : BOk N fs ts) (hl : ∀ p, p < N → -15 ≤ l.getD p 0 ∧ l.getD p 0 ≤ 15) (hd : ∀ k e, 0 ≤ e → -e ≤ d k e ∧ d k e ≤ e) (hd' : ∀ k e, 0 ≤ e → -e ≤ d' k e ∧ d' k e ≤ e) : BOk N (forksR l d' fs 0) (tunesR l d ts 0) where
  one := h.one
  five := h.five
  forks u hu := by
    obtain ⟨f, hf, j, rfl⟩ := mem_forksR fs 0 hu
    have h1 := h.forks f hf
    have a := h1.pipe; have b := h1.err
    have := hd' j f.err b.1
    have := hl f.pipe.toNat (by omega)
    exact ⟨a, by unfold forkR; dsimp only; omega, b⟩
  tunes u hu := by
    obtain ⟨t, ht, j, rfl⟩ := mem_tunesR ts 0 hu
    have h1 := h.tunes t ht
    exact ⟨h1.src, h1.dst, h1.ne, by unfold tuneR; dsimp only; omega, h1.err⟩
theorem rightly_stand (h : BOk N fs ts) (hl : ∀ p, p < N → -15 ≤ l.getD p 0 ∧ l.getD p 0 ≤ 15) (hd : ∀ k e, 0 ≤ e → -e ≤ d k e ∧ d k e ≤ e) (hd' : ∀ k e, 0 ≤ e → -e ≤ d' k e ∧ d' k e ≤ e) : Stand N (forksR l d' fs 0) (tunesR l d ts 0) (highsOf l) where
  town p hp := by
    have := hl p hp
    have := h.five
    unfold highsOf
    rw [if_neg (by omega), if_pos rfl]
    omega
  forks u hu := by
    obtain ⟨f, hf, j, rfl⟩ := mem_forksR fs 0 hu
    have h1 := h.forks f hf
    have a := h1.pipe; have b := h1.err
    have := hd' j f.err b.1
    have := h.five
    unfold highsOf forkR
    dsimp only
    rw [if_neg (by omega), if_pos rfl]
    omega
  tunes u hu := by
    obtain ⟨t, ht, j, rfl⟩ := mem_tunesR ts 0 hu
    have h1 := h.tunes t ht
    have a := h1.src; have b := h1.dst; have c := h1.err
    have := hd j t.err c.1
    have := h.five
    have := hl t.src.toNat (by omega)
    have := hl t.dst.toNat (by omega)
    unfold highsOf tuneR
    dsimp only
    rw [if_neg (by omega), if_neg (by omega)]
    omega
end
end Go.Organ
