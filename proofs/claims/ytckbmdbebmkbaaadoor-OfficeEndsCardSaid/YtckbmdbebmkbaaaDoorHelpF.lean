/- This text shows feasts that are written. No conditions of its own. -/
import Derived.Test.YtckbmdbebmkbaaaDoorHelpD
import Derived.Test.YtckbmdbebmkbaaaDoorPlainE
set_option linter.unusedSimpArgs false
set_option linter.unusedVariables false
set_option maxRecDepth 100000
namespace Go.Ai
open Go.Office (Ft Rl Us Nt Bk)
section
variable {α : Type} {c : α → List AV} {sz : Nat}
theorem flatC_len (hc : ∀ a, (c a).length = sz) : ∀ l : List α, (l.flatMap c).length = l.length * sz
  | [] => by simp
  | a :: l => by rw [List.flatMap_cons, List.length_append, hc, flatC_len hc l, List.length_cons]; simp [Nat.add_mul, Nat.add_comm]
theorem flatC_get (hc : ∀ a, (c a).length = sz) {a : α} {j : Nat} (hj : j < sz) : ∀ (l : List α) (i : Nat), l[i]? = some a → (l.flatMap c)[i * sz + j]? = (c a)[j]?
  | [], _, h => by cases h
  | b :: l, 0, h => by
    simp only [List.getElem?_cons_zero, Option.some.injEq] at h
    subst h
    rw [List.flatMap_cons, Nat.zero_mul, Nat.zero_add, List.getElem?_append_left (by rw [hc]; exact hj)]
  | b :: l, i + 1, h => by
    rw [List.flatMap_cons, List.getElem?_append_right (by rw [hc, Nat.add_mul]; omega), hc, show (i + 1) * sz + j - sz = i * sz + j from by rw [Nat.add_mul]; omega]
    exact flatC_get hc hj l i (by simpa using h)
theorem flatC_set (hc : ∀ a, (c a).length = sz) {a b : α} {j : Nat} (hj : j < sz) {v : AV} (hb : c b = (c a).set j v) : ∀ (l : List α) (i : Nat), l[i]? = some a → setAt (l.flatMap c) (i * sz + j) [v] = (l.set i b).flatMap c
  | [], _, h => by cases h
  | d :: l, 0, h => by
    simp only [List.getElem?_cons_zero, Option.some.injEq] at h
    subst h
    have hl : j < (c d).length := by rw [hc]; exact hj
    rw [List.flatMap_cons, Nat.zero_mul, Nat.zero_add, List.set_cons_zero, List.flatMap_cons, hb, setAt]
    simp only [List.length_singleton, List.length_cons, List.length_nil]
    rw [List.take_append_of_le_length (by omega), List.drop_append_of_le_length (by omega), List.set_eq_take_append_cons_drop, if_pos hl]
    simp
  | d :: l, i + 1, h => by
    have ih := flatC_set hc hj hb l i (by simpa using h)
    have hge : (i + 1) * sz + j = (c d).length + (i * sz + j) := by rw [hc, Nat.add_mul]; omega
    rw [List.flatMap_cons, List.set_cons_succ, List.flatMap_cons, ← ih, setAt, setAt, hge, List.take_length_add_append, Nat.add_assoc, List.drop_length_add_append]
    simp
theorem flatC_chunk (hc : ∀ a, (c a).length = sz) : ∀ l : List α, chunk sz true l.length (l.flatMap c) = l.map fun a => .agg (c a)
  | [] => rfl
  | a :: l => by
    rw [List.flatMap_cons, List.length_cons, chunk, List.map_cons, if_pos rfl, List.take_append_of_le_length (by rw [hc]; exact Nat.le_refl _), List.drop_append_of_le_length (by rw [hc]; exact Nat.le_refl _), List.take_of_length_le (by rw [hc]; exact Nat.le_refl _), List.drop_eq_nil_of_le (by rw [hc]; exact Nat.le_refl _), List.nil_append, flatC_chunk hc l]
theorem flatC_pur {σ : St} {n : Nat} (hp : ∀ a, purAll (pur σ n) (c a) = some (c a, false)) : ∀ l : List α, purAll (pur σ n) (l.flatMap c) = some (l.flatMap c, false)
  | [] => rfl
  | a :: l => by
    have key : ∀ (xs ys : List AV), purAll (pur σ n) xs = some (xs, false) → purAll (pur σ n) ys = some (ys, false) → purAll (pur σ n) (xs ++ ys) = some (xs ++ ys, false) := by
      intro xs
      induction xs with
      | nil => intro ys _ h; exact h
      | cons v vs ih =>
        intro ys h1 h2
        rw [purAll, Option.bind_eq_some_iff] at h1
        obtain ⟨r, hr, h1⟩ := h1
        rw [Option.bind_eq_some_iff] at h1
        obtain ⟨s, hs, h1⟩ := h1
        simp only [Option.some.injEq, Prod.mk.injEq, List.cons.injEq, Bool.or_eq_false_iff] at h1
        obtain ⟨⟨e1, e2⟩, e3, e4⟩ := h1
        have hs' : purAll (pur σ n) vs = some (vs, false) := by rw [hs]; cases s; simp_all
        rw [List.cons_append, purAll, hr, Option.bind_some, ih ys hs' h2, Option.bind_some]
        simp [e1, e3]
    rw [List.flatMap_cons]
    exact key _ _ (hp a) (flatC_pur hp l)
end

def flat (fs : List Ft) : List AV := fs.flatMap ftC
theorem flat_len (fs : List Ft) : (flat fs).length = fs.length * 3 := flatC_len (c := ftC) (sz := 3) (fun _ => rfl) fs
theorem flat_cell (fs : List Ft) : (flat fs).all AV.isCell = true := by
  unfold flat
  rw [List.all_eq_true]
  intro v hv
  obtain ⟨f, hf, hv⟩ := List.mem_flatMap.1 hv
  have : (ftC f).all AV.isCell = true := rfl
  exact List.all_eq_true.1 this v hv
theorem flat_under (fs : List Ft) (a b c d n : Nat) : (flat fs).all (under a b c d (n + 1)) = true := by
  unfold flat
  rw [List.all_eq_true]
  intro v hv
  obtain ⟨f, hf, hv⟩ := List.mem_flatMap.1 hv
  have : (ftC f).all (under a b c d (n + 1)) = true := rfl
  exact List.all_eq_true.1 this v hv
theorem wr_pur {σ : St} {P : Nat} {fs : List Ft} (h : σ.boxes[P]? = some (flat fs)) (n : Nat) : pur σ (n + 2) (.wsl P 0 fs.length 3 true) = some (.sl 3 (fs.map ftA) .no, true) := by
  have h1 : purAll (pur σ (n + 1)) (flat fs) = some (flat fs, false) := flatC_pur (c := ftC) (fun _ => rfl) fs
  have h2 : 0 + fs.length * 3 ≤ (flat fs).length := by rw [flat_len]; omega
  have h3 : chunk 3 true fs.length (flat fs) = fs.map ftA := flatC_chunk (c := ftC) (sz := 3) (fun _ => rfl) fs
  simp only [pur, h, Option.bind_some, h1, h2, true_or, and_self, if_true, List.drop_zero, h3]
theorem wr_ix (P n : Nat) {k : Nat} (h : k < n) : ixsA 3 (.wsl P 0 n 3 true) (I k) = some (.box P (k * 3)) := by
  have h0 : (0 : Int) ≤ k := by omega
  have h1 : (k : Int) < (n : Int) := by omega
  simp [ixsA, h0, h1]
theorem wr_app (B : List (List AV)) (fs : List Ft) (hf : fs ≠ []) (h4 : fs.length ≤ 4) {fr : AV} (hr : IsRow 3 (fs.map ftA) fr) : appA { boxes := B } true 3 24 true (.sl 3 [] .full) fr = some (.wsl B.length 0 fs.length 3 true, { boxes := B ++ [flat fs] }) := by
  obtain ⟨c, hc, rfl⟩ := hr.sl (by simpa using hf)
  have hne : fs.map ftA ≠ [] := by simpa using hf
  have hby : (fs.map ftA).length * 24 ≤ 140737488355328 := by rw [List.length_map]; omega
  have hfl : (fs.map ftA).flatMap AV.cells = flat fs := by
    unfold flat
    rw [List.flatMap_map]
    rfl
  have hcl := flat_cell fs
  rw [← hfl] at hcl
  simp only [appA, elemsA, Option.bind_some, hne, if_false, if_true, List.nil_append, hby, and_self, grown, hcl]
  rw [hfl]
  simp
theorem wr_app0 (B : List (List AV)) {fr : AV} (hr : IsRow 3 (([] : List Ft).map ftA) fr) : appA { boxes := B } true 3 24 true (.sl 3 [] .full) fr = some (.sl 3 [] .full, { boxes := B }) := by
  rcases hr with ⟨rfl, _⟩ | ⟨rfl, _⟩ | ⟨c, hc, rfl⟩ <;> simp [appA, elemsA, isSl]
theorem flat_rank (fs : List Ft) {k : Nat} (hk : k < fs.length) (v : Int) : setAt (flat fs) (k * 3 + 2) [I v] = flat (fs.set k { fs[k] with rank := v }) :=
  flatC_set (c := ftC) (sz := 3) (fun _ => rfl) (by decide) (a := fs[k]) (b := { fs[k] with rank := v }) rfl fs k (List.getElem?_eq_getElem hk)
theorem flat_days (fs : List Ft) {k : Nat} (hk : k < fs.length) (v : Int) : setAt (flat fs) (k * 3) [I v, I v] = flat (fs.set k { fs[k] with lo := v, hi := v }) := by
  have h1 : setAt (flat fs) (k * 3 + 0) [I v] = flat (fs.set k { fs[k] with lo := v }) := flatC_set (c := ftC) (sz := 3) (fun _ => rfl) (by decide) (a := fs[k]) (b := { fs[k] with lo := v }) rfl fs k (List.getElem?_eq_getElem hk)
  have hk2 : k < (fs.set k { fs[k] with lo := v }).length := by simpa using hk
  have h2 : setAt (flat (fs.set k { fs[k] with lo := v })) (k * 3 + 1) [I v] = flat ((fs.set k { fs[k] with lo := v }).set k { fs[k] with lo := v, hi := v }) := flatC_set (c := ftC) (sz := 3) (fun _ => rfl) (by decide) (a := { fs[k] with lo := v }) (b := { fs[k] with lo := v, hi := v }) rfl _ k (by rw [List.getElem?_set_self hk])
  have hl := flat_len fs
  rw [List.set_set] at h2
  rw [← h2, ← h1]
  unfold setAt
  simp only [Nat.add_zero, List.length_cons, List.length_nil]
  have h3 : (List.take (k * 3) (flat fs) ++ [I v] ++ List.drop (k * 3 + (0 + 1)) (flat fs)).take (k * 3 + 1) = List.take (k * 3) (flat fs) ++ [I v] := by
    rw [List.take_left']
    simp; omega
  have h4 : (List.take (k * 3) (flat fs) ++ [I v] ++ List.drop (k * 3 + (0 + 1)) (flat fs)).drop (k * 3 + 1 + (0 + 1)) = List.drop (k * 3 + (0 + 1 + 1)) (flat fs) := by
    have hl2 : (List.take (k * 3) (flat fs) ++ [I v]).length = k * 3 + 1 := by simp; omega
    rw [List.drop_append, hl2, List.drop_eq_nil_of_le (by omega), List.nil_append, List.drop_drop]
    congr 1
    omega
  rw [h3, h4]
  simp
theorem wr_load {B : List (List AV)} {P : Nat} {fs : List Ft} (h : B[P]? = some (flat fs)) {k : Nat} (hk : k < fs.length) (σ : St) (hσ : σ.boxes = B) : loadA σ none (.box P (k * 3 + 2)) = some (I fs[k].rank) := by
  have := flatC_get (c := ftC) (sz := 3) (fun _ => rfl) (j := 2) (by decide) fs k (List.getElem?_eq_getElem hk)
  simp only [loadA, hσ, h, Option.bind_some, partA]
  exact this
theorem wr_store {B : List (List AV)} {P : Nat} {fs : List Ft} (h : B[P]? = some (flat fs)) {k : Nat} (hk : k < fs.length) (v : Int) : storeA { boxes := B } 1 (.box P (k * 3 + 2)) (I v) = some { boxes := B.set P (flat (fs.set k { fs[k] with rank := v })) } := by
  have h1 : (I v).cells = [I v] := rfl
  have h2 : (k * 3 + 2) + 1 ≤ (flat fs).length := by rw [flat_len]; omega
  have h3 : ([I v] : List AV).all AV.isCell = true := rfl
  have h4 : ([I v] : List AV).length = 1 := rfl
  simp only [storeA, h, Option.bind_some, Nat.zero_le, h1, h2, h3, h4, and_self, if_true, flat_rank fs hk]
theorem wr_store2 {B : List (List AV)} {P : Nat} {fs : List Ft} (h : B[P]? = some (flat fs)) {k : Nat} (hk : k < fs.length) (v : Int) : storeA { boxes := B } 2 (.box P (k * 3)) (.agg [I v, I v]) = some { boxes := B.set P (flat (fs.set k { fs[k] with lo := v, hi := v })) } := by
  have h1 : (AV.agg [I v, I v]).cells = [I v, I v] := rfl
  have h2 : (k * 3) + 2 ≤ (flat fs).length := by rw [flat_len]; omega
  have h3 : ([I v, I v] : List AV).all AV.isCell = true := rfl
  have h4 : ([I v, I v] : List AV).length = 2 := rfl
  simp only [storeA, h, Option.bind_some, Nat.zero_le, h1, h2, h3, h4, and_self, if_true, flat_days fs hk]
def OB.fst (x : OB) (fs : List Ft) (fr : AV) (ns : List Nt) (nr : AV) : OB := { x with fs := fs, fr := fr, ns := ns, nr := nr }
theorem fst_ok {x : OB} (hx : x.Ok) {fs : List Ft} {fr : AV} {ns : List Nt} {nr : AV} (h1 : IsRow 3 (fs.map ftA) fr) (h2 : IsRow 3 (ns.map ntA) nr) (h3 : fs.length < 2 ^ 47) (h4 : ns.length < 2 ^ 47) : (x.fst fs fr ns nr).Ok := { fr := h1, q0 := hx.q0, q1 := hx.q1, nr := h2, lf := h3, l0 := hx.l0, l1 := hx.l1, ln := h4 }
theorem fst_check {x : OB} (hk : checkB x = true) {fs : List Ft} (fr : AV) {ns : List Nt} (nr : AV) (h4 : fs.length ≤ 4) (h5 : ns.length ≤ 4) (hf : ∀ f ∈ fs, featB x f = true) (hn : ∀ n ∈ ns, noteB (x.fst fs fr ns nr) n = true) : checkB (x.fst fs fr ns nr) = true := by
  have h4' : ((fs.length : Nat) : Int) ≤ 4 := by omega
  have h5' : ((ns.length : Nat) : Int) ≤ 4 := by omega
  simp only [checkB, okOne, Bool.and_eq_true] at hk ⊢
  obtain ⟨⟨⟨⟨⟨a1, a2, a3, a4⟩, b⟩, c⟩, d⟩, e⟩ := hk
  exact ⟨⟨⟨⟨⟨a1, a2, decide_eq_true h4', decide_eq_true h5'⟩, List.all_eq_true.2 hf⟩, c⟩, d⟩, List.all_eq_true.2 hn⟩
theorem check_feasts {x : OB} (hk : checkB x = true) : ∀ f ∈ x.fs, featB x f = true := by
  simp only [checkB, Bool.and_eq_true, List.all_eq_true] at hk
  exact hk.1.1.1.2
end Go.Ai
