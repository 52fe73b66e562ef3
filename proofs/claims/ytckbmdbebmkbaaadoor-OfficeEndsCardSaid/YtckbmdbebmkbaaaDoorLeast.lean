/- This text shows fewest lists: plain lists. No conditions of its own. -/

set_option linter.unusedSimpArgs false
set_option linter.unusedVariables false
namespace Go.Least
def sel (p : Nat → Bool) : Nat → Nat → List Int
  | _, 0 => []
  | k, n + 1 => (if p k then [(k : Int)] else []) ++ sel p (k + 1) n
def hasB (set n : Int) : Bool := decide (0 ≤ n) && decide (n < 62) && (set.toNat.testBit n.toNat)
def bitsL (set : Nat) (T : Nat) : List Int := sel (fun i => hasB set i) 0 T
def earlierL : List Int → List Int → Bool
  | a :: l, b :: m => if a = b then earlierL l m else decide (a < b)
  | [], _ :: _ => true
  | _, [] => false
def shorterL (l m : List Int) : Bool := decide (l.length < m.length) || (decide (l.length = m.length) && earlierL l m)
def fromOf (l : List Int) : Nat := match l.getLast? with
  | none => 0
  | some y => (y + 1).toNat
theorem sel_len (p : Nat → Bool) : ∀ n k, (sel p k n).length ≤ n
  | 0, k => Nat.le_refl _
  | n + 1, k => by
    have := sel_len p n (k + 1)
    rw [sel, List.length_append]
    split <;> simp <;> omega
theorem bits_len (set T : Nat) : (bitsL set T).length ≤ T := sel_len _ _ _
theorem mem_sel (p : Nat → Bool) (y : Int) : ∀ (n k : Nat), y ∈ sel p k n ↔ ∃ j : Nat, y = j ∧ k ≤ j ∧ j < k + n ∧ p j = true
  | 0, k => by simp [sel]; intro j _ h1 h2; omega
  | n + 1, k => by
    rw [sel, List.mem_append, mem_sel p y n (k + 1)]
    constructor
    · rintro (h | ⟨j, h1, h2, h3, h4⟩)
      · split at h
        · simp only [List.mem_singleton] at h
          exact ⟨k, h, by omega, by omega, by assumption⟩
        · cases h
      · exact ⟨j, h1, by omega, by omega, h4⟩
    · rintro ⟨j, h1, h2, h3, h4⟩
      by_cases hj : j = k
      · subst hj; left; rw [if_pos h4, h1]; simp
      · right; exact ⟨j, h1, by omega, by omega, h4⟩
theorem earlier_total : ∀ (l m : List Int), earlierL l m = false → earlierL m l = false → l = m
  | [], [], _, _ => rfl
  | [], _ :: _, h, _ => by simp [earlierL] at h
  | _ :: _, [], _, h => by simp [earlierL] at h
  | a :: l, b :: m, h, h' => by
    simp only [earlierL] at h h'
    by_cases hab : a = b
    · subst hab
      simp only [if_true] at h h'
      rw [earlier_total l m h h']
    · rw [if_neg hab] at h
      rw [if_neg (Ne.symm hab)] at h'
      simp only [decide_eq_false_iff_not] at h h'
      omega
theorem earlier_trans : ∀ (l m n : List Int), earlierL l m = true → earlierL m n = true → earlierL l n = true
  | [], _, _ :: _, _, _ => rfl
  | _, [], [], _, h => by simp [earlierL] at h
  | _, _ :: _, [], _, h => by simp [earlierL] at h
  | _ :: _, [], _ :: _, h, _ => by simp [earlierL] at h
  | a :: l, b :: m, c :: n, h, h' => by
    simp only [earlierL] at h h' ⊢
    by_cases hab : a = b
    · subst hab
      simp only [if_true] at h
      by_cases hbc : a = c
      · subst hbc
        simp only [if_true] at h' ⊢
        exact earlier_trans l m n h h'
      · rw [if_neg hbc] at h' ⊢
        exact h'
    · rw [if_neg hab] at h
      simp only [decide_eq_true_eq] at h
      by_cases hbc : b = c
      · subst hbc
        rw [if_neg hab]
        simpa using h
      · rw [if_neg hbc] at h'
        simp only [decide_eq_true_eq] at h'
        have : ¬ a = c := by omega
        rw [if_neg this]
        simp; omega
theorem shorter_total (l m : List Int) (h : shorterL l m = false) (h' : shorterL m l = false) : l = m := by
  simp only [shorterL, Bool.or_eq_false_iff, Bool.and_eq_false_iff, decide_eq_false_iff_not] at h h'
  have hlen : l.length = m.length := by omega
  exact earlier_total l m (h.2.resolve_left (fun q => q hlen)) (h'.2.resolve_left (fun q => q hlen.symm))
theorem shorter_trans (l m n : List Int) (h : shorterL l m = true) (h' : shorterL m n = true) : shorterL l n = true := by
  simp only [shorterL, Bool.or_eq_true, Bool.and_eq_true, decide_eq_true_eq] at h h' ⊢
  rcases h with h | ⟨h1, h2⟩
  · left; rcases h' with h' | ⟨h1', _⟩ <;> omega
  · rcases h' with h' | ⟨h1', h2'⟩
    · left; omega
    · right; exact ⟨by omega, earlier_trans l m n h2 h2'⟩
def incFrom (T : Nat) : Int → List Int → Prop
  | _, [] => True
  | k, y :: l => k ≤ y ∧ y < T ∧ incFrom T (y + 1) l
theorem sel_inc (p : Nat → Bool) (T : Nat) : ∀ (n k : Nat), k + n = T → ∀ k' : Int, k' ≤ k → incFrom T k' (sel p k n)
  | 0, k, h, k', hk => trivial
  | n + 1, k, h, k', hk => by
    have ih := sel_inc p T n (k + 1) (by omega)
    rw [sel]
    split
    · exact ⟨hk, by omega, ih _ (by omega)⟩
    · simpa using ih k' (by omega)
theorem inc_sel (T : Nat) : ∀ (n k : Nat), k + n = T → ∀ l : List Int, incFrom T k l → ∃ p : Nat → Bool, sel p k n = l
  | 0, k, h, l, hl => by
    cases l with
    | nil => exact ⟨fun _ => false, rfl⟩
    | cons y l => obtain ⟨h1, h2, _⟩ := hl; omega
  | n + 1, k, h, l, hl => by
    have cong : ∀ (p q : Nat → Bool) (n k : Nat), (∀ i, k ≤ i → p i = q i) → sel p k n = sel q k n := by
      intro p q n
      induction n with
      | zero => intro k _; rfl
      | succ n ih =>
        intro k hpq
        rw [sel, sel, hpq k (Nat.le_refl _), ih (k + 1) fun i hi => hpq i (by omega)]
    have build : ∀ (b : Bool) (l' : List Int), incFrom T ((k + 1 : Nat) : Int) l' → ∃ p : Nat → Bool, sel p k (n + 1) = (if b then [(k : Int)] else []) ++ l' := by
      intro b l' hl'
      obtain ⟨p, hp⟩ := inc_sel T n (k + 1) (by omega) l' hl'
      refine ⟨fun i => if i = k then b else p i, ?_⟩
      rw [sel]
      simp only [if_true]
      rw [cong _ p n (k + 1) fun i hi => if_neg (by omega), hp]
    cases l with
    | nil =>
      obtain ⟨p, hp⟩ := build false [] trivial
      exact ⟨p, by simpa using hp⟩
    | cons y l =>
      obtain ⟨h1, h2, h3⟩ := hl
      by_cases hy : y = k
      · subst hy
        obtain ⟨p, hp⟩ := build true l (by simpa using h3)
        exact ⟨p, by simpa using hp⟩
      · obtain ⟨p, hp⟩ := build false (y :: l) ⟨by omega, h2, h3⟩
        exact ⟨p, by simpa using hp⟩
theorem bits_of (p : Nat → Bool) : ∀ T : Nat, ∃ set, set < 2 ^ T ∧ ∀ i, i < T → set.testBit i = p i
  | 0 => ⟨0, by decide, fun i h => by omega⟩
  | T + 1 => by
    obtain ⟨s, h1, h2⟩ := bits_of p T
    have hpow : 2 ^ (T + 1) = 2 ^ T + 2 ^ T := by rw [Nat.pow_succ]; omega
    cases hp : p T with
    | false =>
      refine ⟨s, by omega, fun i hi => ?_⟩
      by_cases hT : i = T
      · subst hT; rw [hp]; exact Nat.testBit_lt_two_pow h1
      · exact h2 i (by omega)
    | true =>
      refine ⟨2 ^ T + s, by omega, fun i hi => ?_⟩
      by_cases hT : i = T
      · subst hT
        rw [Nat.testBit_two_pow_add_eq, Nat.testBit_lt_two_pow h1, hp]; rfl
      · rw [Nat.testBit_two_pow_add_gt (by omega)]
        exact h2 i (by omega)
theorem sel_congr (p q : Nat → Bool) : ∀ (n k : Nat), (∀ i, k ≤ i → i < k + n → p i = q i) → sel p k n = sel q k n
  | 0, _, _ => rfl
  | n + 1, k, h => by
    rw [sel, sel, h k (Nat.le_refl _) (by omega), sel_congr p q n (k + 1) fun i h1 h2 => h i (by omega) (by omega)]
theorem inc_bits (T : Nat) (hT : T ≤ 62) (l : List Int) (h : incFrom T 0 l) : ∃ set, set < 2 ^ T ∧ bitsL set T = l := by
  obtain ⟨p, hp⟩ := inc_sel T T 0 (by omega) l (by simpa using h)
  obtain ⟨s, h1, h2⟩ := bits_of p T
  refine ⟨s, h1, ?_⟩
  rw [← hp, bitsL]
  refine sel_congr _ _ T 0 fun i _ hi => ?_
  have h62 : (i : Int) < 62 := by omega
  simp [hasB, h62, h2 i (by omega)]
theorem bits_inc (set T : Nat) : incFrom T 0 (bitsL set T) := sel_inc _ T T 0 (by omega) 0 (by omega)

section
variable (ok : List Int → Bool)
def chooseG (T : Nat) : Nat → List Int → Option (List Int)
  | 0, l => if ok l then some l else none
  | d + 1, l => (List.range' (fromOf l) (T - fromOf l)).findSome? fun (n : Nat) => chooseG T d (l ++ [(n : Int)])
def wrongG (T : Nat) : Nat → Nat → Option (List Int)
  | _, 0 => none
  | many, n + 1 => match chooseG ok T many [] with
    | some m => some m
    | none => wrongG T (many + 1) n
def beats (best : Option (List Int)) (l : List Int) : Bool := match best with
  | none => true
  | some b => shorterL l b
def betterG (T : Nat) (best : Option (List Int)) (set : Nat) : Option (List Int) :=
  if beats best (bitsL set T) && ok (bitsL set T) then some (bitsL set T) else best
def refG (T : Nat) : Option (List Int) := (List.range' 0 (2 ^ T)).foldl (betterG ok T) none
end
theorem earlier_app : ∀ (p l m : List Int), earlierL (p ++ l) (p ++ m) = earlierL l m
  | [], _, _ => rfl
  | a :: p, l, m => by simp [earlierL, earlier_app p l m]
theorem fromOf_app (l : List Int) (n : Nat) : fromOf (l ++ [(n : Int)]) = n + 1 := by
  simp [fromOf]
theorem inc_mono (T : Nat) : ∀ (l : List Int) (k k' : Int), k' ≤ k → incFrom T k l → incFrom T k' l
  | [], _, _, _, _ => trivial
  | y :: l, k, k', h, ⟨h1, h2, h3⟩ => ⟨by omega, h2, h3⟩
theorem choose_some (ok : List Int → Bool) (T : Nat) : ∀ (d : Nat) (l m : List Int), chooseG ok T d l = some m → ∃ e, m = l ++ e ∧ e.length = d ∧ incFrom T (fromOf l) e ∧ ok m = true
  | 0, l, m, h => by
    simp only [chooseG] at h
    split at h
    · rename_i hf
      simp only [Option.some.injEq] at h
      subst h
      exact ⟨[], by simp, rfl, trivial, hf⟩
    · cases h
  | d + 1, l, m, h => by
    simp only [chooseG] at h
    obtain ⟨n, hn, h⟩ := List.exists_of_findSome?_eq_some h
    rw [List.mem_range'_1] at hn
    obtain ⟨e, rfl, h2, h3, h4⟩ := choose_some ok T d _ m h
    rw [fromOf_app] at h3
    exact ⟨(n : Int) :: e, by simp, by simp [h2], ⟨by omega, by omega, by simpa using h3⟩, h4⟩
theorem choose_least (ok : List Int → Bool) (T : Nat) : ∀ (d : Nat) (l e : List Int), e.length = d → incFrom T (fromOf l) e → ok (l ++ e) = true → ∃ m, chooseG ok T d l = some m ∧ earlierL (l ++ e) m = false
  | 0, l, e, h1, h2, h3 => by
    have : e = [] := List.eq_nil_of_length_eq_zero h1
    subst this
    rw [List.append_nil] at h3 ⊢
    have irr : ∀ l : List Int, earlierL l l = false := by
      intro l
      induction l with
      | nil => rfl
      | cons a l ih => simp [earlierL, ih]
    exact ⟨l, by simp [chooseG, h3], irr l⟩
  | d + 1, l, [], h1, _, _ => by simp at h1
  | d + 1, l, y :: e, h1, ⟨h2, h3, h4⟩, h5 => by
    obtain ⟨n, rfl⟩ := Int.eq_ofNat_of_zero_le (show 0 ≤ y by omega)
    obtain ⟨m1, hm1, hm2⟩ := choose_least ok T d (l ++ [(n : Int)]) e (by simpa using h1) (by rw [fromOf_app]; simpa using h4) (by simpa using h5)
    have key : ∀ (c k : Nat), k ≤ n → n < k + c → ∃ m, (List.range' k c).findSome? (fun (n : Nat) => chooseG ok T d (l ++ [(n : Int)])) = some m ∧ earlierL (l ++ (n : Int) :: e) m = false := by
      intro c
      induction c with
      | zero => intro k hk hk'; omega
      | succ c ih =>
        intro k hk hk'
        rw [List.range'_succ, List.findSome?_cons]
        cases hc : chooseG ok T d (l ++ [(k : Int)]) with
        | some m =>
          refine ⟨m, rfl, ?_⟩
          by_cases hkn : k = n
          · subst hkn
            rw [hm1] at hc
            cases hc
            simpa using hm2
          · obtain ⟨e', rfl, _, _, _⟩ := choose_some ok T d _ m hc
            rw [List.append_assoc, earlier_app]
            have : ¬ (n : Int) = k := by omega
            simp [earlierL, this]; omega
        | none =>
          have hkn : k ≠ n := fun h => by subst h; rw [hm1] at hc; cases hc
          exact ih (k + 1) (by omega) (by omega)
    simp only [chooseG]
    exact key _ _ (by omega) (by omega)
theorem wrong_some (ok : List Int → Bool) (T : Nat) : ∀ (n many : Nat) (m : List Int), wrongG ok T many n = some m → (∃ k, many ≤ k ∧ m.length = k ∧ chooseG ok T k [] = some m) ∧ ∀ k, many ≤ k → k < m.length → chooseG ok T k [] = none
  | 0, many, m, h => by cases h
  | n + 1, many, m, h => by
    simp only [wrongG] at h
    cases hc : chooseG ok T many [] with
    | some m' =>
      rw [hc] at h
      cases h
      obtain ⟨e, h1, h2, _, _⟩ := choose_some ok _ _ _ _ hc
      rw [List.nil_append] at h1
      subst h1
      exact ⟨⟨many, Nat.le_refl _, h2, hc⟩, fun k h1 h3 => by omega⟩
    | none =>
      rw [hc] at h
      obtain ⟨⟨k, h1, h2, h3⟩, h4⟩ := wrong_some ok T n (many + 1) m h
      refine ⟨⟨k, by omega, h2, h3⟩, fun j h5 h6 => ?_⟩
      by_cases hj : j = many
      · subst hj; exact hc
      · exact h4 j (by omega) h6
theorem wrong_none (ok : List Int → Bool) (T : Nat) : ∀ (n many : Nat), wrongG ok T many n = none → ∀ k, many ≤ k → k < many + n → chooseG ok T k [] = none
  | 0, many, h, k, h1, h2 => by omega
  | n + 1, many, h, k, h1, h2 => by
    simp only [wrongG] at h
    cases hc : chooseG ok T many [] with
    | some m' => rw [hc] at h; cases h
    | none =>
      rw [hc] at h
      by_cases hj : k = many
      · subst hj; exact hc
      · exact wrong_none ok T n (many + 1) h k (by omega) (by omega)
theorem inc_length (T : Nat) : ∀ (l : List Int) (k : Nat), k ≤ T → incFrom T k l → l.length ≤ T - k
  | [], _, _, _ => by simp
  | y :: l, k, hk, ⟨h1, h2, h3⟩ => by
    obtain ⟨n, rfl⟩ := Int.eq_ofNat_of_zero_le (show 0 ≤ y by omega)
    have := inc_length T l (n + 1) (by omega) (by simpa using h3)
    simp only [List.length_cons]
    omega
theorem irr : ∀ l : List Int, earlierL l l = false
  | [] => rfl
  | a :: l => by simp [earlierL, irr l]
structure Told (ok : List Int → Bool) (T : Nat) (w : List Int) : Prop where
  fine : ok w = true
  inc : incFrom T 0 w
  len : w.length ≤ T
  least : ∀ s, s < 2 ^ T → ok (bitsL s T) = true → shorterL (bitsL s T) w = false
theorem told_some {ok : List Int → Bool} {T : Nat} (hT : T ≤ 62) {w : List Int} (h : wrongG ok T 0 (T + 1) = some w) : Told ok T w := by
  obtain ⟨⟨k, _, hk, hch⟩, hmin⟩ := wrong_some ok T _ _ w h
  obtain ⟨e, h1, h2, h3, h4⟩ := choose_some ok T _ _ _ hch
  rw [List.nil_append] at h1
  subst h1
  have hinc : incFrom T 0 w := by simpa [fromOf] using h3
  have hlen : w.length ≤ T := by simpa using inc_length T w 0 (by omega) (by simpa using hinc)
  refine ⟨h4, hinc, hlen, fun s hs hf => ?_⟩
  have hbi := bits_inc s T
  obtain ⟨m, hm, hm2⟩ := choose_least ok T (bitsL s T).length [] (bitsL s T) rfl (by simpa [fromOf] using hbi) (by simpa using hf)
  simp only [shorterL, Bool.or_eq_false_iff, Bool.and_eq_false_iff, decide_eq_false_iff_not]
  have hle : ¬ (bitsL s T).length < w.length := fun hlt => by
    rw [hmin _ (Nat.zero_le _) hlt] at hm; cases hm
  refine ⟨hle, ?_⟩
  by_cases hl : (bitsL s T).length = w.length
  · right
    rw [hl, hk, hch] at hm
    cases hm
    simpa using hm2
  · exact .inl hl
theorem told_none {ok : List Int → Bool} {T : Nat} (hT : T ≤ 62) (h : wrongG ok T 0 (T + 1) = none) (s : Nat) : ok (bitsL s T) = false := by
  cases hf : ok (bitsL s T) with
  | false => rfl
  | true =>
    have hbi := bits_inc s T
    obtain ⟨m, hm, _⟩ := choose_least ok T (bitsL s T).length [] (bitsL s T) rfl (by simpa [fromOf] using hbi) (by simpa using hf)
    have hl := bits_len s T
    rw [wrong_none ok T _ _ h _ (Nat.zero_le _) (by omega)] at hm
    cases hm
theorem told_uniq {ok : List Int → Bool} {T : Nat} (hT : T ≤ 62) {w v : List Int} (h : Told ok T w) (h' : Told ok T v) : w = v := by
  obtain ⟨s, hs, rfl⟩ := inc_bits T hT w h.inc
  obtain ⟨r, hr, rfl⟩ := inc_bits T hT v h'.inc
  exact shorter_total _ _ (h'.least s hs h.fine) (h.least r hr h'.fine)
theorem fold_best (ok : List Int → Bool) (T : Nat) : ∀ (L : List Nat) (best : Option (List Int)), (∀ b, best = some b → ok b = true ∧ incFrom T 0 b) →
    (∀ b, L.foldl (betterG ok T) best = some b → (ok b = true ∧ incFrom T 0 b) ∧ (∀ c, best = some c → ∀ l, shorterL l b = true → shorterL l c = true) ∧ ∀ s ∈ L, ok (bitsL s T) = true → shorterL (bitsL s T) b = false) ∧
    (L.foldl (betterG ok T) best = none → best = none ∧ ∀ s ∈ L, ok (bitsL s T) = false)
  | [], best, h => ⟨fun b hb => ⟨h b hb, fun c hc l hl => (by rw [List.foldl_nil] at hb; rw [hb] at hc; cases hc; exact hl), fun s hs => absurd hs List.not_mem_nil⟩, fun hn => ⟨hn, fun s hs => absurd hs List.not_mem_nil⟩⟩
  | s :: L, best, h => by
    have hb : ∀ b, betterG ok T best s = some b → ok b = true ∧ incFrom T 0 b := fun b hb => by
      unfold betterG at hb
      split at hb
      · rename_i hc
        simp only [Bool.and_eq_true] at hc
        cases hb
        exact ⟨hc.2, bits_inc _ _⟩
      · exact h b hb
    obtain ⟨i1, i2⟩ := fold_best ok T L (betterG ok T best s) hb
    rw [List.foldl_cons]
    refine ⟨fun b hbb => ?_, fun hn => ?_⟩
    · obtain ⟨j1, j2, j3⟩ := i1 b hbb
      refine ⟨j1, fun c hc l hl => ?_, fun q hq hf => ?_⟩
      · cases hbs : betterG ok T best s with
        | none =>
          unfold betterG at hbs
          split at hbs
          · cases hbs
          · rw [hbs] at hc; cases hc
        | some d =>
          have h1 := j2 d hbs l hl
          unfold betterG at hbs
          split at hbs
          · rename_i hcond
            rw [hc] at hcond
            simp only [beats, Bool.and_eq_true] at hcond
            cases hbs
            exact shorter_trans _ _ _ h1 hcond.1
          · rw [hbs] at hc; cases hc; exact h1
      · rcases List.mem_cons.1 hq with rfl | hq
        · cases hbs : betterG ok T best q with
          | none =>
            unfold betterG at hbs
            split at hbs
            · cases hbs
            · rename_i hcond
              rw [hbs, hf] at hcond
              simp [beats] at hcond
          | some d =>
            have hd : shorterL (bitsL q T) d = false := by
              unfold betterG at hbs
              split at hbs
              · cases hbs; simp [shorterL, irr]
              · rename_i hcond
                rw [hbs, hf, Bool.and_true] at hcond
                simpa [beats] using hcond
            cases hc : shorterL (bitsL q T) b with
            | false => rfl
            | true => rw [j2 d hbs _ hc] at hd; cases hd
        · exact j3 q hq hf
    · obtain ⟨j1, j2⟩ := i2 hn
      unfold betterG at j1
      split at j1
      · cases j1
      · rename_i hcond
        refine ⟨j1, fun q hq => ?_⟩
        rcases List.mem_cons.1 hq with rfl | hq
        · rw [j1] at hcond
          simpa [beats] using hcond
        · exact j2 q hq
theorem ref_some {ok : List Int → Bool} {T : Nat} (hT : T ≤ 62) {w : List Int} (h : refG ok T = some w) : Told ok T w := by
  obtain ⟨h1, _⟩ := fold_best ok T (List.range' 0 (2 ^ T)) none (fun b hb => by cases hb)
  obtain ⟨h2, _, h3⟩ := h1 w h
  exact ⟨h2.1, h2.2, by simpa using inc_length T w 0 (by omega) (by simpa using h2.2), fun s hs hf => h3 s (by rw [List.mem_range'_1]; omega) hf⟩
theorem ref_none {ok : List Int → Bool} {T : Nat} (h : refG ok T = none) (s : Nat) (hs : s < 2 ^ T) : ok (bitsL s T) = false := by
  obtain ⟨_, h1⟩ := fold_best ok T (List.range' 0 (2 ^ T)) none (fun b hb => by cases hb)
  exact (h1 h).2 s (by rw [List.mem_range'_1]; omega)
theorem wrong_eq (ok : List Int → Bool) {T : Nat} (hT : T ≤ 62) : wrongG ok T 0 (T + 1) = refG ok T := by
  cases h : wrongG ok T 0 (T + 1) with
  | some w =>
    cases h' : refG ok T with
    | some v => rw [told_uniq hT (told_some hT h) (ref_some hT h')]
    | none =>
      have hw := told_some hT h
      obtain ⟨s, hs, rfl⟩ := inc_bits T hT w hw.inc
      have := hw.fine
      rw [ref_none h' s hs] at this
      cases this
  | none =>
    cases h' : refG ok T with
    | none => rfl
    | some v =>
      have hv := ref_some hT h'
      obtain ⟨s, hs, rfl⟩ := inc_bits T hT v hv.inc
      have := hv.fine
      rw [told_none hT h s] at this
      cases this
end Go.Least
