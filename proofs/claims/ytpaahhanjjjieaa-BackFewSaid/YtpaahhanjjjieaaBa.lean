/- Pairs of numbers: the plain law. -/
import Derived.Below
namespace Go.Proofs.Ytpaahhanjjjieaa

/-- strictly rising -/
def SS (l : List Int) : Prop := l.Pairwise (· < ·)
theorem SS_ext : ∀ {a b : List Int}, SS a → SS b → (∀ x, x ∈ a ↔ x ∈ b) → a = b
  | [], [], _, _, _ => rfl
  | [], y :: _, _, _, h => absurd ((h y).2 (by simp)) (by simp)
  | x :: _, [], _, _, h => absurd ((h x).1 (by simp)) (by simp)
  | x :: r, y :: s, ha, hb, h => by
    have ha' := List.pairwise_cons.1 ha
    have hb' := List.pairwise_cons.1 hb
    have hxy : x = y := by
      have h1 := (h x).1 (by simp)
      have h2 := (h y).2 (by simp)
      rcases List.mem_cons.1 h1 with e | h1
      · exact e
      · rcases List.mem_cons.1 h2 with e | h2
        · exact e.symm
        · have := ha'.1 y h2
          have := hb'.1 x h1
          omega
    subst hxy
    have : r = s := SS_ext ha'.2 hb'.2 (fun z => by
      have hz := h z
      simp only [List.mem_cons] at hz
      constructor
      · intro hr
        rcases hz.1 (Or.inr hr) with e | hs
        · subst e; exact absurd (ha'.1 z hr) (by omega)
        · exact hs
      · intro hs
        rcases hz.2 (Or.inr hs) with e | hr
        · subst e; exact absurd (hb'.1 z hs) (by omega)
        · exact hr)
    rw [this]
theorem SS_snoc {l : List Int} {n : Int} (h : SS l) (hn : ∀ x ∈ l, x < n) : SS (l ++ [n]) := by
  unfold SS at *
  rw [List.pairwise_append]
  exact ⟨h, by simp, fun a ha b hb => by simp at hb; subst hb; exact hn a ha⟩

/-- the offsets of a mask -/
def offs (m : Nat) : List Nat := (List.range 16).filter fun i => m.testBit i
theorem mem_offs {m i : Nat} : i ∈ offs m ↔ i < 16 ∧ m.testBit i = true := by simp [offs]
theorem offs_pw (m : Nat) : (offs m).Pairwise (· < ·) := List.Pairwise.filter _ List.pairwise_lt_range
theorem offs_length (m : Nat) : (offs m).length ≤ 16 := by
  have := List.length_filter_le (fun i => m.testBit i) (List.range 16)
  simpa [offs] using this

/-- the numbers of a pair -/
def nums (p : Int × Nat) : List Int := p.1 :: (offs p.2).map fun (i : Nat) => p.1 + (i : Int) + 1
def expand (l : List (Int × Nat)) : List Int := l.flatMap nums
theorem expand_append (a b : List (Int × Nat)) : expand (a ++ b) = expand a ++ expand b := by simp [expand]
theorem expand_one (p : Int × Nat) : expand [p] = nums p := by simp [expand]
theorem nums_ss (p : Int × Nat) : SS (nums p) := by
  unfold SS nums
  rw [List.pairwise_cons]
  refine ⟨fun x hx => ?_, ?_⟩
  · obtain ⟨i, _, rfl⟩ := List.mem_map.1 hx
    omega
  · rw [List.pairwise_map]
    exact (offs_pw p.2).imp fun h => by omega
theorem mem_nums {p : Int × Nat} {x : Int} : x ∈ nums p ↔ x = p.1 ∨ ∃ i, i < 16 ∧ p.2.testBit i = true ∧ x = p.1 + (i : Int) + 1 := by
  simp only [nums, List.mem_cons, List.mem_map, mem_offs]
  constructor
  · rintro (h | ⟨i, ⟨h1, h2⟩, h3⟩)
    · exact Or.inl h
    · exact Or.inr ⟨i, h1, h2, h3.symm⟩
  · rintro (h | ⟨i, h1, h2, h3⟩)
    · exact Or.inl h
    · exact Or.inr ⟨i, ⟨h1, h2⟩, h3.symm⟩
theorem nums_bounds {p : Int × Nat} {x : Int} (h : x ∈ nums p) : p.1 ≤ x ∧ x ≤ p.1 + 16 := by
  rcases mem_nums.1 h with h | ⟨i, h1, _, h3⟩ <;> omega
theorem length_nums (p : Int × Nat) : 1 ≤ (nums p).length ∧ (nums p).length ≤ 17 := by
  have := offs_length p.2
  simp [nums]; omega
theorem length_expand (l : List (Int × Nat)) : l.length ≤ (expand l).length ∧ (expand l).length ≤ 17 * l.length := by
  induction l with
  | nil => simp [expand]
  | cons p r ih =>
    have := length_nums p
    simp only [expand, List.flatMap_cons, List.length_append, List.length_cons] at *
    omega

theorem offs_zero : offs 0 = [] := by decide
theorem nums_zero (n : Int) : nums (n, 0) = [n] := by simp [nums, offs_zero]

/-- one number more: the pairs backwards -/
def pairStep : List (Int × Nat) → Int → List (Int × Nat)
  | [], n => [(n, 0)]
  | (b, m) :: r, n => if n ≤ b + 16 then (if b < n then (b, m ||| 2 ^ (n - b - 1).toNat) :: r else (b, m) :: r) else (n, 0) :: (b, m) :: r
def pairsR (xs : List Int) : List (Int × Nat) := xs.foldl pairStep []
def pairsL (xs : List Int) : List (Int × Nat) := (pairsR xs).reverse
theorem pairsR_snoc (xs : List Int) (n : Int) : pairsR (xs ++ [n]) = pairStep (pairsR xs) n := by simp [pairsR]

theorem nums_grow {b n : Int} {m : Nat} (h1 : b < n) (h2 : n ≤ b + 16) (hb : ∀ i, m.testBit i = true → b + (i : Int) + 1 < n) :
    nums (b, m ||| 2 ^ (n - b - 1).toNat) = nums (b, m) ++ [n] := by
  refine SS_ext (nums_ss _) (SS_snoc (nums_ss _) fun x hx => ?_) (fun x => ?_)
  · rcases mem_nums.1 hx with h | ⟨i, _, h4, h5⟩
    · simp at h; omega
    · have := hb i h4; simp at h5; omega
  · simp only [List.mem_append, List.mem_singleton, mem_nums, Nat.testBit_or, Nat.testBit_two_pow, Bool.or_eq_true, decide_eq_true_eq]
    constructor
    · rintro (h | ⟨i, h4, h5 | h5, h6⟩)
      · exact Or.inl (Or.inl h)
      · exact Or.inl (Or.inr ⟨i, h4, h5, h6⟩)
      · right; omega
    · rintro ((h | ⟨i, h4, h5, h6⟩) | h)
      · exact Or.inl h
      · exact Or.inr ⟨i, h4, Or.inl h5, h6⟩
      · exact Or.inr ⟨(n - b - 1).toNat, by omega, Or.inr rfl, by omega⟩

/-- what holds of the pairs of numbers that do not fall -/
structure PInv (xs : List Int) (r : List (Int × Nat)) : Prop where
  ss : SS (expand r.reverse)
  mem : ∀ x, x ∈ expand r.reverse ↔ x ∈ xs
  mask : ∀ p ∈ r, p.2 < 65536
  gap : r.Pairwise fun p q => q.1 + 16 < p.1
  head : ∀ b m s, r = (b, m) :: s → b ∈ xs ∧ ∀ x ∈ xs, x ≤ b + 16
theorem PInv.nil : PInv [] [] := ⟨by simp [expand, SS], by simp [expand], by simp, by simp, by simp⟩
theorem pow_lt {k : Nat} (h : k < 16) : 2 ^ k < 65536 := by
  have : (2 : Nat) ^ k < 2 ^ 16 := Nat.pow_lt_pow_right (by omega) h
  simpa using this
theorem PInv.step {xs : List Int} {r : List (Int × Nat)} {n : Int} (h : PInv xs r) (hn : ∀ x ∈ xs, x ≤ n) : PInv (xs ++ [n]) (pairStep r n) := by
  match hr : r with
  | [] =>
    have hx : xs = [] := by
      cases xs with
      | nil => rfl
      | cons a s => exact absurd ((h.mem a).2 (by simp)) (by simp [expand])
    subst hx
    refine ⟨?_, ?_, ?_, ?_, ?_⟩
    · simp [pairStep, expand, nums_zero, SS]
    · intro x; simp [pairStep, expand, nums_zero]
    · simp [pairStep]
    · simp [pairStep]
    · intro b m s e; simp [pairStep] at e; simp [e.1.1]; omega
  | (b, m) :: s =>
    have hb := h.head b m s rfl
    have hbn := hn b hb.1
    have hexp : expand ((b, m) :: s).reverse = expand s.reverse ++ nums (b, m) := by rw [List.reverse_cons, expand_append, expand_one]
    have hm : ∀ x ∈ nums (b, m), x ≤ n := fun x hx => hn x ((h.mem x).1 (by rw [hexp]; simp [hx]))
    by_cases h16 : n ≤ b + 16
    · by_cases hlt : b < n
      · have hst : pairStep ((b, m) :: s) n = (b, m ||| 2 ^ (n - b - 1).toNat) :: s := by simp [pairStep, h16, hlt]
        rw [hst]
        have hk : (n - b - 1).toNat < 16 := by omega
        have hmask : ∀ p ∈ (b, m ||| 2 ^ (n - b - 1).toNat) :: s, p.2 < 65536 := by
          intro p hp
          rcases List.mem_cons.1 hp with e | hp
          · subst e
            have h1 := h.mask (b, m) (by simp)
            have h2 := pow_lt hk
            exact Nat.or_lt_two_pow (n := 16) (by simpa using h1) (by simpa using h2)
          · exact h.mask p (by simp [hp])
        have hgap : ((b, m ||| 2 ^ (n - b - 1).toNat) :: s).Pairwise fun p q => q.1 + 16 < p.1 := by
          have := List.pairwise_cons.1 h.gap
          exact List.pairwise_cons.2 ⟨fun q hq => this.1 q hq, this.2⟩
        have hhead : ∀ b' m' s', (b, m ||| 2 ^ (n - b - 1).toNat) :: s = (b', m') :: s' → b' ∈ xs ++ [n] ∧ ∀ x ∈ xs ++ [n], x ≤ b' + 16 := by
          intro b' m' s' e
          simp at e
          obtain ⟨⟨rfl, _⟩, _⟩ := e
          refine ⟨by simp [hb.1], fun x hx => ?_⟩
          rcases List.mem_append.1 hx with hx | hx
          · exact hb.2 x hx
          · simp at hx; omega
        by_cases hin : n ∈ nums (b, m)
        · have e : m ||| 2 ^ (n - b - 1).toNat = m := by
            rcases mem_nums.1 hin with e | ⟨i, h1, h2, h3⟩
            · simp at e; omega
            · have : i = (n - b - 1).toNat := by simp at h3; omega
              subst this
              apply Nat.eq_of_testBit_eq
              intro j
              simp only [Nat.testBit_or, Nat.testBit_two_pow]
              by_cases hj : (n - b - 1).toNat = j
              · subst hj; simp at h2; simp [h2]
              · rw [show decide ((n - b - 1).toNat = j) = false from decide_eq_false hj, Bool.or_false]
          rw [e] at hmask hgap hhead ⊢
          refine ⟨h.ss, fun x => ?_, hmask, hgap, hhead⟩
          rw [h.mem x]
          simp only [List.mem_append, List.mem_singleton]
          constructor
          · exact Or.inl
          · rintro (h' | rfl)
            · exact h'
            · exact (h.mem _).1 (by rw [hexp]; simp [hin])
        · have hg := nums_grow (m := m) hlt h16 (fun i hi => by
            by_cases hi16 : i < 16
            · have h1 : b + (i : Int) + 1 ∈ nums (b, m) := mem_nums.2 (Or.inr ⟨i, hi16, hi, rfl⟩)
              have := hm _ h1
              rcases Int.lt_or_lt_of_ne (fun e => hin (e ▸ h1) : b + (i : Int) + 1 ≠ n) with h' | h'
              · exact h'
              · omega
            · have h1 := h.mask (b, m) (by simp)
              have : m < 2 ^ i := Nat.lt_of_lt_of_le h1 (by simpa using Nat.pow_le_pow_right (n := 2) (by omega) (show 16 ≤ i by omega))
              rw [Nat.testBit_lt_two_pow this] at hi
              cases hi)
          have hexp' : expand ((b, m ||| 2 ^ (n - b - 1).toNat) :: s).reverse = expand ((b, m) :: s).reverse ++ [n] := by
            rw [List.reverse_cons, expand_append, expand_one, hg, hexp, List.append_assoc]
          refine ⟨?_, fun x => ?_, hmask, hgap, hhead⟩
          · rw [hexp']
            refine SS_snoc h.ss fun x hx => ?_
            have hx' := hn x ((h.mem x).1 hx)
            have hne : x ≠ n := by
              intro e
              subst e
              rw [hexp] at hx
              rcases List.mem_append.1 hx with hx | hx
              · have hgap1 := (List.pairwise_cons.1 h.gap).1
                obtain ⟨q, hq, hxq⟩ := List.mem_flatMap.1 hx
                have := hgap1 q (by simpa using hq)
                have := nums_bounds hxq
                simp at *
                omega
              · exact hin hx
            omega
          · rw [hexp', List.mem_append, h.mem x, List.mem_append]
      · have hst : pairStep ((b, m) :: s) n = (b, m) :: s := by simp [pairStep, h16, hlt]
        rw [hst]
        obtain rfl : n = b := by omega
        refine ⟨h.ss, fun x => ?_, h.mask, h.gap, fun b' m' s' e => ?_⟩
        · rw [h.mem x, List.mem_append]
          constructor
          · exact Or.inl
          · rintro (h' | h')
            · exact h'
            · simp at h'; subst h'; exact hb.1
        · simp at e
          obtain ⟨⟨rfl, _⟩, _⟩ := e
          refine ⟨by simp, fun x hx => ?_⟩
          rcases List.mem_append.1 hx with hx | hx
          · exact hb.2 x hx
          · simp at hx; omega
    · have hst : pairStep ((b, m) :: s) n = (n, 0) :: (b, m) :: s := by simp [pairStep, h16]
      rw [hst]
      have h0 : nums (n, 0) = [n] := nums_zero n
      have hexp' : expand ((n, 0) :: (b, m) :: s).reverse = expand ((b, m) :: s).reverse ++ [n] := by
        rw [List.reverse_cons, expand_append, expand_one, h0]
      refine ⟨?_, fun x => ?_, ?_, ?_, ?_⟩
      · rw [hexp']
        exact SS_snoc h.ss fun x hx => by have := hb.2 x ((h.mem x).1 hx); omega
      · rw [hexp', List.mem_append, h.mem x, List.mem_append]
      · intro p hp
        rcases List.mem_cons.1 hp with e | hp
        · subst e; simp
        · exact h.mask p hp
      · refine List.pairwise_cons.2 ⟨fun q hq => ?_, h.gap⟩
        rcases List.mem_cons.1 hq with e | hq
        · subst e; simp; omega
        · have := (List.pairwise_cons.1 h.gap).1 q hq
          simp at *
          omega
      · intro b' m' s' e
        simp at e
        obtain ⟨⟨rfl, _⟩, _⟩ := e
        refine ⟨by simp, fun x hx => ?_⟩
        rcases List.mem_append.1 hx with hx | hx
        · have := hn x hx; omega
        · simp at hx; omega
theorem pinv_of (xs : List Int) (hs : xs.Pairwise (· ≤ ·)) : PInv xs (pairsR xs) := by
  induction h : xs.length generalizing xs with
  | zero =>
    obtain rfl : xs = [] := List.eq_nil_of_length_eq_zero h
    exact PInv.nil
  | succ k ih =>
    obtain ⟨ys, n, rfl⟩ : ∃ ys n, xs = ys ++ [n] := ⟨xs.dropLast, xs.getLast (by intro e; simp [e] at h), (List.dropLast_concat_getLast _).symm⟩
    have hp := List.pairwise_append.1 hs
    rw [pairsR_snoc]
    exact (ih ys hp.1 (by simpa using h)).step (fun x hx => hp.2.2 x hx n (by simp))

/-- the pairs of a row -/
theorem pairsR_row (f : Int) (k : Nat) : (k = 0 → pairsR ((List.range k).map fun (i : Nat) => f + (i : Int)) = []) ∧ (0 < k → ∃ m s, pairsR ((List.range k).map fun (i : Nat) => f + (i : Int)) = (f + 17 * (((k + 16) / 17 : Nat) : Int) - 17, m) :: s ∧ s.length + 1 = (k + 16) / 17) := by
  induction k with
  | zero => exact ⟨fun _ => by simp [pairsR], fun h => absurd h (by omega)⟩
  | succ k ih =>
    refine ⟨fun h => absurd h (by omega), fun _ => ?_⟩
    rw [List.range_succ, List.map_append, List.map_singleton, pairsR_snoc]
    by_cases hk : k = 0
    · subst hk; rw [ih.1 rfl]; exact ⟨0, [], by simp [pairStep], by simp⟩
    · obtain ⟨m, s, e, hl⟩ := ih.2 (by omega)
      rw [e]
      simp only [pairStep]
      by_cases h : f + (k : Int) ≤ f + 17 * (((k + 16) / 17 : Nat) : Int) - 17 + 16
      · rw [if_pos h]
        have e1 : (k + 1 + 16) / 17 = (k + 16) / 17 := by omega
        rw [e1]
        split
        · exact ⟨_, s, rfl, hl⟩
        · exact ⟨m, s, rfl, hl⟩
      · rw [if_neg h]
        have e1 : (k + 1 + 16) / 17 = (k + 16) / 17 + 1 := by omega
        refine ⟨0, (f + 17 * (((k + 16) / 17 : Nat) : Int) - 17, m) :: s, ?_, by rw [List.length_cons]; omega⟩
        rw [e1]
        have : f + (k : Int) = f + 17 * ((((k + 16) / 17 + 1 : Nat)) : Int) - 17 := by omega
        rw [this]
theorem pairsL_row_length (f : Int) (k : Nat) : (pairsL ((List.range k).map fun (i : Nat) => f + (i : Int))).length = (k + 16) / 17 := by
  unfold pairsL
  rw [List.length_reverse]
  rcases Nat.eq_zero_or_pos k with h | h
  · subst h; rw [(pairsR_row f 0).1 rfl]; simp
  · obtain ⟨m, s, e, hl⟩ := (pairsR_row f k).2 h
    rw [e]; simpa using hl
/-- pairs as they come in -/
def numsZ (p : Int × Int) : List Int := nums (p.1, p.2.toNat)
def expandZ (l : List (Int × Int)) : List Int := l.flatMap numsZ
def badPr (p : Int × Int) : Prop := p.1 < 0 ∨ 65535 < p.1 ∨ p.2 < 0 ∨ 65535 < p.2 ∨ ∃ x ∈ numsZ p, 65535 < x
def toZ (l : List (Int × Nat)) : List (Int × Int) := l.map fun p => (p.1, (p.2 : Int))
theorem expandZ_toZ (l : List (Int × Nat)) : expandZ (toZ l) = expand l := by
  induction l with
  | nil => rfl
  | cons p r ih =>
    simp only [expandZ, toZ, expand, List.map_cons, List.flatMap_cons] at *
    rw [ih]
    simp [numsZ]
end Go.Proofs.Ytpaahhanjjjieaa
