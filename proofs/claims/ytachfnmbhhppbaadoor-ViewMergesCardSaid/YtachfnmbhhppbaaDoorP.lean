/- Plain: views as lists of members by node. -/
import Derived.Test.YtachfnmbhhppbaaDoorM
namespace Go.Proofs.YtachfnmbhhppbaaDoor
set_option maxRecDepth 100000

def Srt (l : List Mem) : Prop := l.Pairwise fun a b => a.node < b.node
def posOf (l : List Mem) (t : Int) : Nat := (l.takeWhile fun m => decide (m.node < t)).length
def hasN (l : List Mem) (t : Int) : Bool := l.any fun m => m.node == t
def laterB (a b : Mem) : Bool := decide (b.ver < a.ver) || (decide (a.ver = b.ver) && !a.up && b.up)
def ins (l : List Mem) (i : Nat) (m : Mem) : List Mem := l.take i ++ m :: l.drop i
def putL (l : List Mem) (m : Mem) : List Mem :=
  if hasN l m.node = true then
    match l[posOf l m.node]? with
    | some x => if laterB m x = true then l.set (posOf l m.node) m else l
    | none => l
  else ins l (posOf l m.node) m
def mergeL (a b : List Mem) : List Mem := b.foldl putL a

def okM (m : Mem) : Prop := 0 ≤ m.node ∧ m.node < 16 ∧ 1 ≤ m.ver ∧ m.ver ≤ 1000000
def Valid (l : List Mem) : Prop := Srt l ∧ ∀ m ∈ l, okM m

/-- who stands for a node -/
def get (l : List Mem) (t : Int) : Option Mem := l.find? fun m => m.node == t
def pick (x y : Mem) : Mem := if laterB y x = true then y else x
def join : Option Mem → Option Mem → Option Mem
  | none, y => y
  | x, none => x
  | some x, some y => some (pick x y)

theorem get_node {l : List Mem} {t : Int} {x : Mem} (h : get l t = some x) : x.node = t := by
  have := List.find?_some h; simpa using this
theorem get_mem {l : List Mem} {t : Int} {x : Mem} (h : get l t = some x) : x ∈ l := List.mem_of_find?_eq_some h
theorem get_cons (a : Mem) (r : List Mem) (t : Int) : get (a :: r) t = if a.node = t then some a else get r t := by
  simp only [get, List.find?_cons]
  by_cases h : a.node = t
  · rw [if_pos h, show (a.node == t) = true from by simpa using h]
  · rw [if_neg h, show (a.node == t) = false from by simpa using h]
theorem get_none_of {l : List Mem} {t : Int} (h : ∀ m ∈ l, m.node ≠ t) : get l t = none := by
  rw [get, List.find?_eq_none]; intro x hx; simpa using h x hx
theorem get_of_mem {l : List Mem} (hs : Srt l) {x : Mem} (h : x ∈ l) : get l x.node = some x := by
  induction l with
  | nil => simp at h
  | cons a r ih =>
    rw [Srt, List.pairwise_cons] at hs
    rw [get_cons]
    rcases List.mem_cons.1 h with rfl | h'
    · simp
    · have := hs.1 x h'
      rw [if_neg (by omega)]
      exact ih hs.2 h'
theorem ext {l l' : List Mem} (hs : Srt l) (hs' : Srt l') (h : ∀ t, get l t = get l' t) : l = l' := by
  induction l generalizing l' with
  | nil =>
    cases l' with
    | nil => rfl
    | cons b r' => have := h b.node; rw [get_cons, if_pos rfl] at this; simp [get] at this
  | cons a r ih =>
    cases l' with
    | nil => have := h a.node; rw [get_cons, if_pos rfl] at this; simp [get] at this
    | cons b r' =>
      rw [Srt, List.pairwise_cons] at hs hs'
      have ha := h a.node
      have hb := h b.node
      rw [get_cons, get_cons, if_pos rfl] at ha
      rw [get_cons, get_cons, if_pos rfl] at hb
      have hab : a = b := by
        by_cases e : b.node = a.node
        · rw [if_pos e] at ha; simpa using ha
        · rw [if_neg e] at ha
          rw [if_neg (fun e' => e e'.symm)] at hb
          have h1 := hs'.1 a (get_mem ha.symm)
          have h2 := hs.1 b (get_mem hb)
          omega
      subst hab
      congr 1
      refine ih hs.2 hs'.2 fun t => ?_
      have ht := h t
      rw [get_cons, get_cons] at ht
      by_cases e : a.node = t
      · have g1 : get r t = none := get_none_of fun m hm => by have := hs.1 m hm; omega
        have g2 : get r' t = none := get_none_of fun m hm => by have := hs'.1 m hm; omega
        rw [g1, g2]
      · rwa [if_neg e, if_neg e] at ht

/-- a put, step by step along the list -/
theorem putL_nil (m : Mem) : putL [] m = [m] := by simp [putL, hasN, ins, posOf]
theorem putL_cons (a : Mem) (r : List Mem) (m : Mem) (hs : Srt (a :: r)) : putL (a :: r) m =
    if a.node < m.node then a :: putL r m else if a.node = m.node then pick a m :: r else m :: a :: r := by
  by_cases h1 : a.node < m.node
  · have e1 : posOf (a :: r) m.node = posOf r m.node + 1 := by rw [posOf, List.takeWhile_cons_of_pos (by simpa using h1), List.length_cons, posOf]
    have e2 : hasN (a :: r) m.node = hasN r m.node := by simp [hasN, show ¬ a.node = m.node from by omega]
    rw [if_pos h1, putL, putL, e1, e2]
    by_cases hh : hasN r m.node = true
    · rw [if_pos hh, if_pos hh]
      simp only [List.getElem?_cons_succ]
      cases r[posOf r m.node]? with
      | none => rfl
      | some x => by_cases hl : laterB m x = true <;> simp [hl]
    · rw [if_neg hh, if_neg hh]; simp [ins]
  · have e1 : posOf (a :: r) m.node = 0 := by rw [posOf, List.takeWhile_cons_of_neg (by simpa using h1)]; rfl
    rw [if_neg h1]
    by_cases h2 : a.node = m.node
    · have e2 : hasN (a :: r) m.node = true := by simp [hasN, h2]
      rw [if_pos h2, putL, if_pos e2, e1, pick]
      by_cases hl : laterB m a = true <;> simp [hl]
    · have e2 : ¬ hasN (a :: r) m.node = true := by
        simp only [hasN, List.any_cons, Bool.or_eq_true, List.any_eq_true]
        rw [Srt, List.pairwise_cons] at hs
        rintro (h | ⟨q, hq, h⟩)
        · simp at h; omega
        · have := hs.1 q hq; simp at h; omega
      rw [if_neg h2, putL, if_neg e2, e1]; simp [ins]
theorem pick_node (x y : Mem) (h : x.node = y.node) : (pick x y).node = y.node := by
  unfold pick; split <;> simp [h]
theorem mem_putL {l : List Mem} {m x : Mem} (hs : Srt l) (h : x ∈ putL l m) : x ∈ l ∨ x = m := by
  induction l with
  | nil => rw [putL_nil] at h; simpa using h
  | cons a r ih =>
    rw [putL_cons a r m hs] at h
    have hs' : Srt r := by rw [Srt, List.pairwise_cons] at hs; exact hs.2
    split at h
    · rcases List.mem_cons.1 h with rfl | h
      · simp
      · rcases ih hs' h with h | h <;> simp [h]
    · split at h
      · rcases List.mem_cons.1 h with rfl | h
        · unfold pick; split <;> simp
        · simp [h]
      · simp only [List.mem_cons] at h ⊢
        rcases h with h | h | h <;> simp [h]
theorem srt_putL {l : List Mem} (m : Mem) (hs : Srt l) : Srt (putL l m) := by
  induction l with
  | nil => rw [putL_nil]; simp [Srt]
  | cons a r ih =>
    have hs0 := hs
    rw [Srt, List.pairwise_cons] at hs
    rw [putL_cons a r m hs0]
    split
    · rename_i h
      rw [Srt, List.pairwise_cons]
      refine ⟨fun b hb => ?_, ih hs.2⟩
      rcases mem_putL hs.2 hb with hb | rfl
      · exact hs.1 b hb
      · exact h
    · split
      · rename_i h
        rw [Srt, List.pairwise_cons]
        exact ⟨fun b hb => by have := hs.1 b hb; rw [pick_node a m h]; omega, hs.2⟩
      · rw [Srt, List.pairwise_cons, List.pairwise_cons]
        exact ⟨fun b hb => by rcases List.mem_cons.1 hb with rfl | hb; omega; (have := hs.1 b hb; omega), hs.1, hs.2⟩
theorem get_putL {l : List Mem} (m : Mem) (hs : Srt l) (t : Int) : get (putL l m) t = if m.node = t then join (get l t) (some m) else get l t := by
  induction l with
  | nil => rw [putL_nil, get_cons]; simp [get, join]
  | cons a r ih =>
    have hs0 := hs
    rw [Srt, List.pairwise_cons] at hs
    rw [putL_cons a r m hs0]
    split
    · rename_i h
      rw [get_cons, ih hs.2, get_cons]
      by_cases e : a.node = t
      · rw [if_pos e, if_neg (by omega), if_pos e]
      · rw [if_neg e, if_neg e]
    · rename_i h
      split
      · rename_i h2
        rw [get_cons, pick_node a m h2, get_cons, h2]
        by_cases e : m.node = t <;> simp [e, join]
      · rename_i h2
        rw [get_cons]
        by_cases e : m.node = t
        · have : get (a :: r) t = none := get_none_of fun x hx => by
            rcases List.mem_cons.1 hx with rfl | hx
            · omega
            · have := hs.1 x hx; omega
          rw [if_pos e, if_pos e, this]; rfl
        · rw [if_neg e, if_neg e]

def rank (m : Mem) : Int := 2 * m.ver + (if m.up = true then 0 else 1)
theorem laterB_iff (a b : Mem) : laterB a b = true ↔ rank b < rank a := by
  obtain ⟨n1, v1, u1⟩ := a
  obtain ⟨n2, v2, u2⟩ := b
  cases u1 <;> cases u2 <;> simp [laterB, rank] <;> omega
theorem rank_eq {x y : Mem} (h : x.node = y.node) (hr : rank x = rank y) : x = y := by
  obtain ⟨n1, v1, u1⟩ := x
  obtain ⟨n2, v2, u2⟩ := y
  simp only at h; subst h
  cases u1 <;> cases u2 <;> simp [rank] at hr ⊢ <;> omega
theorem pick_def (x y : Mem) : pick x y = if rank x < rank y then y else x := by
  unfold pick
  by_cases h : rank x < rank y
  · rw [if_pos ((laterB_iff y x).2 h), if_pos h]
  · rw [if_neg (fun h' => h ((laterB_iff y x).1 h')), if_neg h]
theorem pick_comm (x y : Mem) (h : x.node = y.node) : pick x y = pick y x := by
  rw [pick_def, pick_def]
  by_cases h1 : rank x < rank y
  · rw [if_pos h1, if_neg (by omega)]
  · by_cases h2 : rank y < rank x
    · rw [if_neg h1, if_pos h2]
    · rw [if_neg h1, if_neg h2]; exact rank_eq h (by omega)
theorem pick_assoc (x y z : Mem) : pick (pick x y) z = pick x (pick y z) := by
  simp only [pick_def]
  by_cases h1 : rank x < rank y <;> by_cases h2 : rank y < rank z <;> by_cases h3 : rank x < rank z <;> simp [h1, h2, h3] <;> omega
theorem pick_self (x : Mem) : pick x x = x := by unfold pick; split <;> rfl
theorem pick_pick (x y : Mem) : pick (pick x y) x = pick x y ∨ x.node ≠ y.node := by
  by_cases h : x.node = y.node
  · left; rw [pick_comm x y h, pick_assoc, pick_self]
  · right; exact h
theorem pick_or (x y : Mem) : pick x y = x ∨ pick x y = y := by unfold pick; split <;> simp

theorem srt_mergeL {a : List Mem} (b : List Mem) (hs : Srt a) : Srt (mergeL a b) := by
  induction b generalizing a with
  | nil => exact hs
  | cons m r ih => exact ih (srt_putL m hs)
theorem get_mergeL {a : List Mem} (b : List Mem) (hs : Srt a) (hb : Srt b) (t : Int) : get (mergeL a b) t = join (get a t) (get b t) := by
  induction b generalizing a with
  | nil => rw [show mergeL a [] = a from rfl, show get ([] : List Mem) t = none from rfl]; cases get a t <;> rfl
  | cons m r ih =>
    have e : mergeL a (m :: r) = mergeL (putL a m) r := rfl
    rw [Srt, List.pairwise_cons] at hb
    rw [e, ih (srt_putL m hs) hb.2, get_putL m hs, get_cons]
    by_cases h : m.node = t
    · have : get r t = none := get_none_of fun x hx => by have := hb.1 x hx; omega
      rw [if_pos h, if_pos h, this]
      cases join (get a t) (some m) <;> rfl
    · rw [if_neg h, if_neg h]
theorem mem_mergeL {a b : List Mem} (hs : Srt a) {x : Mem} (h : x ∈ mergeL a b) : x ∈ a ∨ x ∈ b := by
  induction b generalizing a with
  | nil => exact Or.inl h
  | cons m r ih =>
    rcases ih (srt_putL m hs) h with h | h
    · rcases mem_putL hs h with h | rfl <;> simp [h]
    · simp [h]
theorem valid_mergeL {a b : List Mem} (ha : Valid a) (hb : Valid b) : Valid (mergeL a b) :=
  ⟨srt_mergeL b ha.1, fun m hm => by rcases mem_mergeL ha.1 hm with h | h; exact ha.2 m h; exact hb.2 m h⟩

theorem join_comm {x y : Option Mem} (h : ∀ a b, x = some a → y = some b → a.node = b.node) : join x y = join y x := by
  cases x <;> cases y <;> simp only [join]
  rw [pick_comm _ _ (h _ _ rfl rfl)]
theorem join_assoc (x y z : Option Mem) : join (join x y) z = join x (join y z) := by
  cases x <;> cases y <;> cases z <;> simp [join, pick_assoc]
theorem join_join {x y : Option Mem} (h : ∀ a b, x = some a → y = some b → a.node = b.node) : join (join x y) x = join x y := by
  cases x <;> cases y <;> simp only [join, pick_self]
  rcases pick_pick _ _ with e | e
  · rw [e]
  · exact absurd (h _ _ rfl rfl) e

theorem merge_comm {a b : List Mem} (ha : Srt a) (hb : Srt b) : mergeL a b = mergeL b a :=
  ext (srt_mergeL b ha) (srt_mergeL a hb) fun t => by
    rw [get_mergeL b ha hb, get_mergeL a hb ha]
    exact join_comm fun x y hx hy => by rw [get_node hx, get_node hy]
theorem merge_again {a b : List Mem} (ha : Srt a) (hb : Srt b) : mergeL (mergeL a b) a = mergeL a b :=
  ext (srt_mergeL a (srt_mergeL b ha)) (srt_mergeL b ha) fun t => by
    rw [get_mergeL a (srt_mergeL b ha) ha, get_mergeL b ha hb]
    exact join_join fun x y hx hy => by rw [get_node hx, get_node hy]
theorem merge_assoc {a b c : List Mem} (ha : Srt a) (hb : Srt b) (hc : Srt c) : mergeL (mergeL a b) c = mergeL a (mergeL b c) :=
  ext (srt_mergeL c (srt_mergeL b ha)) (srt_mergeL _ ha) fun t => by
    rw [get_mergeL c (srt_mergeL b ha) hc, get_mergeL b ha hb, get_mergeL _ ha (srt_mergeL c hb), get_mergeL c hb hc, join_assoc]

/-- who of b is newer than in a -/
def newB (a : List Mem) (m : Mem) : Bool := match get a m.node with | none => true | some x => laterB m x
def newerL (a b : List Mem) : List Mem := b.filter (newB a)
theorem srt_newerL {a b : List Mem} (hb : Srt b) : Srt (newerL a b) := List.Pairwise.filter _ hb
theorem valid_newerL {a b : List Mem} (hb : Valid b) : Valid (newerL a b) := ⟨srt_newerL hb.1, fun m hm => hb.2 m ((List.mem_filter.1 hm).1)⟩
theorem get_filter {b : List Mem} (p : Mem → Bool) (hb : Srt b) (t : Int) : get (b.filter p) t = (get b t).filter p := by
  induction b with
  | nil => rfl
  | cons m r ih =>
    rw [Srt, List.pairwise_cons] at hb
    rw [get_cons, List.filter_cons]
    by_cases h : m.node = t
    · have hn : get r t = none := get_none_of fun x hx => by have := hb.1 x hx; omega
      by_cases hp : p m = true
      · rw [if_pos hp, get_cons, if_pos h]; simp [h, Option.filter, hp]
      · rw [if_neg hp, ih hb.2, hn, if_pos h]; simp [Option.filter, hp]
    · by_cases hp : p m = true
      · rw [if_pos hp, get_cons, if_neg h, if_neg h, ih hb.2]
      · rw [if_neg hp, if_neg h, ih hb.2]
theorem merge_newer {a b : List Mem} (ha : Srt a) (hb : Srt b) : mergeL a (newerL a b) = mergeL a b :=
  ext (srt_mergeL _ ha) (srt_mergeL b ha) fun t => by
    rw [get_mergeL _ ha (srt_newerL hb), get_mergeL b ha hb, newerL, get_filter _ hb]
    cases hb' : get b t with
    | none => rfl
    | some y =>
      have hyt := get_node hb'
      cases ha' : get a t with
      | none => simp [Option.filter, newB, hyt, ha', join]
      | some x =>
        by_cases hl : laterB y x = true
        · simp [Option.filter, newB, hyt, ha', join, hl]
        · simp [Option.filter, newB, hyt, ha', join, hl, pick]

/-- views that are right -/
theorem chkL_ok (l : List Mem) (p : Option Int) : chkL p l = 0 ↔ (l.Pairwise fun a b => a.node < b.node) ∧ (∀ m ∈ l, okM m) ∧ (∀ q, p = some q → ∀ m ∈ l, q < m.node) := by
  induction l generalizing p with
  | nil => simp [chkL]
  | cons m r ih =>
    rw [chkL]
    by_cases hb : m.node < 0 ∨ 16 ≤ m.node ∨ m.ver < 1 ∨ 1000000 < m.ver
    · have e : chk1 p m = 1 := by unfold chk1; rw [if_pos hb]
      rw [e]
      simp only [Int.reduceEq, if_false, false_iff, not_and, Classical.not_imp]
      intro _ h
      have := h m (by simp)
      unfold okM at this
      omega
    · have e : chk1 p m = 0 ↔ ∀ q, p = some q → q < m.node := by
        unfold chk1
        rw [if_neg hb]
        cases p with
        | none => simp
        | some q =>
          simp only [Option.some.injEq, forall_eq']
          split <;> simp <;> omega
      by_cases h0 : chk1 p m = 0
      · rw [if_pos h0, ih]
        simp only [List.pairwise_cons, Option.some.injEq, forall_eq', List.mem_cons, forall_eq_or_imp]
        have hm : okM m := by unfold okM; omega
        have h1 := e.1 h0
        constructor
        · rintro ⟨hp, ho, hq⟩
          exact ⟨⟨hq, hp⟩, ⟨hm, ho⟩, fun q hpq => ⟨h1 q hpq, fun x hx => by have := h1 q hpq; have := hq x hx; omega⟩⟩
        · rintro ⟨⟨hq, hp⟩, ⟨_, ho⟩, _⟩
          exact ⟨hp, ho, hq⟩
      · rw [if_neg h0]
        constructor
        · intro h; exact absurd h h0
        · rintro ⟨_, _, hq⟩
          exact absurd (e.2 fun q hpq => hq q hpq m (by simp)) h0
theorem srt_length {l : List Mem} (lo : Int) (n : Nat) (hs : Srt l) (h : ∀ m ∈ l, lo ≤ m.node ∧ m.node < lo + n) : l.length ≤ n := by
  induction n generalizing l lo with
  | zero =>
    cases l with
    | nil => simp
    | cons a r => have := h a (by simp); omega
  | succ n ih =>
    cases l with
    | nil => simp
    | cons a r =>
      rw [Srt, List.pairwise_cons] at hs
      have := ih (lo + 1) hs.2 (fun m hm => by have h1 := hs.1 m hm; have h2 := h a (by simp); have h3 := h m (by simp [hm]); omega)
      simpa using this
theorem valid_length {l : List Mem} (h : Valid l) : l.length ≤ 16 :=
  srt_length 0 16 h.1 fun m hm => by have := h.2 m hm; unfold okM at this; omega
theorem viewErr_zero (l : List Mem) : viewErr l = 0 ↔ Valid l := by
  unfold viewErr
  constructor
  · intro h
    split at h
    · cases h
    · have := (chkL_ok l none).1 h
      exact ⟨this.1, this.2.1⟩
  · intro h
    have := valid_length h
    rw [if_neg (by omega)]
    exact (chkL_ok l none).2 ⟨h.1, h.2, by simp⟩
end Go.Proofs.YtachfnmbhhppbaaDoor
