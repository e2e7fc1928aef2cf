/- back.Numbers: words and laws. -/
import Derived.Test.YtpaahhanjjjieaaBq
namespace Go.Proofs.Ytpaahhanjjjieaa
set_option maxRecDepth 100000
open Go.RowKit Go.Sort

theorem own_cut {w : World} {base e n m : Nat} {g : Addr} {cap : Nat} {xs : List Value} (h : w.ownsRow base e 1 (.slice (some g) n cap) n xs) (hm : m ≤ n) : w.ownsRow base e 1 (.slice (some g) m cap) m (xs.take m) := by
  have hlen := h.1
  refine ⟨by simp; omega, ?_⟩
  rcases h.2 with ⟨h', _⟩ | ⟨g', cap', cur, h', hb, hg, h1, h2, h3, h4⟩
  · cases h'
  · cases h'
    exact .inr ⟨_, _, cur, rfl, hb, hg, by omega, h2, h3, by rw [← h4, List.take_take]; congr 1; omega⟩
theorem compact_len (l : List Int) : (Lib.compact l).length ≤ l.length := by
  unfold Lib.compact Lib.compactUpTo
  rw [List.length_map]
  have := List.length_filter_le (Lib.keeps l.toArray) (List.range l.length)
  simpa using this
/-- slices.Compact at a row of one's own -/
theorem Compact_own (base n : Nat) (v : Value) (l : List Int) (w : World) (h : w.ownsRow base 3 1 v n (icells l)) (hn : n ≤ 4000000000) :
    Calls Try.prog 16 #[v] w fun e w' => ∃ r, e = .returned r ∧ w'.ownsRow base 3 1 r (Lib.compact l).length (icells (Lib.compact l)) ∧ w.grownBy w' v.ownBlock := by
  have hlen := h.1
  rw [icells_length] at hlen
  rcases h.2 with ⟨rfl, h0⟩ | ⟨gb, cap, cur, rfl, hbase, hgb, r1, r2, r3, r4⟩
  · have : l = [] := List.eq_nil_of_length_eq_zero (by omega)
    subst this
    subst h0
    exact (Try.slices_Compact_int_empty none 0 w).mono fun e w' ⟨h1, h2⟩ => ⟨_, h1, by rw [h2]; exact World.ownsRow_nil _ _ _ _, by rw [h2]; exact World.grownBy.refl _ _⟩
  · obtain rfl : n = l.length := by omega
    have hH : Holds (Value.int .i64) w gb 0 l.toArray := holds_of_blockI hgb (by simpa [icells] using r4)
    have hcl := compact_len l
    refine (Try.slices_Compact_int gb 0 cap l w hH (by omega) r1).mono ?_
    rintro e w' ⟨h1, m, rfl⟩
    have ho := ownsRow_sortedI (base := base) (os := #[]) (n := m) (ss := l) (ts := Lib.compact l ++ List.replicate (l.length - (Lib.compact l).length) 0) (by simp; omega) hbase hgb r1 r2 r3
    rw [grow_empty] at ho
    have ho2 := own_cut ho hcl
    have hg := grownBy_sortedI (w := w) (g := gb) (n := m) (os := #[]) (Lib.compact l ++ List.replicate (l.length - (Lib.compact l).length) 0).toArray
    rw [grow_empty] at hg
    refine ⟨_, h1, ?_, hg⟩
    rw [List.map_append, List.take_left' (by simp)] at ho2
    exact ho2

/-- the numbers of a pair as far as its mask has been looked at -/
def offsTo (m j : Nat) : List Nat := (List.range j).filter fun i => m.testBit i
def numsTo (p : Int × Int) (j : Nat) : List Int := p.1 :: (offsTo p.2.toNat j).map fun (i : Nat) => p.1 + (i : Int) + 1
theorem numsTo_zero (p : Int × Int) : numsTo p 0 = [p.1] := rfl
theorem numsTo_all (p : Int × Int) : numsTo p 16 = numsZ p := rfl
theorem offsTo_yes {m j : Nat} (h : m.testBit j = true) : offsTo m (j + 1) = offsTo m j ++ [j] := by simp [offsTo, List.range_succ, List.filter_append, h]
theorem offsTo_no {m j : Nat} (h : m.testBit j = false) : offsTo m (j + 1) = offsTo m j := by simp [offsTo, List.range_succ, List.filter_append, h]
theorem numsTo_yes {p : Int × Int} {j : Nat} (h : p.2.toNat.testBit j = true) : numsTo p (j + 1) = numsTo p j ++ [p.1 + (j : Int) + 1] := by simp [numsTo, offsTo_yes h]
theorem numsTo_no {p : Int × Int} {j : Nat} (h : p.2.toNat.testBit j = false) : numsTo p (j + 1) = numsTo p j := by simp [numsTo, offsTo_no h]
theorem numsTo_length (p : Int × Int) (j : Nat) : (numsTo p j).length ≤ j + 1 := by
  have := List.length_filter_le (fun i => p.2.toNat.testBit i) (List.range j)
  simp [numsTo, offsTo] at *; omega
def inPr (p : Int × Int) : Prop := 0 ≤ p.1 ∧ p.1 ≤ 65535 ∧ 0 ≤ p.2 ∧ p.2 ≤ 65535
instance (p : Int × Int) : Decidable (inPr p) := by unfold inPr; infer_instance
def lastN (p : Int × Int) : Int := (numsZ p).getLastD 0
theorem numsZ_ne (p : Int × Int) : numsZ p ≠ [] := by simp [numsZ, nums]
theorem lastN_mem (p : Int × Int) : lastN p ∈ numsZ p := by
  unfold lastN
  rw [List.getLastD_eq_getLast?, List.getLast?_eq_some_getLast (numsZ_ne p)]
  exact List.getLast_mem _
theorem lastN_max (p : Int × Int) : ∀ x ∈ numsZ p, x ≤ lastN p := by
  intro x hx
  have hs : SS (numsZ p) := nums_ss _
  obtain ⟨i, hi, rfl⟩ := List.getElem_of_mem hx
  unfold lastN
  rw [List.getLastD_eq_getLast?, List.getLast?_eq_some_getLast (numsZ_ne p), Option.getD_some, List.getLast_eq_getElem]
  rcases Nat.lt_or_ge i ((numsZ p).length - 1) with h | h
  · exact Int.le_of_lt (List.pairwise_iff_getElem.1 hs i _ hi (by omega) h)
  · have : i = (numsZ p).length - 1 := by omega
    subst this; omega
def goodPr (p : Int × Int) : Prop := inPr p ∧ lastN p ≤ 65535
instance (p : Int × Int) : Decidable (goodPr p) := by unfold goodPr; infer_instance
theorem goodPr_iff (p : Int × Int) : goodPr p ↔ inPr p ∧ ∀ x ∈ numsZ p, okNum x := by
  unfold goodPr
  constructor
  · rintro ⟨h1, h2⟩
    refine ⟨h1, fun x hx => ?_⟩
    have := lastN_max p x hx
    have := nums_bounds hx
    have := h1.1
    exact ⟨by simp at *; omega, by omega⟩
  · rintro ⟨h1, h2⟩
    exact ⟨h1, (h2 _ (lastN_mem p)).2⟩
def numsErr (l : List (Int × Int)) : Int := if 200 < l.length then 4 else if ∀ p ∈ l, goodPr p then 0 else 1
/-- the numbers of pairs, rising, each once -/
def numsL (l : List (Int × Int)) : List Int := Lib.compact (srt (expandZ l))
theorem expandZ_snoc (l : List (Int × Int)) (p : Int × Int) : expandZ (l ++ [p]) = expandZ l ++ numsZ p := by simp [expandZ]
theorem expandZ_length (l : List (Int × Int)) : (expandZ l).length ≤ 17 * l.length := by
  induction l with
  | nil => simp [expandZ]
  | cons p r ih =>
    have := (length_nums (p.1, p.2.toNat)).2
    simp only [expandZ, List.flatMap_cons, List.length_append, List.length_cons, numsZ] at *
    omega
theorem bit_at (m : Int) (j : Nat) (h0 : 0 ≤ m) (h1 : m ≤ 65535) : bits .and .i64 (m / 2 ^ j) 1 = if m.toNat.testBit j = true then 1 else 0 := by
  obtain ⟨k, rfl⟩ := Int.eq_ofNat_of_zero_le h0
  have e1 : (k : Int) / 2 ^ j = ((k / 2 ^ j : Nat) : Int) := by simp
  have hk : k / 2 ^ j < 65536 := Nat.lt_of_le_of_lt (Nat.div_le_self _ _) (by omega)
  rw [e1, show (1 : Int) = ((1 : Nat) : Int) from rfl, (bits_nat .i64 16 (by decide) (fun n h0 h1 => by rw [IntKind.wrap_i64]; omega) (k / 2 ^ j) 1 (by simpa using hk) (by decide)).1]
  simp only [Int.toNat_natCast, Nat.testBit, Nat.shiftRight_eq_div_pow, Nat.and_comm 1]
  have : k / 2 ^ j &&& 1 = k / 2 ^ j % 2 := Nat.and_one_is_mod _
  rw [this]
  rcases Nat.mod_two_eq_zero_or_one (k / 2 ^ j) with h | h <;> simp [h]
end Go.Proofs.Ytpaahhanjjjieaa
