/- The contracts of Pairs and Numbers in one word each; what they come to together. -/
import Derived.Test.YtpaahhanjjjieaaBo
namespace Go.Proofs.Ytpaahhanjjjieaa
set_option maxRecDepth 100000
open Go.RowKit Go.Sort

def pairsRes (l : List Int) : List (Int × Int) := if pairsErr l = 0 then toZ (pairsL (srt l)) else []
def numsRes (l : List (Int × Int)) : List Int := if numsErr l = 0 then numsL l else []
theorem SlI.own' {w : World} {base e n : Nat} {v : Value} {l : List Int} (h : w.ownsRow base e 1 v n (icells l)) : SlI w v l := SlI.own h

theorem Pairs_s (v : Value) (l : List Int) (w : World) (hv : SlI w v l) (hn : l.length ≤ 9223372036854775807) :
    Calls Try.prog 5 #[v] w fun e w' => ∃ r, e = .returned (.tuple #[r, errV (pairsErr l)]) ∧ SlQ w' r (pairsRes l) ∧ Below w.heap.size w w' := by
  obtain ⟨A, c, rfl, hr⟩ := hv
  unfold pairsRes pairsErr
  by_cases h1 : 200 < l.length
  · rw [if_pos h1, if_neg (by decide)]
    exact (Pairs_long A l.length c w h1 hn).mono fun e w' ⟨h2, h3⟩ => ⟨_, h2, SlQ.nil _, h3⟩
  · rw [if_neg h1]
    by_cases h2 : ∀ x ∈ l, okNum x
    · rw [if_pos h2, if_pos rfl]
      exact (Pairs_ok A l.length c l w rfl hr (by omega) h2).mono fun e w' ⟨r, n', h3, h4, h5⟩ => ⟨r, h3, SlQ.own h4, h5⟩
    · rw [if_neg h2, if_neg (by decide)]
      have hb : ∃ (j : Nat) (x : Int), l[j]? = some x ∧ ¬ okNum x := by
        refine Classical.byContradiction fun hh => h2 fun x hx => ?_
        obtain ⟨j, hj, rfl⟩ := List.getElem_of_mem hx
        exact Classical.byContradiction fun hx => hh ⟨j, _, List.getElem?_eq_getElem hj, hx⟩
      exact (Pairs_range A l.length c l w rfl hr (by omega) hb).mono fun e w' ⟨h3, h4⟩ => ⟨_, h3, SlQ.nil _, h4⟩
theorem Numbers_s (v : Value) (l : List (Int × Int)) (w : World) (hv : SlQ w v l) (hn : l.length ≤ 9223372036854775807) :
    Calls Try.prog 6 #[v] w fun e w' => ∃ r, e = .returned (.tuple #[r, errV (numsErr l)]) ∧ SlI w' r (numsRes l) ∧ Below w.heap.size w w' := by
  obtain ⟨A, c, rfl, hr⟩ := hv
  have key : ∀ e w', NumsPost w l e w' → ∃ r, e = .returned (.tuple #[r, errV (numsErr l)]) ∧ SlI w' r (numsRes l) ∧ Below w.heap.size w w' := by
    rintro e w' ⟨r, h1, h2, h3, h4⟩
    refine ⟨r, h1, ?_, h4⟩
    unfold numsRes
    by_cases h0 : numsErr l = 0
    · rw [if_pos h0]
      obtain ⟨n', h5⟩ := h2 h0
      exact SlI.own h5
    · rw [if_neg h0, h3 h0]
      exact SlI.nil _
  by_cases h1 : 200 < l.length
  · exact (Numbers_long A l.length c l w rfl h1 hn).mono key
  · exact (Numbers_short A l.length c l w rfl hr (by omega)).mono key

theorem pairsErr_zero {l : List Int} (h : pairsErr l = 0) : l.length ≤ 200 ∧ ∀ x ∈ l, okNum x := by
  unfold pairsErr at h
  split at h
  · cases h
  · split at h
    · exact ⟨by omega, by assumption⟩
    · cases h
theorem pairsErr_ok {l : List Int} (h : l.length ≤ 200) (h2 : ∀ x ∈ l, okNum x) : pairsErr l = 0 := by rw [pairsErr, if_neg (by omega), if_pos h2]
theorem pairsL_length (l : List Int) : (pairsL (srt l)).length ≤ l.length := by
  have := length_pairsR (srt l)
  rw [srt_length] at this
  simpa [pairsL] using this
/-- numbers that came into pairs come out, rising, each once -/
theorem nums_pairs {l : List Int} (h : pairsErr l = 0) : numsErr (toZ (pairsL (srt l))) = 0 ∧ numsL (toZ (pairsL (srt l))) = expand (pairsL (srt l)) ∧ SS (expand (pairsL (srt l))) ∧ ∀ x, x ∈ expand (pairsL (srt l)) ↔ x ∈ l := by
  obtain ⟨h1, h2⟩ := pairsErr_zero h
  have hp := pinv_of (srt l) (srt_pw l)
  have hmem : ∀ x, x ∈ expand (pairsL (srt l)) ↔ x ∈ l := fun x => (hp.mem x).trans (srt_mem l x)
  refine ⟨?_, ?_, hp.ss, hmem⟩
  · have hlen : ¬ 200 < (toZ (pairsL (srt l))).length := by have := pairsL_length l; simp [toZ]; omega
    rw [numsErr, if_neg hlen, if_pos]
    intro p hpm
    obtain ⟨q, hq, rfl⟩ := List.mem_map.1 hpm
    rw [goodPr_iff]
    have hall : ∀ x ∈ nums q, okNum x := fun x hx => h2 x ((hmem x).1 (List.mem_flatMap.2 ⟨q, hq, hx⟩))
    have hb := hall q.1 (by simp [nums])
    have hm := hp.mask q (by simpa [pairsL] using hq)
    exact ⟨⟨hb.1, hb.2, by simp, by simp; omega⟩, fun x hx => hall x (by simpa [numsZ] using hx)⟩
  · unfold numsL
    have hc := compact_ss (srt (expandZ (toZ (pairsL (srt l))))) (srt_pw _)
    refine SS_ext hc.1 hp.ss fun x => ?_
    rw [hc.2 x, srt_mem, expandZ_toZ]
theorem errV_ne {k : Int} (h : k ≠ 0) : errV k = .iface 44 (.int .i64 k) := if_neg h
theorem errV_zero : errV 0 = .nilIface := rfl
end Go.Proofs.Ytpaahhanjjjieaa
