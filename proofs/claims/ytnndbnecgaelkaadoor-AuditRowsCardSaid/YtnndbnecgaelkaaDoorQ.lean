/- What was sent and what goes out, as lists; the good walk of AuditRows. -/
import Derived.Test.YtnndbnecgaelkaaDoorO
namespace Go.Proofs.YtnndbnecgaelkaaDoor
set_option maxRecDepth 100000
open Go.RowKit

structure Rows2 (s g : List Pk) (sq : Int) : Prop where
  len : s.length = g.length
  chk : ∀ p ∈ g, chkP p = 0
  row : ∀ (k : Nat) p q, g[k]? = some p → g[k + 1]? = some q → q.seq = (p.seq + 1) % 65536
  last : ∀ q, g[g.length - 1]? = some q → q.seq = sq
  alike : ∀ (k : Nat) p q, s[k]? = some p → g[k]? = some q → alikeP p q
theorem Rows2.nil (sq : Int) : Rows2 [] [] sq := ⟨rfl, by simp, by simp, by simp, by simp⟩
theorem Rows2.add {s g : List Pk} {sq : Int} (h : Rows2 s g sq) {m p : Pk} (hc : chkP p = 0) (hs : p.seq = nextSeq g.length sq) (ha : alikeP m p) : Rows2 (s ++ [m]) (g ++ [p]) p.seq where
  len := by simp [h.len]
  chk := fun q hq => by
    rcases List.mem_append.1 hq with hq | hq
    · exact h.chk q hq
    · obtain rfl : q = p := by simpa using hq
      exact hc
  row := fun k a b ha hb => by
    have hbl := (List.getElem?_eq_some_iff.1 hb).1
    simp only [List.length_append, List.length_cons, List.length_nil] at hbl
    by_cases hk : k + 1 < g.length
    · rw [List.getElem?_append_left (by omega)] at ha hb
      exact h.row k a b ha hb
    · have hke : k + 1 = g.length := by omega
      rw [List.getElem?_append_left (by omega)] at ha
      rw [List.getElem?_append_right (by omega), hke] at hb
      simp at hb
      subst hb
      have hsq := h.last a (by rw [← hke]; simpa using ha)
      rw [hs, nextSeq, if_neg (by omega), hsq]
  last := fun q hq => by
    simp at hq
    rw [hq]
  alike := fun k a b ha' hb => by
    by_cases hk : k < g.length
    · rw [List.getElem?_append_left (by rw [h.len]; exact hk)] at ha'
      rw [List.getElem?_append_left hk] at hb
      exact h.alike k a b ha' hb
    · have hbl := (List.getElem?_eq_some_iff.1 hb).1
      simp only [List.length_append, List.length_cons, List.length_nil] at hbl
      have hke : k = g.length := by omega
      rw [List.getElem?_append_right (by rw [h.len]; omega), h.len, hke] at ha'
      rw [List.getElem?_append_right (by omega), hke] at hb
      simp at ha' hb
      subst ha' hb
      exact ha
end Go.Proofs.YtnndbnecgaelkaaDoor
