/- find, later, Clone. -/
import Derived.Test.YtachfnmbhhppbaaDoorC
import Derived.Test.YtachfnmbhhppbaaDoorE
namespace Go.Proofs.YtachfnmbhhppbaaDoor
set_option maxRecDepth 100000
open Go.RowKit

theorem find_any (A : Option Addr) (n c : Nat) (l : List Mem) (t : Int) (w : World) (hl : l.length = n) (hs : Srt l) (hr : Rd w w.heap.size A l) (hn : n ≤ 1000) :
    Calls Tryd.prog 20 #[.slice A n c, .int .i64 t] w fun e w' => e = .returned (.tuple #[.int .i64 (posOf l t), .bool (hasN l t)]) ∧ Below w.heap.size w w' := by
  have HL := Lib.hid hl; have HR := Lib.hid hr; have HSr := Lib.hid hs; clear hl hr hs
  go_enter Tryd.func20, Tryd.ntmps20
  go_wp2_with (go_at_call 24; refine (bsf_any A n c l t _ HL.out HSr.out HR.out hn).mono ?_; rintro e w' ⟨rfl, hb⟩)
  go_ret2
  exact ⟨rfl, hb⟩


theorem later_any (n1 v1 n2 v2 : Int) (u1 u2 : Bool) (w : World) :
    Calls Tryd.prog 21 #[.agg #[.int .i64 n1, .int .i64 v1, .bool u1], .agg #[.int .i64 n2, .int .i64 v2, .bool u2]] w fun e w' => e = .returned (.bool (laterB ⟨n1, v1, u1⟩ ⟨n2, v2, u2⟩)) ∧ Below w.heap.size w w' := by
  by_cases h1 : v2 < v1
  · go_enter Tryd.func21, Tryd.ntmps21
    go_wp2
    go_ret
    exact ⟨by simp [laterB, h1], ((Below.refl _ _).alloc (Nat.le_refl _) _).alloc (by simp) _⟩
  · have h1' : decide (v2 < v1) = false := by simp; omega
    by_cases h2 : v1 = v2
    · have h2' : (v1 == v2) = true := by simpa using h2
      have H2 := Lib.hid h2; clear h2
      cases u1 <;> cases u2
      all_goals
        go_enter Tryd.func21, Tryd.ntmps21
        go_wp2
        go_ret
        exact ⟨by simp [laterB, h1, H2.out], ((Below.refl _ _).alloc (Nat.le_refl _) _).alloc (by simp) _⟩
    · have h2' : (v1 == v2) = false := by simpa using h2
      go_enter Tryd.func21, Tryd.ntmps21
      go_wp2
      go_ret
      exact ⟨by simp [laterB, h1, h2], ((Below.refl _ _).alloc (Nat.le_refl _) _).alloc (by simp) _⟩
theorem later_yes (n1 v1 n2 v2 : Int) (u1 u2 : Bool) (w : World) (h : laterB ⟨n1, v1, u1⟩ ⟨n2, v2, u2⟩ = true) :
    Calls Tryd.prog 21 #[.agg #[.int .i64 n1, .int .i64 v1, .bool u1], .agg #[.int .i64 n2, .int .i64 v2, .bool u2]] w fun e w' => e = .returned (.bool true) ∧ Below w.heap.size w w' :=
  (later_any n1 v1 n2 v2 u1 u2 w).mono fun e w' ⟨h1, h2⟩ => ⟨by rw [h1, h], h2⟩
theorem later_no (n1 v1 n2 v2 : Int) (u1 u2 : Bool) (w : World) (h : laterB ⟨n1, v1, u1⟩ ⟨n2, v2, u2⟩ = false) :
    Calls Tryd.prog 21 #[.agg #[.int .i64 n1, .int .i64 v1, .bool u1], .agg #[.int .i64 n2, .int .i64 v2, .bool u2]] w fun e w' => e = .returned (.bool false) ∧ Below w.heap.size w w' :=
  (later_any n1 v1 n2 v2 u1 u2 w).mono fun e w' ⟨h1, h2⟩ => ⟨by rw [h1, h], h2⟩

theorem Rd.cells {w : World} {B b off : Nat} {l : List Mem} (h : Rd w B (some ⟨b, off, none⟩) l) : ∀ j u, (mcells l)[j]? = some u → w.cell? ((⟨b, off, none⟩ : Addr).add j) = some u := by
  intro j u hu
  have e : (⟨b, off, none⟩ : Addr).add j = ⟨b, off + j, none⟩ := by unfold Addr.add; split <;> simp_all
  rw [e]
  have hj : j < l.length * 3 := by have := (List.getElem?_eq_some_iff.1 hu).1; rwa [mcells_length] at this
  obtain ⟨b', off', hA, _, hc⟩ := h (by omega)
  cases hA
  have hk : j / 3 < l.length := by omega
  obtain ⟨m, hm⟩ : ∃ m, l[j / 3]? = some m := ⟨_, List.getElem?_eq_getElem hk⟩
  obtain ⟨c0, c1, c2⟩ := hc _ _ hm
  obtain ⟨m0, m1, m2⟩ := mcells_at l _ _ hm
  have : j = j / 3 * 3 ∨ j = j / 3 * 3 + 1 ∨ j = j / 3 * 3 + 2 := by omega
  rcases this with h' | h' | h'
  · rw [h', m0] at hu; cases hu; rw [h']; exact c0
  · rw [h', m1] at hu; cases hu; rw [h', ← Nat.add_assoc]; exact c1
  · rw [h', m2] at hu; cases hu; rw [h', ← Nat.add_assoc]; exact c2

theorem Rd.of_own {w : World} {base n c : Nat} {A : Option Addr} {l : List Mem} (h : w.ownsRow base 30 3 (.slice A n c) n (mcells l)) : Rd w w.heap.size A l := by
  intro hl
  have hlen := h.1
  rw [mcells_length] at hlen
  rcases h.2 with ⟨_, h0⟩ | ⟨g, cap, cur, hv, _, hg, _, _, hcs, htake⟩
  · omega
  · cases hv
    refine ⟨g, 0, rfl, (Array.getElem?_eq_some_iff.1 hg).1, fun k m hm => ?_⟩
    obtain ⟨m0, m1, m2⟩ := mcells_at l k m hm
    have hk := (List.getElem?_eq_some_iff.1 hm).1
    have key : ∀ j u, j < n * 3 → (mcells l)[j]? = some u → w.cell? ⟨g, 0 + j, none⟩ = some u := by
      intro j u hj hu
      rw [← htake, List.getElem?_take, if_pos hj] at hu
      simp only [World.cell?, hg]
      simpa using hu
    exact ⟨key _ _ (by omega) m0, by rw [Nat.add_assoc]; exact key _ _ (by omega) m1, by rw [Nat.add_assoc]; exact key _ _ (by omega) m2⟩

theorem clone_any (A : Option Addr) (n c : Nat) (l : List Mem) (w : World) (hl : l.length = n) (hr : Rd w w.heap.size A l) (hA : A = none → n = 0 ∧ c = 0) (hn : n ≤ 1000) :
    Calls Tryd.prog 18 #[.slice A n c] w fun e w' => ∃ v, e = .returned v ∧ w'.ownsRow w.heap.size 30 3 v n (mcells l) ∧ Below w.heap.size w w' := by
  obtain ⟨i0, hi, hz0, hz1, hz2⟩ := info_parts info28
  have HL := Lib.hid hl; have HR := Lib.hid hr; clear hr
  rcases A with _ | a
  · obtain ⟨rfl, rfl⟩ := hA rfl
    obtain rfl : l = [] := List.eq_nil_of_length_eq_zero hl
    clear hl
    have hq := fun w => Lib.run_eql_slice_nil (P := Tryd.prog) w 22 30 none 0 0 0 0 Tryd.underlying22
    go_enter Tryd.func18, Tryd.ntmps18
    go_wp2
    go_ret
    exact ⟨_, rfl, World.ownsRow_nil _ _ _ _, Below.refl _ _⟩
  · clear hA hl
    have hq := fun w => Lib.run_eql_slice_nil (P := Tryd.prog) w 22 30 (some a) n c 0 0 Tryd.underlying22
    have hown : (w.alloc (.cells #[] 30)).ownsRow w.heap.size 30 3 (.slice (some ⟨w.heap.size, 0, none⟩) 0 0) 0 [] := World.ownsRow_made w #[] 0 (Nat.le_refl _) (by simp [maxLen]) (by simp)
    have hnews : ∀ j u, (mcells l)[j]? = some u → (w.alloc (.cells #[] 30)).cell? (a.add j) = some u := by
      intro j u hu
      have hj : j < l.length * 3 := by have := (List.getElem?_eq_some_iff.1 hu).1; rwa [mcells_length] at this
      obtain ⟨b, off, hA, hb, _⟩ := HR.out (by omega)
      cases hA
      have h0 := Rd.cells HR.out j u hu
      have e : (⟨b, off, none⟩ : Addr).add j = ⟨b, off + j, none⟩ := by unfold Addr.add; split <;> simp_all
      rw [e] at h0 ⊢
      rw [World.cell?_alloc_lt _ _ _ hb]; exact h0
    have HN := Lib.hid hnews; have HO := Lib.hid hown; clear hnews hown
    go_enter Tryd.func18, Tryd.ntmps18
    go_wp2_with (at_builtin; refine wpList_append_own _ rfl _ _ 22 rfl w.heap.size 30 i0 _ 3 24 Tryd.underlying22 hi hz0 hz1 hz2 rfl (by decide) _ _ _ rfl HO.out a n c (mcells l) rfl (by rw [mcells_length, HL.out]) HN.out (one_mcells _) (by unfold maxLen; omega) (by omega) (by simp) ?_; intro v' w1 hown' hgrow _)
    go_ret
    exact ⟨_, rfl, by simpa using hown', ((Below.refl _ _).alloc (Nat.le_refl _) _).grown hgrow (by simp) (fun k hk => by cases hk; exact Nat.le_refl _)⟩
end Go.Proofs.YtachfnmbhhppbaaDoor
