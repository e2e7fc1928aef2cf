/- The search. -/
import Derived.Test.YtachfnmbhhppbaaDoorB
import Derived.Test.YtachfnmbhhppbaaDoorP
import Derived.StillTailTactics
import Derived.Test.YtachfnmbhhppbaaDoorQ
import Derived.Deep.LoopGhost
namespace Go.Proofs.YtachfnmbhhppbaaDoor
set_option maxRecDepth 100000
open Go.RowKit

theorem compare_any (n1 v1 n2 v2 : Int) (u1 u2 : Bool) (w : World) :
    Calls Tryd.prog 25 #[.agg #[.int .i64 n1, .int .i64 v1, .bool u1], .agg #[.int .i64 n2, .int .i64 v2, .bool u2]] w fun e w' => e = .returned (.int .i64 (cmp3 n1 n2)) ∧ Below w.heap.size w w' := by
  go_enter Tryd.func25, Tryd.ntmps25
  go_wp2_with (go_at_call 32; refine (cmp_any _ _ _).mono ?_; rintro e w' ⟨rfl, rfl⟩)
  go_ret
  exact ⟨rfl, ((Below.refl _ _).alloc (Nat.le_refl _) _).alloc (by simp) _⟩
/-- the same, by the answer's sign -/
theorem compare_lt (n1 v1 n2 v2 : Int) (u1 u2 : Bool) (w : World) (h : n1 < n2) :
    Calls Tryd.prog 25 #[.agg #[.int .i64 n1, .int .i64 v1, .bool u1], .agg #[.int .i64 n2, .int .i64 v2, .bool u2]] w fun e w' => e = .returned (.int .i64 (-1)) ∧ Below w.heap.size w w' :=
  (compare_any n1 v1 n2 v2 u1 u2 w).mono fun e w' ⟨h1, h2⟩ => ⟨by rw [h1, cmp3, if_pos h], h2⟩
theorem compare_eq (n1 v1 n2 v2 : Int) (u1 u2 : Bool) (w : World) (h : n1 = n2) :
    Calls Tryd.prog 25 #[.agg #[.int .i64 n1, .int .i64 v1, .bool u1], .agg #[.int .i64 n2, .int .i64 v2, .bool u2]] w fun e w' => e = .returned (.int .i64 0) ∧ Below w.heap.size w w' :=
  (compare_any n1 v1 n2 v2 u1 u2 w).mono fun e w' ⟨h1, h2⟩ => ⟨by rw [h1, cmp3, if_neg (by omega), if_neg (by omega)], h2⟩
theorem compare_gt (n1 v1 n2 v2 : Int) (u1 u2 : Bool) (w : World) (h : n2 < n1) :
    Calls Tryd.prog 25 #[.agg #[.int .i64 n1, .int .i64 v1, .bool u1], .agg #[.int .i64 n2, .int .i64 v2, .bool u2]] w fun e w' => e = .returned (.int .i64 1) ∧ Below w.heap.size w w' :=
  (compare_any n1 v1 n2 v2 u1 u2 w).mono fun e w' ⟨h1, h2⟩ => ⟨by rw [h1, cmp3, if_neg (by omega), if_pos h], h2⟩
theorem compare_ge (n1 v1 n2 v2 : Int) (u1 u2 : Bool) (w : World) (h : n2 ≤ n1) :
    Calls Tryd.prog 25 #[.agg #[.int .i64 n1, .int .i64 v1, .bool u1], .agg #[.int .i64 n2, .int .i64 v2, .bool u2]] w fun e w' => (∃ r : Int, 0 ≤ r ∧ e = .returned (.int .i64 r)) ∧ Below w.heap.size w w' :=
  (compare_any n1 v1 n2 v2 u1 u2 w).mono fun e w' ⟨h1, h2⟩ => ⟨⟨cmp3 n1 n2, by unfold cmp3; (repeat' split) <;> omega, h1⟩, h2⟩

def tgt (t : Int) : Mem := ⟨t, 0, false⟩

theorem ret_ib {a b : Int} {c d : Bool} (h : b = a) (h' : d = c) : Ending.returned (.tuple #[.int .i64 a, .bool c]) = .returned (.tuple #[.int .i64 b, .bool d]) := by rw [h, h']
theorem lo_step (l : List Mem) (t : Int) (k : Nat) (m : Mem) (hs : Srt l) (hm : l[k]? = some m) (h : m.node < t) : ∀ p q, l[p]? = some q → p < k + 1 → q.node < t := by
  intro p q hp hk
  obtain ⟨h1, h2⟩ := List.getElem?_eq_some_iff.1 hm
  obtain ⟨h3, h4⟩ := List.getElem?_eq_some_iff.1 hp
  rcases Nat.lt_or_ge p k with hlt | hge
  · have := (List.pairwise_iff_getElem.1 hs) p k h3 h1 hlt
    rw [h2, h4] at this
    omega
  · obtain rfl : p = k := by omega
    rw [hm] at hp; cases hp; exact h
theorem hi_step (l : List Mem) (t : Int) (k : Nat) (m : Mem) (hs : Srt l) (hm : l[k]? = some m) (h : ¬ m.node < t) : ∀ p q, l[p]? = some q → k ≤ p → t ≤ q.node := by
  intro p q hp hk
  obtain ⟨h1, h2⟩ := List.getElem?_eq_some_iff.1 hm
  obtain ⟨h3, h4⟩ := List.getElem?_eq_some_iff.1 hp
  rcases Nat.lt_or_ge k p with hlt | hge
  · have := (List.pairwise_iff_getElem.1 hs) k p h1 h3 hlt
    rw [h2, h4] at this
    omega
  · obtain rfl : p = k := by omega
    rw [hm] at hp; cases hp; omega
theorem posOf_eq (l : List Mem) (t : Int) (k : Nat) (_hs : Srt l) (hlo : ∀ p m, l[p]? = some m → p < k → m.node < t) (hhi : ∀ p m, l[p]? = some m → k ≤ p → t ≤ m.node) (hk : k ≤ l.length) : posOf l t = k := by
  induction l generalizing k with
  | nil => simp at hk; subst hk; rfl
  | cons a r ih =>
    cases k with
    | zero =>
      have := hhi 0 a rfl (by omega)
      simp [posOf, show ¬ a.node < t from by omega]
    | succ k =>
      have h0 := hlo 0 a rfl (by omega)
      have := ih k (by rw [Srt, List.pairwise_cons] at _hs; exact _hs.2) (fun p m hp hlt => hlo (p + 1) m (by simpa using hp) (by omega)) (fun p m hp hge => hhi (p + 1) m (by simpa using hp) (by omega)) (by simpa using hk)
      simp only [posOf] at this ⊢
      rw [List.takeWhile_cons_of_pos (by simp [h0]), List.length_cons, this]
theorem hasN_yes (l : List Mem) (t : Int) (k : Nat) (m : Mem) (hm : l[k]? = some m) (h : m.node = t) : hasN l t = true := by
  rw [hasN, List.any_eq_true]
  exact ⟨m, List.mem_of_getElem? hm, by simp [h]⟩
theorem hasN_no (l : List Mem) (t : Int) (k : Nat) (hs : Srt l) (hlo : ∀ p m, l[p]? = some m → p < k → m.node < t) (hhi : ∀ p m, l[p]? = some m → k ≤ p → t ≤ m.node) (hk : ∀ q, l[k]? = some q → q.node ≠ t) : hasN l t = false := by
  rw [hasN, List.any_eq_false]
  intro q hq
  obtain ⟨p, hp⟩ := List.getElem?_of_mem hq
  rcases Nat.lt_trichotomy p k with h | h | h
  · have := hlo p q hp h; simp; omega
  · subst h; simpa using hk q hp
  · obtain ⟨h3, h4⟩ := List.getElem?_eq_some_iff.1 hp
    have hkl : k < l.length := by omega
    have h5 := (List.pairwise_iff_getElem.1 hs) k p hkl h3 h
    have h6 := hhi k _ (List.getElem?_eq_getElem hkl) (by omega)
    rw [h4] at h5
    simp; omega

set_option maxRecDepth 100000 in
set_option maxHeartbeats 1000000 in
theorem bsf_any (A : Option Addr) (n c : Nat) (l : List Mem) (t : Int) (w : World) (hl : l.length = n) (hs : Srt l) (hr : Rd w w.heap.size A l) (hn : n ≤ 1000) :
    Calls Tryd.prog 24 #[.slice A n c, (tgt t).val, .func (.func 25) #[] #[]] w fun e w' => e = .returned (.tuple #[.int .i64 (posOf l t), .bool (hasN l t)]) ∧ Below w.heap.size w w' := by
  unfold Mem.val tgt
  have HL := Lib.hid hl; clear hl
  have HR := Lib.hid hr; clear hr
  have HSr := Lib.hid hs; clear hs
  dsimp only
  obtain ⟨W1, hW1⟩ : ∃ W1, W1 = w.alloc (.cells #[.int .i64 t, .int .i64 0, .bool false] 30) := ⟨_, rfl⟩
  have hsz : W1.heap.size = w.heap.size + 1 := by rw [hW1]; simp
  have hbW : Below w.heap.size w W1 := by rw [hW1]; exact (Below.refl _ _).alloc (Nat.le_refl _) _
  have hc1 : W1.cell? ⟨w.heap.size, 0, none⟩ = some (.int .i64 t) := by rw [hW1]; simp
  have hc2 : W1.cell? ⟨w.heap.size, 1, none⟩ = some (.int .i64 0) := by rw [hW1]; simp
  have hc3 : W1.cell? ⟨w.heap.size, 2, none⟩ = some (.bool false) := by rw [hW1]; simp
  have HR1 : Hid (Rd W1 (w.heap.size + 1) A l) := Lib.hid ((HR.out.below hbW).more (by omega))
  have HW := Lib.hid hW1; clear hW1
  have HZ := Lib.hid hsz; clear hsz
  have HB := Lib.hid hbW; clear hbW
  have H1 := Lib.hid hc1; have H2 := Lib.hid hc2; have H3 := Lib.hid hc3; clear hc1 hc2 hc3
  go_enter Tryd.func24, Tryd.ntmps24
  go_wp2
  rw [← HW.out]
  go_loopw [9, 10] (fun i j wr => ∃ a b : Nat, a ≤ b ∧ b ≤ n ∧ i = .int .i64 a ∧ j = .int .i64 b ∧ (∀ p m, l[p]? = some m → p < a → m.node < t) ∧ (∀ p m, l[p]? = some m → b ≤ p → t ≤ m.node) ∧ Below (w.heap.size + 1) W1 wr) (fun i j _ => (intOf j).toNat - (intOf i).toNat)
  case atStart => exact ⟨0, n, by omega, by omega, rfl, rfl, by omega, fun p m hp hn => by have := (List.getElem?_eq_some_iff.1 hp).1; have := HL.out; omega, Below.refl _ _⟩
  case round =>
    obtain ⟨a, b, hab, hbn, rfl, rfl, hlo, hhi, hb⟩ := hrel
    have HLo := Lib.hid hlo; have HHi := Lib.hid hhi; clear hlo hhi
    by_cases hlt : a < b
    · obtain ⟨bk, off, m, hA, hblk, hm, e1, e2, e3⟩ := HR1.out.at_ hb (k := (a + b) / 2) (by rw [HL.out]; omega)
      subst hA
      have HM := Lib.hid hm; clear hm
      have t1 := (hb.cell (p := ⟨w.heap.size, 0, none⟩) (by simp)).trans H1.out
      have t2 := (hb.cell (p := ⟨w.heap.size, 1, none⟩) (by simp)).trans H2.out
      have t3 := (hb.cell (p := ⟨w.heap.size, 2, none⟩) (by simp)).trans H3.out
      go_wp2_with fail
      have g2 : (0 : Int) ≤ ((a : Int) + b) / 2 := by omega
      have g3 : (((a : Int) + b) / 2).toNat = (a + b) / 2 := by omega
      have g4 : ((a : Int) + b) / 2 < (n : Int) := by omega
      go_still_tail 6, (by kernel_rfl)
      change wpList _ _ _ _ _ wr.drew
      obtain ⟨w2, hw2⟩ : ∃ w2, w2 = wr.drew := ⟨_, rfl⟩
      rw [← hw2]
      have hb2 : Below (w.heap.size + 1) W1 w2 := by rw [hw2]; exact below_drewN hb 1
      clear hw2 g2 g3 g4 e1 e2 e3 t1 t2 t3
      by_cases hcm : m.node < t
      · go_wp2_with (go_at_call 25; refine (compare_lt _ _ _ _ _ _ _ hcm).mono ?_; rintro e w' ⟨rfl, hb3⟩)
        go_roundw
        case rel => exact ⟨(a + b) / 2 + 1, b, by omega, by omega, by go_num, rfl, lo_step l t ((a + b) / 2) m HSr.out HM.out hcm, HHi.out, hb2.trans (hb3.mono (by have := hb2.size; have := HZ.out; omega))⟩
        case measure => simp [intOf]; omega
      · go_wp2_with (go_at_call 25; refine (compare_ge _ _ _ _ _ _ _ (by omega)).mono ?_; rintro e w' ⟨⟨r, hr0, rfl⟩, hb3⟩)
        go_roundw
        case rel => exact ⟨a, (a + b) / 2, by omega, by omega, rfl, by go_num, HLo.out, hi_step l t ((a + b) / 2) m HSr.out HM.out (by omega), hb2.trans (hb3.mono (by have := hb2.size; have := HZ.out; omega))⟩
        case measure => simp [intOf]; omega
    · obtain rfl : a = b := by omega
      by_cases han : a < n
      · obtain ⟨bk, off, m, hA, hblk, hm, e1, e2, e3⟩ := HR1.out.at_ hb (k := a) (by rw [HL.out]; omega)
        subst hA
        have HM := Lib.hid hm; clear hm
        have t1 := (hb.cell (p := ⟨w.heap.size, 0, none⟩) (by simp)).trans H1.out
        have t2 := (hb.cell (p := ⟨w.heap.size, 1, none⟩) (by simp)).trans H2.out
        have t3 := (hb.cell (p := ⟨w.heap.size, 2, none⟩) (by simp)).trans H3.out
        go_wp2_with fail
        have hBz : w.heap.size + 1 ≤ wr.heap.size := by have := hb.size; have := HZ.out; omega
        have e1' := Aft.cell e1 hblk
        have e2' := Aft.cell e2 hblk
        have e3' := Aft.cell e3 hblk
        have t1' := Aft.cell (B := w.heap.size + 1) t1 (Nat.lt_succ_self _)
        have t2' := Aft.cell (B := w.heap.size + 1) t2 (Nat.lt_succ_self _)
        have t3' := Aft.cell (B := w.heap.size + 1) t3 (Nat.lt_succ_self _)
        by_cases hcm : m.node = t
        · have HE := Lib.hid hcm; clear hcm
          refine wp_region_aft (w.heap.size + 1) (by kernel_rfl) (by kernel_rfl) ?_
          repeat (quiet_step ((go_at_call 25; refine Aft.calls _ (compare_eq _ _ _ _ _ _ _ HE.out) hBz)))
          refine wpQuiet_nil ?_
          rintro _ ⟨⟨w2, hb2⟩, rfl⟩
          go_wp2
          go_ret2
          exact ⟨ret_ib (by rw [posOf_eq l t a HSr.out HLo.out HHi.out (by have := HL.out; omega)]) (hasN_yes l t a m HM.out HE.out), HB.out.trans ((hb.trans hb2).mono (by omega))⟩
        · have hcm' : t < m.node := by have := HHi.out a m HM.out (by omega); omega
          refine wp_region_aft (w.heap.size + 1) (by kernel_rfl) (by kernel_rfl) ?_
          repeat (quiet_step ((go_at_call 25; refine Aft.calls _ (compare_gt _ _ _ _ _ _ _ hcm') hBz)))
          refine wpQuiet_nil ?_
          rintro _ ⟨⟨w2, hb2⟩, rfl⟩
          go_wp2
          go_ret2
          exact ⟨ret_ib (by rw [posOf_eq l t a HSr.out HLo.out HHi.out (by have := HL.out; omega)]) (hasN_no l t a HSr.out HLo.out HHi.out (fun q hq => by rw [HM.out] at hq; cases hq; omega)), HB.out.trans ((hb.trans hb2).mono (by omega))⟩
      · have han' : decide ((a : Int) < (n : Int)) = false := by simp; omega
        go_wp2_with fail
        go_quiet (fail)
        go_wp2
        go_ret2
        exact ⟨ret_ib (by rw [posOf_eq l t a HSr.out HLo.out HHi.out (by have := HL.out; omega)]) (hasN_no l t a HSr.out HLo.out HHi.out (fun q hq => by have := (List.getElem?_eq_some_iff.1 hq).1; have := HL.out; omega)), HB.out.trans ((below_drewN hb _).mono (by omega))⟩
end Go.Proofs.YtachfnmbhhppbaaDoor
