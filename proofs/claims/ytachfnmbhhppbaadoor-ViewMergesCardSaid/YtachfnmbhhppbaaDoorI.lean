/- Merge. -/
import Derived.Test.YtachfnmbhhppbaaDoorH
namespace Go.Proofs.YtachfnmbhhppbaaDoor
set_option maxRecDepth 100000
open Go.RowKit

/-- a slice value that reads as a list of members -/
def SlR (w : World) (v : Value) (l : List Mem) : Prop :=
  ∃ A n c, v = .slice A n c ∧ l.length = n ∧ n ≤ 9223372036854775807 ∧ Rd w w.heap.size A l ∧ (A = none → n = 0 ∧ c = 0)
theorem SlR.below {w w' : World} {v : Value} {l : List Mem} (h : SlR w v l) (hb : Below w.heap.size w w') : SlR w' v l := by
  obtain ⟨A, n, c, h1, h2, h3, h4, h5⟩ := h
  exact ⟨A, n, c, h1, h2, h3, (h4.below hb).more hb.size, h5⟩
theorem SlR.nil (w : World) : SlR w (.slice none 0 0) [] := ⟨none, 0, 0, rfl, rfl, by omega, Rd.nil, fun _ => ⟨rfl, rfl⟩⟩
theorem SlR.own {w : World} {base n : Nat} {v : Value} {l : List Mem} (h : w.ownsRow base 30 3 v n (mcells l)) (hn : n ≤ 9223372036854775807) : SlR w v l := by
  have hlen := h.1
  rw [mcells_length] at hlen
  have hv : ∃ A c, v = .slice A n c ∧ (A = none → n = 0 ∧ c = 0) := by
    rcases h.2 with ⟨rfl, rfl⟩ | ⟨g, cap, cur, rfl, _⟩
    · exact ⟨none, 0, rfl, fun _ => ⟨rfl, rfl⟩⟩
    · exact ⟨_, cap, rfl, fun e => by cases e⟩
  obtain ⟨A, c, rfl, hA⟩ := hv
  exact ⟨A, n, c, rfl, by omega, hn, Rd.of_own h, hA⟩

theorem own_more {w : World} {base base' e size n : Nat} {v : Value} {xs : List Value} (h : w.ownsRow base e size v n xs) (hb : base' ≤ base) : w.ownsRow base' e size v n xs := by
  refine ⟨h.1, ?_⟩
  rcases h.2 with h | ⟨g, cap, cur, h1, h2, h3⟩
  · exact .inl h
  · exact .inr ⟨g, cap, cur, h1, Nat.le_trans hb h2, h3⟩
theorem own_slice {w : World} {base e size n : Nat} {v : Value} {xs : List Value} (h : w.ownsRow base e size v n xs) : ∃ A c, v = .slice A n c := by
  rcases h.2 with ⟨rfl, rfl⟩ | ⟨g, cap, cur, rfl, _⟩
  · exact ⟨none, 0, rfl⟩
  · exact ⟨_, cap, rfl⟩

theorem mergeL_snoc (a b : List Mem) (k : Nat) (m : Mem) (h : b[k]? = some m) : mergeL a (b.take (k + 1)) = putL (mergeL a (b.take k)) m := by
  obtain ⟨h1, h2⟩ := List.getElem?_eq_some_iff.1 h
  rw [List.take_succ_eq_append_getElem h1, h2, mergeL, mergeL, List.foldl_append]; rfl
theorem length_putL (l : List Mem) (m : Mem) : (putL l m).length ≤ l.length + 1 := by
  unfold putL
  split
  · split
    · split <;> simp
    · simp
  · simp [ins]; omega
theorem length_mergeL (a b : List Mem) : (mergeL a b).length ≤ a.length + b.length := by
  induction b generalizing a with
  | nil => exact Nat.le_refl _
  | cons m r ih => have := ih (putL a m); have h := length_putL a m; simp only [List.length_cons]; exact Nat.le_trans this (by omega)

set_option maxHeartbeats 400000 in
theorem Merge_ok (A B : Option Addr) (n c n' c' : Nat) (a b : List Mem) (w : World) (hl : a.length = n) (hl' : b.length = n') (hr : Rd w w.heap.size A a) (hr' : Rd w w.heap.size B b) (hA : A = none → n = 0 ∧ c = 0) (ha : Valid a) (hb : Valid b) :
    Calls Tryd.prog 9 #[.slice A n c, .slice B n' c'] w fun e w' => ∃ v, e = .returned (.tuple #[v, .nilIface]) ∧ w'.ownsRow w.heap.size 30 3 v (mergeL a b).length (mcells (mergeL a b)) ∧ Below w.heap.size w w' := by
  have hn : n ≤ 16 := by have := valid_length ha; omega
  have hn' : n' ≤ 16 := by have := valid_length hb; omega
  have HL := Lib.hid hl; have HL' := Lib.hid hl'; have HR := Lib.hid hr; have HR' := Lib.hid hr'; have HVa := Lib.hid ha; have HVb := Lib.hid hb; have HA := Lib.hid hA
  clear hl hl' hr hr' ha hb hA
  go_enter Tryd.func9, Tryd.ntmps9
  go_wp2_with fail
  refine (both_ok A B n c n' c' a b _ HL.out HL'.out HR.out HR'.out (by omega) (by omega) ((viewErr_zero a).2 HVa.out) ((viewErr_zero b).2 HVb.out)).mono ?_
  rintro e w1 ⟨rfl, hb1⟩
  have HB1 := Lib.hid hb1; clear hb1
  go_wp2_with fail
  refine (clone_any A n c a w1 HL.out ((HR.out.below HB1.out).more HB1.out.size) HA.out (by omega)).mono ?_
  rintro e w2 ⟨v, rfl, hown, hb2⟩
  have HB2 : Hid (Below w.heap.size w w2) := Lib.hid (HB1.out.trans (hb2.mono HB1.out.size))
  have HO : Hid (w2.ownsRow w.heap.size 30 3 v n (mcells a)) := Lib.hid (own_more hown HB1.out.size)
  clear hown hb2 HB1
  go_wp2_with fail
  go_loopw [7, 20] (fun o i wr => ∃ (k cc : Nat) (A' : Option Addr), k ≤ n' ∧ i = .int .i64 k ∧ o = .slice A' (mergeL a (b.take k)).length cc ∧ wr.ownsRow w.heap.size 30 3 (.slice A' (mergeL a (b.take k)).length cc) (mergeL a (b.take k)).length (mcells (mergeL a (b.take k))) ∧ Below w.heap.size w wr) (fun _ i _ => n' - (intOf i).toNat)
  case atStart =>
    obtain ⟨A', cc, hv⟩ := own_slice HO.out
    have e : mergeL a (b.take 0) = a := rfl
    have h0 := HO.out
    rw [hv] at h0 ⊢
    exact ⟨0, cc, A', by omega, rfl, by rw [e, HL.out], by rw [e, HL.out]; exact h0, HB2.out⟩
  case round =>
    obtain ⟨k, cc, A', hk, rfl, rfl, hown, hb⟩ := hrel
    have hlt' := hown.lt
    have HOw := Lib.hid hown; have HLt := Lib.hid hlt'; clear hown hlt'
    by_cases hlt : k < n'
    · obtain ⟨bk, off, m, hB, hblk, hm, e1, e2, e3⟩ := HR'.out.at_ hb (k := k) (by rw [HL'.out]; omega)
      subst hB
      have HM := Lib.hid hm; clear hm
      have hle := length_mergeL a (b.take k)
      rw [HL.out, List.length_take] at hle
      have HLe : Hid ((mergeL a (b.take k)).length ≤ 32) := Lib.hid (by omega)
      clear hle
      have hsz := hb.size
      have HB := Lib.hid hb; clear hb
      have HSz := Lib.hid hsz; clear hsz
      go_wp2_with fail
      have hbm : Below w.heap.size w (wr.alloc (mblk m)) := HB.out.alloc HSz.out _
      refine (put_any w.heap.size (mergeL a (b.take k)).length A' cc (mergeL a (b.take k)) m (wr.alloc (mblk m)) (srt_mergeL _ HVa.out.1) (own_below HOw.out ((Below.refl _ _).alloc (Nat.le_refl _) _)) (by have := HLe.out; omega) (by have := HSz.out; simp; omega)).mono ?_
      rintro e w3 ⟨v', rfl, hown3, hgr⟩
      obtain ⟨A3, c3, hv3⟩ := own_slice hown3
      rw [← mergeL_snoc a b k m HM.out] at hown3 hv3
      have H3 := Lib.hid hown3; have HG := Lib.hid hgr; have HV3 := Lib.hid hv3
      clear hown3 hgr hv3
      rw [HV3.out]
      go_wp2
      go_roundw
      case rel => exact ⟨k + 1, c3, A3, by omega, by go_num, rfl, by rw [← HV3.out]; exact H3.out, hbm.grown HG.out (by have := HSz.out; simp; omega) (fun j hj => (HLt.out j hj).1)⟩
      case measure => simp [intOf]; omega
    · go_wp2
      go_ret2
      have e : b.take k = b := List.take_of_length_le (by rw [HL'.out]; omega)
      have hO := HOw.out
      rw [e] at hO ⊢
      exact ⟨_, rfl, hO, hb⟩
end Go.Proofs.YtachfnmbhhppbaaDoor
