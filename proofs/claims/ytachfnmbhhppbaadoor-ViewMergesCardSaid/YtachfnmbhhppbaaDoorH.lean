/- put. -/
import Derived.Test.YtachfnmbhhppbaaDoorG
namespace Go.Proofs.YtachfnmbhhppbaaDoor
set_option maxRecDepth 100000
open Go.RowKit

theorem posOf_le (l : List Mem) (t : Int) : posOf l t ≤ l.length := by
  unfold posOf
  exact (List.takeWhile_sublist _).length_le
theorem hasN_pos (l : List Mem) (t : Int) (hs : Srt l) (h : hasN l t = true) : ∃ x, l[posOf l t]? = some x ∧ x.node = t := by
  induction l with
  | nil => simp [hasN] at h
  | cons a r ih =>
    by_cases hlt : a.node < t
    · have h' : hasN r t = true := by
        simp only [hasN, List.any_cons, Bool.or_eq_true] at h
        rcases h with h | h
        · simp at h; omega
        · exact h
      obtain ⟨x, hx, hn⟩ := ih (by rw [Srt, List.pairwise_cons] at hs; exact hs.2) h'
      refine ⟨x, ?_, hn⟩
      rw [posOf, List.takeWhile_cons_of_pos (by simpa using hlt), List.length_cons]
      simpa [posOf] using hx
    · refine ⟨a, ?_, ?_⟩
      · rw [posOf, List.takeWhile_cons_of_neg (by simpa using hlt)]; rfl
      · simp only [hasN, List.any_cons, Bool.or_eq_true] at h
        rcases h with h | h
        · simpa using h
        · rw [List.any_eq_true] at h
          obtain ⟨q, hq, hqt⟩ := h
          rw [Srt, List.pairwise_cons] at hs
          have := hs.1 q hq
          simp at hqt
          omega
theorem mcells_set (l : List Mem) (i : Nat) (m : Mem) (hi : i < l.length) : mcells (l.set i m) = (((mcells l).set (i * 3) (.int .i64 m.node)).set (i * 3 + 1) (.int .i64 m.ver)).set (i * 3 + 2) (.bool m.up) := by
  induction l generalizing i with
  | nil => simp at hi
  | cons a r ih =>
    cases i with
    | zero => simp [mcells]
    | succ i => rw [show (i + 1) * 3 = i * 3 + 1 + 1 + 1 from by omega, show i * 3 + 1 + 1 + 1 + 1 = (i * 3 + 1) + 1 + 1 + 1 from by omega, show i * 3 + 1 + 1 + 1 + 2 = (i * 3 + 2) + 1 + 1 + 1 from by omega]; simp [mcells, ih i (by simpa using hi)]

theorem own_below {w w' : World} {base : Nat} {e : TypeId} {size : Nat} {v : Value} {n : Nat} {xs : List Value} (h : w.ownsRow base e size v n xs) (hb : Below w.heap.size w w') : w'.ownsRow base e size v n xs :=
  h.kept (row := none) (grown_of_below hb) (by cases hv : v.ownBlock <;> simp)

/-- the new member isn't there -/
theorem put_new (base n : Nat) (A : Option Addr) (c : Nat) (l : List Mem) (m : Mem) (w : World) (hs : Srt l) (hown : w.ownsRow base 30 3 (.slice A n c) n (mcells l)) (hn : n ≤ 500) (hb : base ≤ w.heap.size) (hh : hasN l m.node = false) :
    Calls Tryd.prog 19 #[.slice A n c, .agg #[.int .i64 m.node, .int .i64 m.ver, .bool m.up]] w fun e w' => ∃ v', e = .returned v' ∧ w'.ownsRow base 30 3 v' (n + 1) (mcells (ins l (posOf l m.node) m)) ∧ w.grownBy w' (Value.slice A n c).ownBlock := by
  have hlen : l.length = n := by have := hown.1; rw [mcells_length] at this; omega
  have hp := posOf_le l m.node
  have hR := Rd.of_own hown
  have hlt := hown.lt
  have HL := Lib.hid hlen; have HR := Lib.hid hR; have HS := Lib.hid hs; have HO := Lib.hid hown; have HH := Lib.hid hh; have HP := Lib.hid hp; have HLt := Lib.hid hlt
  clear hlen hR hs hown hh hp hlt
  obtain ⟨W1, hW1⟩ : ∃ W1, W1 = w.alloc (.cells #[.int .i64 m.node, .int .i64 m.ver, .bool m.up] 30) := ⟨_, rfl⟩
  have hsz : W1.heap.size = w.heap.size + 1 := by rw [hW1]; simp
  have hbW : Below w.heap.size w W1 := by rw [hW1]; exact (Below.refl _ _).alloc (Nat.le_refl _) _
  have c1 : W1.cell? ⟨w.heap.size, 0, none⟩ = some (.int .i64 m.node) := by rw [hW1]; simp
  have c2 : W1.cell? ⟨w.heap.size, 1, none⟩ = some (.int .i64 m.ver) := by rw [hW1]; simp
  have c3 : W1.cell? ⟨w.heap.size, 2, none⟩ = some (.bool m.up) := by rw [hW1]; simp
  have HW := Lib.hid hW1; have HZ := Lib.hid hsz; have HB := Lib.hid hbW; clear hW1 hsz hbW
  go_enter Tryd.func19, Tryd.ntmps19
  go_wp2_with fail
  rw [← HW.out]
  refine (find_any A n c l m.node _ HL.out HS.out ((HR.out.below HB.out).more (by rw [HZ.out]; omega)) (by omega)).mono ?_
  rintro e w1 ⟨rfl, hb1⟩
  rw [HH.out]
  have d1 := (hb1.cell (p := ⟨w.heap.size, 0, none⟩) (by rw [HZ.out]; exact Nat.lt_succ_self _)).trans c1
  have d2 := (hb1.cell (p := ⟨w.heap.size, 1, none⟩) (by rw [HZ.out]; exact Nat.lt_succ_self _)).trans c2
  have d3 := (hb1.cell (p := ⟨w.heap.size, 2, none⟩) (by rw [HZ.out]; exact Nat.lt_succ_self _)).trans c3
  clear c1 c2 c3
  have HB1 := Lib.hid hb1; clear hb1
  go_wp2_with fail
  have hzz : w.heap.size ≤ w1.heap.size := by have := HB1.out.size; have := HZ.out; omega
  have hbb : Below w.heap.size w (w1.alloc (mblk m)) := (HB.out.trans (HB1.out.mono (by rw [HZ.out]; omega))).alloc hzz _
  refine (insert_any base n (posOf l m.node) w1.heap.size 1 (.slice A n c) l m (w1.alloc (mblk m)) (own_below HO.out hbb) (heap_alloc_new w1 _) (fun e => by have := (HLt.out _ e).2; omega) (by omega) (by rw [← HL.out]; exact HP.out) (by simp; omega)).mono ?_
  rintro e w2 ⟨v', rfl, hown', hgr⟩
  go_wp2
  go_ret
  exact ⟨v', rfl, hown', grownBy_trans (grown_of_below hbb) hgr⟩

/-- it is there, and the one that is there stays -/
theorem put_old (base n : Nat) (A : Option Addr) (c : Nat) (l : List Mem) (m x : Mem) (w : World) (hs : Srt l) (hown : w.ownsRow base 30 3 (.slice A n c) n (mcells l)) (hn : n ≤ 500) (hh : hasN l m.node = true) (hx : l[posOf l m.node]? = some x) (hlat : laterB m x = false) :
    Calls Tryd.prog 19 #[.slice A n c, .agg #[.int .i64 m.node, .int .i64 m.ver, .bool m.up]] w fun e w' => e = .returned (.slice A n c) ∧ Below w.heap.size w w' := by
  have hlen : l.length = n := by have := hown.1; rw [mcells_length] at this; omega
  have hR := Rd.of_own hown
  have hpn : posOf l m.node < n := by have := (List.getElem?_eq_some_iff.1 hx).1; omega
  obtain ⟨p, hp⟩ : ∃ p, p = posOf l m.node := ⟨_, rfl⟩
  have HPe := Lib.hid hp
  rw [← hp] at hpn hx
  have HL := Lib.hid hlen; have HR := Lib.hid hR; have HS := Lib.hid hs; have HH := Lib.hid hh; have HX := Lib.hid hx; have HLa := Lib.hid hlat
  clear hlen hR hs hown hh hx hlat hp
  obtain ⟨W1, hW1⟩ : ∃ W1, W1 = w.alloc (.cells #[.int .i64 m.node, .int .i64 m.ver, .bool m.up] 30) := ⟨_, rfl⟩
  have hsz : W1.heap.size = w.heap.size + 1 := by rw [hW1]; simp
  have hbW : Below w.heap.size w W1 := by rw [hW1]; exact (Below.refl _ _).alloc (Nat.le_refl _) _
  have c1 : W1.cell? ⟨w.heap.size, 0, none⟩ = some (.int .i64 m.node) := by rw [hW1]; simp
  have c2 : W1.cell? ⟨w.heap.size, 1, none⟩ = some (.int .i64 m.ver) := by rw [hW1]; simp
  have c3 : W1.cell? ⟨w.heap.size, 2, none⟩ = some (.bool m.up) := by rw [hW1]; simp
  have HW := Lib.hid hW1; have HZ := Lib.hid hsz; have HB := Lib.hid hbW; clear hW1 hsz hbW
  go_enter Tryd.func19, Tryd.ntmps19
  go_wp2_with fail
  rw [← HW.out]
  refine (find_any A n c l m.node _ HL.out HS.out ((HR.out.below HB.out).more (by rw [HZ.out]; omega)) (by omega)).mono ?_
  rintro e w1 ⟨rfl, hb1⟩
  rw [HH.out, ← HPe.out]
  have d1 := (hb1.cell (p := ⟨w.heap.size, 0, none⟩) (by rw [HZ.out]; exact Nat.lt_succ_self _)).trans c1
  have d2 := (hb1.cell (p := ⟨w.heap.size, 1, none⟩) (by rw [HZ.out]; exact Nat.lt_succ_self _)).trans c2
  have d3 := (hb1.cell (p := ⟨w.heap.size, 2, none⟩) (by rw [HZ.out]; exact Nat.lt_succ_self _)).trans c3
  clear c1 c2 c3
  have hbw1 : Below w.heap.size w w1 := HB.out.trans (hb1.mono (by rw [HZ.out]; omega))
  have hzz : w.heap.size + 1 ≤ w1.heap.size := by have := hb1.size; have := HZ.out; omega
  obtain ⟨b, off, x', hA, hblk, hx', e1, e2, e3⟩ := HR.out.at_ hbw1 (k := p) (by rw [HL.out]; exact hpn)
  rw [HX.out] at hx'
  cases hx'
  subst hA
  have d1' := Aft.cell (B := w.heap.size + 1) d1 (Nat.lt_succ_self _)
  have d2' := Aft.cell (B := w.heap.size + 1) d2 (Nat.lt_succ_self _)
  have d3' := Aft.cell (B := w.heap.size + 1) d3 (Nat.lt_succ_self _)
  have e1' := Aft.cell (B := w.heap.size + 1) e1 (Nat.lt_succ_of_lt hblk)
  have e2' := Aft.cell (B := w.heap.size + 1) e2 (Nat.lt_succ_of_lt hblk)
  have e3' := Aft.cell (B := w.heap.size + 1) e3 (Nat.lt_succ_of_lt hblk)
  have HB1 := Lib.hid hb1; clear hb1
  go_wp2_with fail
  refine wp_region_aft (w.heap.size + 1) (by kernel_rfl) (by kernel_rfl) ?_
  repeat (quiet_step ((go_at_call 21; refine Aft.calls _ (later_no _ _ _ _ _ _ _ HLa.out) hzz)))
  refine wpQuiet_nil ?_
  rintro _ ⟨⟨w2, hb2⟩, rfl⟩
  go_wp2
  go_ret
  exact ⟨rfl, hbw1.trans (hb2.mono (by omega))⟩

/-- it is there, and the new one is later -/
theorem put_set (base n g c : Nat) (l : List Mem) (m x : Mem) (w : World) (hs : Srt l) (hown : w.ownsRow base 30 3 (.slice (some ⟨g, 0, none⟩) n c) n (mcells l)) (hn : n ≤ 500) (hh : hasN l m.node = true) (hx : l[posOf l m.node]? = some x) (hlat : laterB m x = true) :
    Calls Tryd.prog 19 #[.slice (some ⟨g, 0, none⟩) n c, .agg #[.int .i64 m.node, .int .i64 m.ver, .bool m.up]] w fun e w' => e = .returned (.slice (some ⟨g, 0, none⟩) n c) ∧ w'.ownsRow base 30 3 (.slice (some ⟨g, 0, none⟩) n c) n (mcells (l.set (posOf l m.node) m)) ∧ w.grownBy w' (some g) := by
  have hlen : l.length = n := by have := hown.1; rw [mcells_length] at this; omega
  have hR := Rd.of_own hown
  have HO := Lib.hid hown
  have hpn : posOf l m.node < n := by have := (List.getElem?_eq_some_iff.1 hx).1; omega
  obtain ⟨p, hp⟩ : ∃ p, p = posOf l m.node := ⟨_, rfl⟩
  have HPe := Lib.hid hp
  rw [← hp] at hpn hx
  have HL := Lib.hid hlen; have HR := Lib.hid hR; have HS := Lib.hid hs; have HH := Lib.hid hh; have HX := Lib.hid hx; have HLa := Lib.hid hlat
  clear hlen hR hs hown hh hx hlat hp
  obtain ⟨W1, hW1⟩ : ∃ W1, W1 = w.alloc (.cells #[.int .i64 m.node, .int .i64 m.ver, .bool m.up] 30) := ⟨_, rfl⟩
  have hsz : W1.heap.size = w.heap.size + 1 := by rw [hW1]; simp
  have hbW : Below w.heap.size w W1 := by rw [hW1]; exact (Below.refl _ _).alloc (Nat.le_refl _) _
  have c1 : W1.cell? ⟨w.heap.size, 0, none⟩ = some (.int .i64 m.node) := by rw [hW1]; simp
  have c2 : W1.cell? ⟨w.heap.size, 1, none⟩ = some (.int .i64 m.ver) := by rw [hW1]; simp
  have c3 : W1.cell? ⟨w.heap.size, 2, none⟩ = some (.bool m.up) := by rw [hW1]; simp
  have HW := Lib.hid hW1; have HZ := Lib.hid hsz; have HB := Lib.hid hbW; clear hW1 hsz hbW
  go_enter Tryd.func19, Tryd.ntmps19
  go_wp2_with fail
  rw [← HW.out]
  refine (find_any (some ⟨g, 0, none⟩) n c l m.node _ HL.out HS.out ((HR.out.below HB.out).more (by rw [HZ.out]; omega)) (by omega)).mono ?_
  rintro e w1 ⟨rfl, hb1⟩
  rw [HH.out, ← HPe.out]
  have d1 := (hb1.cell (p := ⟨w.heap.size, 0, none⟩) (by rw [HZ.out]; exact Nat.lt_succ_self _)).trans c1
  have d2 := (hb1.cell (p := ⟨w.heap.size, 1, none⟩) (by rw [HZ.out]; exact Nat.lt_succ_self _)).trans c2
  have d3 := (hb1.cell (p := ⟨w.heap.size, 2, none⟩) (by rw [HZ.out]; exact Nat.lt_succ_self _)).trans c3
  clear c1 c2 c3
  have hbw1 : Below w.heap.size w w1 := HB.out.trans (hb1.mono (by rw [HZ.out]; omega))
  have hzz : w.heap.size + 1 ≤ w1.heap.size := by have := hb1.size; have := HZ.out; omega
  obtain ⟨b, off, x', hA, hblk, hx', e1, e2, e3⟩ := HR.out.at_ hbw1 (k := p) (by rw [HL.out]; exact hpn)
  rw [HX.out] at hx'
  cases hx'
  cases hA
  simp only [Nat.zero_add] at e1 e2 e3
  have d1' := Aft.cell (B := w.heap.size + 1) d1 (Nat.lt_succ_self _)
  have d2' := Aft.cell (B := w.heap.size + 1) d2 (Nat.lt_succ_self _)
  have d3' := Aft.cell (B := w.heap.size + 1) d3 (Nat.lt_succ_self _)
  have e1' := Aft.cell (B := w.heap.size + 1) e1 (Nat.lt_succ_of_lt hblk)
  have e2' := Aft.cell (B := w.heap.size + 1) e2 (Nat.lt_succ_of_lt hblk)
  have e3' := Aft.cell (B := w.heap.size + 1) e3 (Nat.lt_succ_of_lt hblk)
  have HB1 := Lib.hid hb1; clear hb1
  go_wp2_with fail
  refine wp_region_aft (w.heap.size + 1) (by kernel_rfl) (by kernel_rfl) ?_
  repeat (quiet_step ((go_at_call 21; refine Aft.calls _ (later_yes _ _ _ _ _ _ _ HLa.out) hzz)))
  refine wpQuiet_nil ?_
  rintro w2 ⟨⟨w2', hb2'⟩, hw2⟩
  have hb2 : Below (w.heap.size + 1) w1 w2 := by rw [hw2]; exact hb2'
  clear hw2 hb2' w2'
  have hbw2 : Below w.heap.size w w2 := hbw1.trans (hb2.mono (by omega))
  have ho2 := own_below HO.out hbw2
  have f1 := ho2.frozenAt (p * 3)
  have f2 := ho2.frozenAt (p * 3 + 1)
  have f3 := ho2.frozenAt (p * 3 + 2)
  have g1 := (hb2.cell (p := ⟨g, p * 3, none⟩) (Nat.lt_succ_of_lt hblk)).trans e1
  have g2 := (hb2.cell (p := ⟨g, p * 3 + 1, none⟩) (Nat.lt_succ_of_lt hblk)).trans e2
  have g3 := (hb2.cell (p := ⟨g, p * 3 + 2, none⟩) (Nat.lt_succ_of_lt hblk)).trans e3
  have k1 := (hb2.cell (p := ⟨w.heap.size, 0, none⟩) (Nat.lt_succ_self _)).trans d1
  have k2 := (hb2.cell (p := ⟨w.heap.size, 1, none⟩) (Nat.lt_succ_self _)).trans d2
  have k3 := (hb2.cell (p := ⟨w.heap.size, 2, none⟩) (Nat.lt_succ_self _)).trans d3
  have HO2 := Lib.hid ho2; have HBw := Lib.hid hbw2
  clear ho2 hbw2 d1 d2 d3 e1 e2 e3 d1' d2' d3' e1' e2' e3' hbw1 hb2
  go_wp2
  go_ret
  refine ⟨rfl, ?_, ?_⟩
  · have s1 := (HO2.out.stored (p * 3) (.int .i64 m.node)).1
    have s2 := (s1.stored (p * 3 + 1) (.int .i64 m.ver)).1
    have s3 := (s2.stored (p * 3 + 2) (.bool m.up)).1
    rw [← HPe.out, mcells_set l p m (by rw [HL.out]; exact hpn)]
    exact s3
  · exact ⟨HBw.out.os, HBw.out.tape, HBw.out.output, by simpa [World.setCell] using HBw.out.size, fun k hk hne => by
      have hkg : k ≠ g := fun e => hne (by rw [e])
      rw [Below.heap_setCell _ _ _ _ hkg, Below.heap_setCell _ _ _ _ hkg, Below.heap_setCell _ _ _ _ hkg]
      exact HBw.out.block k hk⟩

/-- put, whatever is there -/
theorem put_any (base n : Nat) (A : Option Addr) (c : Nat) (l : List Mem) (m : Mem) (w : World) (hs : Srt l) (hown : w.ownsRow base 30 3 (.slice A n c) n (mcells l)) (hn : n ≤ 500) (hb : base ≤ w.heap.size) :
    Calls Tryd.prog 19 #[.slice A n c, .agg #[.int .i64 m.node, .int .i64 m.ver, .bool m.up]] w fun e w' => ∃ v', e = .returned v' ∧ w'.ownsRow base 30 3 v' (putL l m).length (mcells (putL l m)) ∧ w.grownBy w' (Value.slice A n c).ownBlock := by
  have hlen : l.length = n := by have := hown.1; rw [mcells_length] at this; omega
  by_cases hh : hasN l m.node = true
  · obtain ⟨x, hx, hxn⟩ := hasN_pos l m.node hs hh
    have hp := (List.getElem?_eq_some_iff.1 hx).1
    by_cases hla : laterB m x = true
    · have e : putL l m = l.set (posOf l m.node) m := by rw [putL, if_pos hh, hx]; simp [hla]
      rcases hown.2 with ⟨_, h0⟩ | ⟨g, cap, cur, hv, _⟩
      · omega
      · cases hv
        rw [e, List.length_set, hlen]
        exact (put_set base n g c l m x w hs hown hn hh hx hla).mono fun e w' ⟨h1, h2, h3⟩ => ⟨_, h1, h2, h3⟩
    · have e : putL l m = l := by rw [putL, if_pos hh, hx]; simp [hla]
      rw [e, hlen]
      exact (put_old base n A c l m x w hs hown hn hh hx (by simpa using hla)).mono fun e w' ⟨h1, h2⟩ => ⟨_, h1, own_below hown h2, grown_of_below h2⟩
  · have hp := posOf_le l m.node
    have e : putL l m = ins l (posOf l m.node) m := by rw [putL, if_neg hh]
    have e2 : (ins l (posOf l m.node) m).length = n + 1 := by rw [ins, List.length_append, List.length_cons, List.length_take, List.length_drop]; omega
    rw [e, e2]
    exact put_new base n A c l m w hs hown hn hb (by simpa using hh)
end Go.Proofs.YtachfnmbhhppbaaDoor
