/- The good walk of AuditRows. -/
import Derived.Test.YtnndbnecgaelkaaDoorQ
import Derived.Deep.Cut
namespace Go.Proofs.YtnndbnecgaelkaaDoor
set_option maxRecDepth 100000
open Go.RowKit

def pblk (m : Pk) : Obj := .cells #[.int .i64 m.seq, .int .i64 m.time, .int .i64 m.layer, .int .i64 m.level, .bool m.start, .slice m.A m.n m.c] 29
theorem news_p (w : World) (m : Pk) (vb : Nat) (hv : vb = w.heap.size) : ∀ j u, (pcells [m])[j]? = some u → (w.alloc (pblk m)).cell? ((⟨vb, 0, none⟩ : Addr).add j) = some u := by
  intro j u hu
  have e : (⟨vb, 0, none⟩ : Addr).add j = ⟨vb, j, none⟩ := by unfold Addr.add; split <;> simp_all
  rw [e, hv]
  rcases j with _ | _ | _ | _ | _ | _ | j <;> simp [pcells] at hu <;> simp [pblk, hu]
theorem chk_next {m p : Pk} {q t' : Int} {A' : Option Addr} {c' : Nat} (h : chkP m = 0) (hp : p = ⟨q, t', m.layer, m.level, m.start, A', m.n, c', m.body⟩) (hs : 0 ≤ q ∧ q ≤ 65535) (ht : 0 ≤ t' ∧ t' ≤ 4294967295) : chkP p = 0 := by
  obtain ⟨h1, h2⟩ := chkP_zero h
  subst hp
  unfold badP at h1
  have hb : ¬ badP ⟨q, t', m.layer, m.level, m.start, A', m.n, c', m.body⟩ := by unfold badP; simp only; omega
  rw [chkP, if_neg hb, if_neg (by simpa using h2)]
theorem Apart_lo {w : World} {B : Nat} {m : Pk} (h : Bd w B m) {b : Nat} (hb : B ≤ b) : Apart m b := by
  intro hl b' o t e
  obtain ⟨b2, off, hA, hlt, _⟩ := h.2.2.1 hl
  rw [e] at hA
  cases hA
  omega

set_option maxHeartbeats 16000000 in
theorem audit_good (A : Option Addr) (n c : Nat) (l : List Pk) (seq time : Int) (w : World) (hl : l.length = n) (hr : RdP w w.heap.size A l) (hg : Gl w) (h : ¬ (seq < 0 ∨ 65535 < seq ∨ time < 0 ∨ 4294967295 < time)) :
    Calls Tryd.prog 3 #[.int .i64 seq, .int .i64 time, .slice A n c] w fun e w' => e = .returned (.bool true) ∧ Below w.heap.size w w' := by
  obtain ⟨i0, hi, hz0, hz1, hz2⟩ := info_parts infoP
  have HL := Lib.hid hl; have HR := Lib.hid hr; have HG := Lib.hid hg; have HZ := Lib.hid hg.lt; have H := Lib.hid h
  clear hl hr hg h
  go_enter Tryd.func3, Tryd.ntmps3
  go_wp2_with fail
  refine (Row_lits w).mono ?_
  rintro e w1 ⟨rfl, hb1⟩
  have B := Lib.hid hb1; clear hb1
  go_wp2_with fail
  refine (Error_3 _ (HG.out.below B.out HZ.out)).mono ?_
  rintro e w2 ⟨rfl, hb2⟩
  have B := Lib.hid (B.out.trans (hb2.mono B.out.size)); clear hb2
  go_wp2_with fail
  refine (New_ok seq time _ H.out).mono ?_
  rintro e w3 ⟨rfl, hw3⟩
  obtain ⟨bo, hbo⟩ : ∃ bo, bo = w2.heap.size := ⟨_, rfl⟩
  rw [← hbo]
  have HI0 : Hid (Inv w w.heap.size bo w3 (.slice none 0 0) (.slice none 0 0) [] [] seq time 0 0 0) := Lib.hid (by
    have hh := H.out
    refine ⟨World.ownsRow_nil _ _ _ _, World.ownsRow_nil _ _ _ _, by simp [Value.ownBlock], ⟨?_, fun o => ?_⟩, by omega, by omega, by omega, ?_, by rw [hbo]; exact B.out.size, by rw [hw3, hbo]; simp, by simp, by simp⟩
    · rw [hw3, hbo]; simp
    · rw [hw3, hbo]; exact World.frozen?_alloc_at (w := w2) _ _ w2.heap.size o rfl
    · rw [hw3]; exact B.out.alloc B.out.size _)
  clear hw3 hbo
  go_wp2_with fail
  go_loopw [12, 13, 14] (fun sv gv i wr => ∃ (k c1 c2 : Nat) (A1 A2 : Option Addr) (s g : List Pk) (sq tm lt ll : Int), k ≤ n ∧ k ≤ 60 ∧ i = .int .i64 k ∧ sv = .slice A1 s.length c1 ∧ gv = .slice A2 g.length c2 ∧ Inv w w.heap.size bo wr (.slice A1 s.length c1) (.slice A2 g.length c2) s g sq tm g.length lt ll ∧ Rows2 s g sq ∧ g.length ≤ k) (fun _ _ i _ => 60 - (intOf i).toNat)
  case atStart => exact ⟨0, 0, 0, none, none, [], [], seq, time, 0, 0, by omega, by omega, rfl, rfl, rfl, HI0.out, Rows2.nil _, by simp⟩
  case round =>
    obtain ⟨k, c1, c2, A1, A2, s, g, sq, tm, lt, ll, hk, hk60, rfl, rfl, rfl, hinv, hrows, hgl⟩ := hrel
    have I := Lib.hid hinv; have R2 := Lib.hid hrows; clear hinv hrows
    by_cases hlt : k < n
    · by_cases h60 : k < 60
      · obtain ⟨bk, off, m, hA, hblk, hm, m0, m1, m2, m3, m4, m5, mb⟩ := HR.out.at_ I.out.below (k := k) (by rw [HL.out]; omega)
        have HM := Lib.hid hm; have MB := Lib.hid mb; clear hm mb
        subst hA
        by_cases hck : chkP m = 0
        · have HCk := Lib.hid hck; clear hck
          have hbd := (chkP_zero HCk.out).1
          unfold badP at hbd
          have HBd : Hid (0 ≤ m.time ∧ m.time ≤ 4294967295) := Lib.hid (by omega)
          clear hbd
          go_wp2_with fail
          refine (Next_ok m bo sq tm g.length lt ll _ HCk.out I.out.out I.out.hi (MB.out.more (Nat.le_trans I.out.lo (Nat.le_of_lt I.out.hi))) (Apart_lo MB.out I.out.lo) ⟨by omega, by omega⟩ I.out.sqr I.out.tmr I.out.ltr).mono ?_
          rintro e w4 ⟨A', c', t', rfl, htr, hout, hrd, hnil, hnew, hg4⟩
          have hsr : 0 ≤ nextSeq g.length sq ∧ nextSeq g.length sq ≤ 65535 := by have := I.out.sqr; unfold nextSeq; split <;> omega
          have I4 := Lib.hid (I.out.next hg4 hout hsr htr HBd.out)
          have HCp : Hid (chkP (⟨nextSeq g.length sq, t', m.layer, m.level, m.start, A', m.n, c', m.body⟩ : Pk) = 0) := Lib.hid (chk_next HCk.out rfl hsr htr)
          have hbl : ∀ o1 o2, Below w4.heap.size w4 ((w4.alloc o1).alloc o2) := fun o1 o2 => ((Below.refl _ _).alloc (Nat.le_refl _) _).alloc (by simp) _
          have HPd : Hid (∀ o1 o2, Bd ((w4.alloc o1).alloc o2) ((w4.alloc o1).alloc o2).heap.size (⟨nextSeq g.length sq, t', m.layer, m.level, m.start, A', m.n, c', m.body⟩ : Pk)) := Lib.hid (fun o1 o2 => ⟨MB.out.1, MB.out.2.1, (hrd.below (hbl o1 o2)).more (hbl o1 o2).size, hnil⟩)
          have HPa : Hid (∀ b, b < wr.heap.size → Apart (⟨nextSeq g.length sq, t', m.layer, m.level, m.start, A', m.n, c', m.body⟩ : Pk) b) := Lib.hid (fun b hb hl b' o t e => by have := hnew b' o t e; omega)
          have I6 := Lib.hid (fun o1 o2 => I4.out.later (hbl o1 o2))
          have HO6 := Lib.hid (I6.out (pblk (⟨nextSeq g.length sq, t', m.layer, m.level, m.start, A', m.n, c', m.body⟩ : Pk)) (pblk (⟨nextSeq g.length sq, t', m.layer, m.level, m.start, A', m.n, c', m.body⟩ : Pk))).own2
          have HS6 : Hid (bo + 1 ≤ w4.heap.size) := Lib.hid I4.out.hi
          have HRs : Hid (Rows2 (s ++ [m]) (g ++ [(⟨nextSeq g.length sq, t', m.layer, m.level, m.start, A', m.n, c', m.body⟩ : Pk)]) (nextSeq g.length sq)) := Lib.hid (R2.out.add HCp.out rfl ⟨rfl, rfl, rfl, rfl, rfl, (chkP_zero HCk.out).2⟩)
          clear htr hout hrd hnil hnew hg4 hsr hbl
          go_upto_region 15 with (at_builtin; go_loud (refine wpList_append_own2 rfl _ _ 22 rfl (bo + 1) 29 i0 _ 6 64 Tryd.underlying22 hi hz0 hz1 hz2 rfl (by decide) _ _ _ rfl HO6.out ⟨w4.heap.size + 1, 0, none⟩ 1 1 (pcells [(⟨nextSeq g.length sq, t', m.layer, m.level, m.start, A', m.n, c', m.body⟩ : Pk)]) rfl rfl (news_p _ (⟨nextSeq g.length sq, t', m.layer, m.level, m.start, A', m.n, c', m.body⟩ : Pk) _ (by simp)) (one_pcells _) (by unfold maxLen; omega) (by omega) (by have := HS6.out; simp; omega) ?_); intro v7 w7 hown7 hgr7 hfr7)
          have I7 := Lib.hid ((I6.out (pblk (⟨nextSeq g.length sq, t', m.layer, m.level, m.start, A', m.n, c', m.body⟩ : Pk)) (pblk (⟨nextSeq g.length sq, t', m.layer, m.level, m.start, A', m.n, c', m.body⟩ : Pk))).got hown7 hgr7 hfr7 (HPd.out _ _) (HPa.out bo I.out.hi) (fun b hb => HPa.out b (by rcases hb with hb | hb; exact (own_lt I.out.own1 hb).2; exact (own_lt I.out.own2 hb).2)))
          obtain ⟨A7, c7, hv7⟩ := own_slice hown7
          clear hown7 hgr7 hfr7
          obtain ⟨bk2, off2, m2, hA2, hblk2, hm2, r0, r1, r2, r3, r4, r5, rb⟩ := HR.out.at_ I7.out.below (k := k) (by rw [HL.out]; omega)
          cases hA2
          rw [HM.out] at hm2
          cases hm2
          have I8 := Lib.hid (I7.out.later ((Below.refl w7.heap.size w7).alloc (Nat.le_refl _) (pblk m)))
          have HO8 := Lib.hid I8.out.own1
          have HS8 : Hid (bo + 1 ≤ w7.heap.size) := Lib.hid I7.out.hi
          have HV7 := Lib.hid hv7; have RB := Lib.hid rb
          clear hv7 rb
          go_wp2_with (at_builtin; go_loud (refine wpList_append_own2 rfl _ _ 22 rfl (bo + 1) 29 i0 _ 6 64 Tryd.underlying22 hi hz0 hz1 hz2 rfl (by decide) _ _ _ rfl HO8.out ⟨w7.heap.size, 0, none⟩ 1 1 (pcells [m]) rfl rfl (news_p _ m _ rfl) (one_pcells _) (by have := R2.out.len; unfold maxLen; omega) (by have := R2.out.len; omega) (le_alloc HS8.out) ?_); intro v9 w9 hown9 hgr9 hfr9)
          have I9 := I8.out.sent hown9 hgr9 hfr9 ((RB.out.below (((Below.refl w7.heap.size w7).alloc (Nat.le_refl _) (pblk m)).mono I7.out.below.size)).more (le_alloc I7.out.below.size)) (Apart_lo RB.out I7.out.lo) (fun b hb => Apart_lo RB.out (Nat.le_trans I7.out.lo (Nat.le_of_lt (by rcases hb with hb | hb; exact (own_lt I7.out.own1 hb).1; exact (own_lt I7.out.own2 hb).1))))
          obtain ⟨A9, c9, hv9⟩ := own_slice hown9
          subst hv9
          have hv7 := HV7.out
          subst hv7
          go_roundw
          case rel => exact ⟨k + 1, c9, c7, A9, A7, s ++ [m], g ++ [(⟨nextSeq g.length sq, t', m.layer, m.level, m.start, A', m.n, c', m.body⟩ : Pk)], nextSeq g.length sq, t', m.time, m.layer, by omega, by omega, by go_num, by simp, by simp, by simpa using I9, HRs.out, by simp; omega⟩
          case measure => simp [intOf]; omega
        · go_wp2_with fail
          refine (Next_bad m bo _ (chkP m) rfl hck).mono ?_
          rintro e w4 ⟨rfl, hb4⟩
          have I4 := Lib.hid ((I.out.later hb4).later ((Below.refl w4.heap.size w4).alloc (Nat.le_refl _) (.cells #[.int .i64 0, .int .i64 0, .int .i64 0, .int .i64 0, .bool false, .slice none 0 0] 29)))
          clear hb4
          go_wp2
          go_roundw
          case rel => exact ⟨k + 1, c1, c2, A1, A2, s, g, sq, tm, lt, ll, by omega, by omega, by go_num, rfl, rfl, I4.out, R2.out, by omega⟩
          case measure => simp [intOf]; omega
      · have h60' : decide ((k : Int) < 60) = false := by simp; omega
        have hle : g.length ≤ 1000 := by omega
        have hle2 : s.length ≤ 1000 := by have := R2.out.len; omega
        have HRg : Hid (RdP wr wr.heap.size A2 g) := Lib.hid (RdP.of_own I.out.own2 (fun p hp => (I.out.b2 p hp).1))
        have HRs : Hid (RdP wr wr.heap.size A1 s) := Lib.hid (RdP.of_own I.out.own1 (fun p hp => (I.out.b1 p hp).1))
        go_wp2_with fail
        refine (Row_ok A2 g.length c2 g _ rfl HRg.out hle R2.out.chk R2.out.row).mono ?_
        rintro e w4 ⟨rfl, hb4⟩
        have I4 := Lib.hid (I.out.later hb4)
        clear hb4
        have HRg4 : Hid (RdP w4 w4.heap.size A2 g) := Lib.hid (RdP.of_own I4.out.own2 (fun p hp => (I4.out.b2 p hp).1))
        have HRs4 : Hid (RdP w4 w4.heap.size A1 s) := Lib.hid (RdP.of_own I4.out.own1 (fun p hp => (I4.out.b1 p hp).1))
        have hcap : s.length ≤ c1 := by
          rcases I4.out.own1.2 with ⟨h, h'⟩ | ⟨g', cap, cur, h, _, _, hc, _⟩
          · omega
          · cases h; exact hc
        go_wp2_with fail
        rw [← R2.out.len]
        refine (Check_a A1 A2 s.length c1 c2 s g _ rfl R2.out.len.symm HRs4.out HRg4.out hle2 hcap R2.out.alike).mono ?_
        rintro e w5 ⟨rfl, hb5⟩
        have I5 := Lib.hid (I4.out.later hb5)
        clear hb5
        have HRg5 : Hid (RdP w5 w5.heap.size A2 g) := Lib.hid (RdP.of_own I5.out.own2 (fun p hp => (I5.out.b2 p hp).1))
        have HRs5 : Hid (RdP w5 w5.heap.size A1 s) := Lib.hid (RdP.of_own I5.out.own1 (fun p hp => (I5.out.b1 p hp).1))
        go_wp2_with fail
        refine (Holes_a A1 A2 s.length c1 c2 s g _ rfl R2.out.len.symm HRs5.out HRg5.out hle2 hcap R2.out.alike).mono ?_
        rintro e w6 ⟨A6, n6, c6, rfl, hown6, hn6, hb6⟩
        have B6 := Lib.hid (I5.out.below.trans (hb6.mono I5.out.below.size)); clear hb6
        have HO6 := Lib.hid hown6; clear hown6
        go_wp2_with fail
        go_loopw [22] (fun i wz => ∃ j : Nat, j ≤ n6 ∧ i = .int .i64 j ∧ wz = w6) (fun i _ => n6 - (intOf i).toNat)
        case atStart => exact ⟨0, by omega, rfl, by trivial⟩
        case round =>
          obtain ⟨j, hj, rfl, rfl⟩ := hrel
          by_cases hjl : j < n6
          · obtain ⟨g6, rfl, hg6, hc6⟩ := RdI_own HO6.out (by simp [zeros]; omega)
            have x0 := hc6 j 0 (by simp [zeros, hjl])
            rw [Nat.zero_add] at x0
            clear hc6
            go_wp2
            go_roundw
            case rel => exact ⟨j + 1, by omega, by go_num, by trivial⟩
            case measure => simp [intOf]; omega
          · go_wp2
            go_ret
            exact ⟨rfl, B6.out⟩
    · have hlt' : decide ((k : Int) < (n : Int)) = false := by simp; omega
      have hle : g.length ≤ 1000 := by omega
      have hle2 : s.length ≤ 1000 := by have := R2.out.len; omega
      have HRg : Hid (RdP wr wr.heap.size A2 g) := Lib.hid (RdP.of_own I.out.own2 (fun p hp => (I.out.b2 p hp).1))
      have HRs : Hid (RdP wr wr.heap.size A1 s) := Lib.hid (RdP.of_own I.out.own1 (fun p hp => (I.out.b1 p hp).1))
      go_wp2_with fail
      refine (Row_ok A2 g.length c2 g _ rfl HRg.out hle R2.out.chk R2.out.row).mono ?_
      rintro e w4 ⟨rfl, hb4⟩
      have I4 := Lib.hid (I.out.later hb4)
      clear hb4
      have HRg4 : Hid (RdP w4 w4.heap.size A2 g) := Lib.hid (RdP.of_own I4.out.own2 (fun p hp => (I4.out.b2 p hp).1))
      have HRs4 : Hid (RdP w4 w4.heap.size A1 s) := Lib.hid (RdP.of_own I4.out.own1 (fun p hp => (I4.out.b1 p hp).1))
      have hcap : s.length ≤ c1 := by
        rcases I4.out.own1.2 with ⟨h, h'⟩ | ⟨g', cap, cur, h, _, _, hc, _⟩
        · omega
        · cases h; exact hc
      go_wp2_with fail
      rw [← R2.out.len]
      refine (Check_a A1 A2 s.length c1 c2 s g _ rfl R2.out.len.symm HRs4.out HRg4.out hle2 hcap R2.out.alike).mono ?_
      rintro e w5 ⟨rfl, hb5⟩
      have I5 := Lib.hid (I4.out.later hb5)
      clear hb5
      have HRg5 : Hid (RdP w5 w5.heap.size A2 g) := Lib.hid (RdP.of_own I5.out.own2 (fun p hp => (I5.out.b2 p hp).1))
      have HRs5 : Hid (RdP w5 w5.heap.size A1 s) := Lib.hid (RdP.of_own I5.out.own1 (fun p hp => (I5.out.b1 p hp).1))
      go_wp2_with fail
      refine (Holes_a A1 A2 s.length c1 c2 s g _ rfl R2.out.len.symm HRs5.out HRg5.out hle2 hcap R2.out.alike).mono ?_
      rintro e w6 ⟨A6, n6, c6, rfl, hown6, hn6, hb6⟩
      have B6 := Lib.hid (I5.out.below.trans (hb6.mono I5.out.below.size)); clear hb6
      have HO6 := Lib.hid hown6; clear hown6
      go_wp2_with fail
      go_loopw [22] (fun i wz => ∃ j : Nat, j ≤ n6 ∧ i = .int .i64 j ∧ wz = w6) (fun i _ => n6 - (intOf i).toNat)
      case atStart => exact ⟨0, by omega, rfl, by trivial⟩
      case round =>
        obtain ⟨j, hj, rfl, rfl⟩ := hrel
        by_cases hjl : j < n6
        · obtain ⟨g6, rfl, hg6, hc6⟩ := RdI_own HO6.out (by simp [zeros]; omega)
          have x0 := hc6 j 0 (by simp [zeros, hjl])
          rw [Nat.zero_add] at x0
          clear hc6
          go_wp2
          go_roundw
          case rel => exact ⟨j + 1, by omega, by go_num, by trivial⟩
          case measure => simp [intOf]; omega
        · go_wp2
          go_ret
          exact ⟨rfl, B6.out⟩
end Go.Proofs.YtnndbnecgaelkaaDoor
