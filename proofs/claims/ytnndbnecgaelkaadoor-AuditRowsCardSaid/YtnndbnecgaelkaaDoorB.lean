/- slices.Equal, Clone at bytes; alike; the first hit of IndexFunc. -/
import Derived.Test.YtnndbnecgaelkaaDoorA
import Derived.WalkKit
import Derived.WalkSpells
import Derived.WalkLawsBesides
import Derived.Lib.Hide
import Derived.Lib.SliceRun
import Derived.BigQuiet
import Derived.Deep.QuietTactic
import Derived.Deep.RegionHeld3
import Derived.Deep.Draws
import Derived.Laws.AppendOwn
import Derived.Maps.AppendAt
import Derived.StillTailTactics
import Derived.OwnWalk
import Derived.Outline
namespace Go.Proofs.YtnndbnecgaelkaaDoor
set_option maxRecDepth 100000
open Go.RowKit

theorem grown_of_below {a b : World} {row : Option Nat} (h : Below a.heap.size a b) : a.grownBy b row := ⟨h.os, h.tape, h.output, h.size, fun k hk _ => h.block k hk⟩
theorem own_below {w w' : World} {base : Nat} {e : TypeId} {size : Nat} {v : Value} {n : Nat} {xs : List Value} (h : w.ownsRow base e size v n xs) (hb : Below w.heap.size w w') : w'.ownsRow base e size v n xs :=
  h.kept (row := none) (grown_of_below hb) (by cases hv : v.ownBlock <;> simp)
theorem own_slice {w : World} {base e size n : Nat} {v : Value} {xs : List Value} (h : w.ownsRow base e size v n xs) : ∃ A c, v = .slice A n c := by
  rcases h.2 with ⟨rfl, rfl⟩ | ⟨g, cap, cur, rfl, _⟩
  · exact ⟨none, 0, rfl⟩
  · exact ⟨_, cap, rfl⟩
theorem infoP : (Tryd.prog.info? 29).map (fun i => (i.zero, i.size, i.bytes)) = some (some (.agg #[.int .i64 0, .int .i64 0, .int .i64 0, .int .i64 0, .bool false, .slice none 0 0]), 6, 64) := by kernel_rfl
theorem info5 : (Tryd.prog.info? 5).map (fun i => (i.zero, i.size, i.bytes)) = some (some (.int .u8 0), 1, 1) := by kernel_rfl
theorem info3 : (Tryd.prog.info? 3).map (fun i => (i.zero, i.size, i.bytes)) = some (some (.int .i64 0), 1, 8) := by kernel_rfl

theorem Equal_yes (A B : Option Addr) (n c c' : Nat) (l : List Int) (w : World) (hl : l.length = n) (hr : RdB w w.heap.size A l) (hr' : RdB w w.heap.size B l) (hn : n ≤ 1000) :
    Calls Tryd.prog 43 #[.slice A n c, .slice B n c'] w fun e w' => e = .returned (.bool true) ∧ Below w.heap.size w w' := by
  have HL := Lib.hid hl; have HR := Lib.hid hr; have HR' := Lib.hid hr'
  clear hl hr hr'
  go_enter Tryd.func43, Tryd.ntmps43
  go_wp2
  go_loopw [13] (fun i wr => ∃ k : Nat, k ≤ n ∧ i = .int .i64 k ∧ Below w.heap.size w wr) (fun i _ => n - (intOf i).toNat)
  case atStart => exact ⟨0, by omega, rfl, Below.refl _ _⟩
  case round =>
    obtain ⟨k, hk, rfl, hb⟩ := hrel
    by_cases hlt : k < n
    · obtain ⟨b, off, m, hA, hblk, hm, e1⟩ := HR.out.at_ hb (k := k) (by rw [HL.out]; omega)
      obtain ⟨b', off', m', hA', hblk', hm', f1⟩ := HR'.out.at_ hb (k := k) (by rw [HL.out]; omega)
      rw [hm] at hm'
      cases hm'
      subst hA; subst hA'
      clear hm
      go_wp2_with fail
      go_quiet (fail)
      go_wp2
      go_roundw
      case rel => exact ⟨k + 1, by omega, by go_num, below_drewN hb _⟩
      case measure => simp [intOf]; omega
    · go_wp2
      go_ret
      exact ⟨rfl, hb⟩

theorem RdB.cells {w : World} {b off : Nat} {l : List Int} (h : RdB w w.heap.size (some ⟨b, off, none⟩) l) : ∀ j u, (l.map (Value.int .u8))[j]? = some u → w.cell? ((⟨b, off, none⟩ : Addr).add j) = some u ∧ b < w.heap.size := by
  intro j u hu
  rw [List.getElem?_map] at hu
  obtain ⟨m, hm, rfl⟩ := Option.map_eq_some_iff.1 hu
  have hj := (List.getElem?_eq_some_iff.1 hm).1
  obtain ⟨b', off', hA, hb, hc⟩ := h (by omega)
  cases hA
  have e : (⟨b, off, none⟩ : Addr).add j = ⟨b, off + j, none⟩ := by unfold Addr.add; split <;> simp_all
  rw [e]
  exact ⟨hc j m hm, hb⟩
theorem RdB.of_own {w : World} {base n c : Nat} {A : Option Addr} {l : List Int} (h : w.ownsRow base 5 1 (.slice A n c) n (l.map (Value.int .u8))) : RdB w w.heap.size A l := by
  intro hl
  have hlen := h.1
  rw [List.length_map] at hlen
  rcases h.2 with ⟨_, h0⟩ | ⟨g, cap, cur, hv, _, hg, _, _, hcs, htake⟩
  · omega
  · cases hv
    refine ⟨g, 0, rfl, (Array.getElem?_eq_some_iff.1 hg).1, fun k m hm => ?_⟩
    have hk := (List.getElem?_eq_some_iff.1 hm).1
    have hu : (l.map (Value.int .u8))[k]? = some (.int .u8 m) := by simp [hm]
    rw [← htake, List.getElem?_take, if_pos (by omega)] at hu
    simp only [World.cell?, hg]
    simpa using hu
/-- a clone of a body -/
theorem Clone_any (A : Option Addr) (n c : Nat) (l : List Int) (w : World) (hl : l.length = n) (hr : RdB w w.heap.size A l) (hA : A = none → n = 0 ∧ c = 0) (hn : n ≤ 1000) :
    Calls Tryd.prog 22 #[.slice A n c] w fun e w' => ∃ A' c', e = .returned (.slice A' n c') ∧ RdB w' w'.heap.size A' l ∧ (A' = none → n = 0 ∧ c' = 0) ∧ (∀ b o s, A' = some ⟨b, o, s⟩ → w.heap.size ≤ b) ∧ Below w.heap.size w w' := by
  obtain ⟨i0, hi, hz0, hz1, hz2⟩ := info_parts info5
  have HL := Lib.hid hl; have HR := Lib.hid hr; clear hr
  rcases A with _ | a
  · obtain ⟨rfl, rfl⟩ := hA rfl
    obtain rfl : l = [] := List.eq_nil_of_length_eq_zero hl
    clear hl
    have hq := fun w => Lib.run_eql_slice_nil (P := Tryd.prog) w 27 5 none 0 0 0 0 Tryd.underlying27
    go_enter Tryd.func22, Tryd.ntmps22
    go_wp2
    go_ret
    exact ⟨none, 0, rfl, RdB.nil, by simp, by simp, Below.refl _ _⟩
  · clear hA hl
    have hq := fun w => Lib.run_eql_slice_nil (P := Tryd.prog) w 27 5 (some a) n c 0 0 Tryd.underlying27
    have hown : (w.alloc (.cells #[] 5)).ownsRow w.heap.size 5 1 (.slice (some ⟨w.heap.size, 0, none⟩) 0 0) 0 [] := World.ownsRow_made w #[] 0 (Nat.le_refl _) (by simp [maxLen]) (by simp)
    have hnews : ∀ j u, (l.map (Value.int .u8))[j]? = some u → (w.alloc (.cells #[] 5)).cell? (a.add j) = some u := by
      intro j u hu
      have hj : j < l.length := by have := (List.getElem?_eq_some_iff.1 hu).1; rwa [List.length_map] at this
      obtain ⟨b, off, hA, hb, _⟩ := HR.out (by omega)
      cases hA
      obtain ⟨h0, _⟩ := RdB.cells HR.out j u hu
      have e : (⟨b, off, none⟩ : Addr).add j = ⟨b, off + j, none⟩ := by unfold Addr.add; split <;> simp_all
      rw [e] at h0 ⊢
      rw [World.cell?_alloc_lt _ _ _ hb]; exact h0
    have HN := Lib.hid hnews; have HO := Lib.hid hown; clear hnews hown
    go_enter Tryd.func22, Tryd.ntmps22
    go_wp2_with (at_builtin; refine wpList_append_own _ rfl _ _ 27 rfl w.heap.size 5 i0 _ 1 1 Tryd.underlying27 hi hz0 hz1 hz2 rfl (by decide) _ _ _ rfl HO.out a n c (l.map (Value.int .u8)) rfl (by rw [List.length_map, HL.out, Nat.mul_one]) HN.out (by intro u hu; obtain ⟨m, _, rfl⟩ := List.mem_map.1 hu; rfl) (by unfold maxLen; omega) (by omega) (by simp) ?_; intro v' w1 hown' hgrow _)
    go_ret
    obtain ⟨A', c', rfl⟩ := own_slice hown'
    have hO : w1.ownsRow w.heap.size 5 1 (.slice A' (0 + n) c') (0 + n) (l.map (Value.int .u8)) := by simpa using hown'
    rw [Nat.zero_add] at hO ⊢
    refine ⟨A', c', rfl, RdB.of_own hO, fun e => ?_, fun b o s e => ?_, ((Below.refl _ _).alloc (Nat.le_refl _) _).grown hgrow (by simp) (fun k hk => by cases hk; exact Nat.le_refl _)⟩
    · subst e
      rcases hO.2 with ⟨h1, h2⟩ | ⟨g, cap, cur, hv, _⟩
      · cases h1; exact ⟨rfl, rfl⟩
      · cases hv
    · subst e
      rcases hO.2 with ⟨h1, h2⟩ | ⟨g, cap, cur, hv, hg, _⟩
      · cases h1
      · cases hv; exact hg
end Go.Proofs.YtnndbnecgaelkaaDoor
