/- audit.Check, Holes, Row; masks. -/
import Derived.Test.YtnndbnecgaelkaaDoorD
import Derived.Laws.Bits128
import Derived.Deep.RegionLaw
import Derived.BigRegion
namespace Go.Proofs.YtnndbnecgaelkaaDoor
set_option maxRecDepth 100000
open Go.RowKit

/-- append TO A ROW OF ONE's OWN, as one step of a region that draws -/
theorem step_append_own {P : Program} {ops : Array Oper} {o : Oper} {a : Act} {w : World} {K : Act → World → Prop} {Q : Exit → Act → World → Prop} {E : Prop}
    (hg : o.guard = none) (s x : Operand) (t : TypeId) (hop : o.op = Op.call { callee := Callee.builtin Builtin.append, args := #[s, x], argTypes := #[t, t] })
    (base : Nat) (e : TypeId) (i : TypeInfo) (z : Value) (size bytes : Nat) (h1 : P.underlying t = some (.slice e)) (h2 : P.info? e = some i) (h3 : i.zero = some z) (h4 : i.size = size) (h5 : i.bytes = bytes) (h6 : z.cells.size = size) (h7 : 0 < size)
    (v : Value) (n : Nat) (olds : List Value) (hs : a.eval s = v) (hown : w.ownsRow base e size v n olds)
    (ad : Addr) (m c : Nat) (news : List Value) (hx : a.eval x = .slice (some ad) m c) (hn : news.length = m * size) (hc : ∀ j u, news[j]? = some u → w.cell? (ad.add j) = some u) (h1c : ∀ u ∈ news, u.oneCell' = true)
    (b1 : n + m ≤ maxLen) (b2 : (n + m) * bytes ≤ 140737488355328) (b3 : base ≤ w.heap.size)
    (hK : ∀ v' w', w'.ownsRow base e size v' (n + m) (olds ++ news) → w.grownBy w' v.ownBlock → K (a.put o.dst v') w') :
    if Region.wanted o (yielded ops a.tmps) = true then Oper.wp P o a w K Q else E := by
  have hw : Region.wanted o (yielded ops a.tmps) = true := by simp [Region.wanted, hg]
  rw [if_pos hw]
  obtain ⟨v', w', hrun, r1, r2, _⟩ := run_append_own (P := P) (w := w) base t o.type e i z size bytes h1 h2 h3 h4 h5 h6 h7 v n olds hown ad m c news hn hc h1c b1 b2 b3
  unfold Oper.wp
  simp [execOp, hop, resolve, invoke, builtin, hs, hx, hrun, Result.andThen]
  exact hK v' w' r1 r2

theorem Check_a (A B : Option Addr) (m cs cg : Nat) (s g : List Pk) (w : World) (hs : s.length = m) (hg : g.length = m) (hr : RdP w w.heap.size A s) (hr' : RdP w w.heap.size B g) (hm : m ≤ 1000) (hcs : m ≤ cs)
    (hal : ∀ (k : Nat) p q, s[k]? = some p → g[k]? = some q → alikeP p q) :
    Calls Tryd.prog 9 #[.slice A m cs, .slice B m cg] w fun e w' => e = .returned (.tuple #[.int .i64 0, .nilIface]) ∧ Below w.heap.size w w' := by
  have HP := Lib.hid (places_ok A B m cs cg s g w hs hg hr hr' hm hcs hal)
  clear hs hg hr hr' hal
  go_enter Tryd.func9, Tryd.ntmps9
  go_wp2_with fail
  refine HP.out.mono ?_
  rintro e w1 ⟨A', c', rfl, hown, hb1⟩
  clear hown
  go_wp2
  go_ret2
  exact ⟨rfl, hb1⟩

theorem RdI_own {w : World} {base n c : Nat} {A : Option Addr} {l : List Int} (h : w.ownsRow base 3 1 (.slice A n c) n (icells l)) (hl : 0 < l.length) : ∃ g, A = some ⟨g, 0, none⟩ ∧ g < w.heap.size ∧ ∀ (k : Nat) (x : Int), l[k]? = some x → w.cell? ⟨g, 0 + k, none⟩ = some (.int .i64 x) := by
  have hlen := h.1
  rw [icells, List.length_map] at hlen
  rcases h.2 with ⟨_, h0⟩ | ⟨g, cap, cur, hv, _, hg, _, _, hcs, htake⟩
  · omega
  · cases hv
    refine ⟨g, rfl, (Array.getElem?_eq_some_iff.1 hg).1, fun k m hm => ?_⟩
    have hk := (List.getElem?_eq_some_iff.1 hm).1
    have hu : (icells l)[k]? = some (.int .i64 m) := by simp [icells, hm]
    rw [← htake, List.getElem?_take, if_pos (by omega)] at hu
    simp only [World.cell?, hg]
    simpa using hu
theorem own_more {w : World} {base base' e size n : Nat} {v : Value} {xs : List Value} (h : w.ownsRow base e size v n xs) (hb : base' ≤ base) : w.ownsRow base' e size v n xs := by
  refine ⟨h.1, ?_⟩
  rcases h.2 with h | ⟨g, cap, cur, h1, h2, h3⟩
  · exact .inl h
  · exact .inr ⟨g, cap, cur, h1, Nat.le_trans hb h2, h3⟩
def zeros (k : Nat) : List Int := List.replicate k 0
theorem upto_get {m k : Nat} (h : k < m) : (upto m)[k]? = some (k : Int) := by simp [upto, List.getElem?_map, List.getElem?_range h]

set_option maxHeartbeats 2000000 in
theorem Holes_a (A B : Option Addr) (m cs cg : Nat) (s g : List Pk) (w : World) (hs : s.length = m) (hg : g.length = m) (hr : RdP w w.heap.size A s) (hr' : RdP w w.heap.size B g) (hm : m ≤ 1000) (hcs : m ≤ cs)
    (hal : ∀ (k : Nat) p q, s[k]? = some p → g[k]? = some q → alikeP p q) :
    Calls Tryd.prog 10 #[.slice A m cs, .slice B m cg] w fun e w' => ∃ A' n' c', e = .returned (.tuple #[.slice A' n' c', .nilIface]) ∧ w'.ownsRow w.heap.size 3 1 (.slice A' n' c') n' (icells (zeros n')) ∧ n' ≤ 1000 ∧ Below w.heap.size w w' := by
  obtain ⟨i0, hi, hz0, hz1, hz2⟩ := info_parts info3
  have HP := Lib.hid (places_ok A B m cs cg s g w hs hg hr hr' hm hcs hal)
  clear hs hg hr hr' hal
  go_enter Tryd.func10, Tryd.ntmps10
  go_wp2_with fail
  refine HP.out.mono ?_
  rintro e w1 ⟨A1, c1, rfl, hown1, hb1⟩
  have HO1 := Lib.hid hown1; have HB1 := Lib.hid hb1; clear hown1 hb1
  go_wp2_with fail
  go_loopw [9, 10] (fun o i wr => ∃ (k cc : Nat) (A' : Option Addr), k ≤ m ∧ i = .int .i64 (k + 1) ∧ o = .slice A' k cc ∧ wr.ownsRow w1.heap.size 3 1 (.slice A' k cc) k (icells (zeros k)) ∧ Below w1.heap.size w1 wr) (fun _ i _ => m - (intOf i).toNat)
  case atStart => exact ⟨0, 0, none, by omega, rfl, rfl, World.ownsRow_nil _ _ _ _, Below.refl _ _⟩
  case round =>
    obtain ⟨k, cc, A', hk, rfl, rfl, hown, hb⟩ := hrel
    have hlt' := hown.lt
    have HOw := Lib.hid hown; have HLt := Lib.hid hlt'; clear hown hlt'
    by_cases hlt : k + 1 < m
    · obtain ⟨g1, rfl, hg1, hc1⟩ := RdI_own HO1.out (by rw [upto_length]; omega)
      have x0 : wr.cell? ⟨g1, k, none⟩ = some (.int .i64 (k : Int)) := (hb.cell (p := ⟨g1, k, none⟩) hg1).trans (by rw [← hc1 k _ (upto_get (by omega)), Nat.zero_add])
      have x1 : wr.cell? ⟨g1, k + 1, none⟩ = some (.int .i64 ((k : Int) + 1)) := (hb.cell (p := ⟨g1, k + 1, none⟩) hg1).trans (by have := hc1 (k + 1) _ (upto_get hlt); rw [Nat.zero_add] at this; rw [this]; simp)
      have HB := Lib.hid hb
      have HSz : Hid (w1.heap.size ≤ wr.heap.size) := Lib.hid hb.size
      clear hc1 hb
      have hlt2 : (k : Int) + 1 < (m : Int) := by omega
      go_wp2_with fail
      have q1 : IntKind.i64.wrap (k : Int) = (k : Int) := IntWalk.i64_in _ (by omega)
      have q2 : ((k : Int) + 1).toNat = k + 1 := by omega
      have q3 : (0 : Int) ≤ (k : Int) + 1 := by omega
      have q4 : (k : Int) < (m : Int) := by omega
      have q5 : IntKind.i64.wrap ((k : Int) + 1 - (k : Int)) = 1 := (IntWalk.i64_in _ (by omega)).trans (by omega)
      have HO5 : Hid (((wr.alloc (.cells #[.int .i64 0] 3)).drew).ownsRow w1.heap.size 3 1 (.slice A' k cc) k (icells (zeros k))) := Lib.hid (own_below HOw.out (below_drewN ((Below.refl wr.heap.size wr).alloc (Nat.le_refl _) (.cells #[.int .i64 0] 3)) 1))
      have HC5 : Hid (∀ j u, [Value.int .i64 0][j]? = some u → ((wr.alloc (.cells #[.int .i64 0] 3)).drew).cell? ((⟨wr.heap.size, 0, none⟩ : Addr).add j) = some u) := Lib.hid (one_new _ _ _ _ rfl)
      go_region_law (refine step_append_own rfl (.tmp 27) (.tmp 39) 37 rfl w1.heap.size 3 i0 _ 1 8 Tryd.underlying37 hi hz0 hz1 hz2 rfl (by decide) (.slice A' k cc) k (icells (zeros k)) (by simp [Act.eval, Act.put]) HO5.out ⟨wr.heap.size, 0, none⟩ 1 1 [.int .i64 0] (by simp [Act.eval, Act.put]) rfl HC5.out (by simp [Value.oneCell']) (by unfold maxLen; omega) (by omega) (le_alloc HSz.out) ?_; intro v' w6 hown6 hgr6)
      all_goals (
        obtain ⟨A6, c6, hv6⟩ := own_slice hown6
        have e7 : icells (zeros k) ++ [.int .i64 0] = icells (zeros (k + 1)) := by simp [icells, zeros, List.replicate_succ']
        rw [e7] at hown6
        have H6 := Lib.hid hown6; have HG6 := Lib.hid hgr6; have HV6 := Lib.hid hv6
        clear hown6 hgr6 hv6 e7 q1 q2 q3 q4 q5 x0 x1
        rw [HV6.out]
        go_wp2
        go_roundw
        case rel => exact ⟨k + 1, c6, A6, by omega, by go_num, rfl, by rw [← HV6.out]; exact H6.out, (below_drewN (HB.out.alloc HB.out.size _) 1).grown HG6.out (le_alloc HB.out.size) (fun j hj => (HLt.out j hj).1)⟩
        case measure => simp [intOf]; omega)
    · have hlt2 : decide ((k : Int) + 1 < (m : Int)) = false := by simp; omega
      go_wp2
      go_ret2
      exact ⟨A', k, cc, rfl, own_more HOw.out HB1.out.size, by omega, HB1.out.trans (hb.mono HB1.out.size)⟩

theorem i64_and65535 (n : Int) : bits .and .i64 n 65535 = n % 65536 := by
  have h127 : (BitVec.ofInt 64 65535).toNat = 2 ^ 16 - 1 := by decide
  have key : (BitVec.ofInt 64 n &&& BitVec.ofInt 64 65535).toNat = (n % ((2 ^ 64 : Nat) : Int)).toNat % 2 ^ 16 := by
    rw [BitVec.toNat_and, BitVec.toNat_ofInt, h127, Nat.and_two_pow_sub_one_eq_mod]
  show IntKind.i64.wrap ((BitVec.ofInt 64 n &&& BitVec.ofInt 64 65535).toNat : Nat) = n % 65536
  rw [key, IntKind.wrap_i64]
  omega
theorem i64_and4294967295 (n : Int) : bits .and .i64 n 4294967295 = n % 4294967296 := by
  have h127 : (BitVec.ofInt 64 4294967295).toNat = 2 ^ 32 - 1 := by decide
  have key : (BitVec.ofInt 64 n &&& BitVec.ofInt 64 4294967295).toNat = (n % ((2 ^ 64 : Nat) : Int)).toNat % 2 ^ 32 := by
    rw [BitVec.toNat_and, BitVec.toNat_ofInt, h127, Nat.and_two_pow_sub_one_eq_mod]
  show IntKind.i64.wrap ((BitVec.ofInt 64 n &&& BitVec.ofInt 64 4294967295).toNat : Nat) = n % 4294967296
  rw [key, IntKind.wrap_i64]
  omega
end Go.Proofs.YtnndbnecgaelkaaDoor
