/- Alive, Bump. -/
import Derived.Test.YtachfnmbhhppbaaDoorJ
namespace Go.Proofs.YtachfnmbhhppbaaDoor
set_option maxRecDepth 100000
open Go.RowKit

theorem info3 : (Tryd.prog.info? 3).map (fun i => (i.zero, i.size, i.bytes)) = some (some (.int .i64 0), 1, 8) := by kernel_rfl
def aliveL (l : List Mem) : List Int := (l.filter (·.up)).map (·.node)
def icells (l : List Int) : List Value := l.map (Value.int .i64)
theorem aliveL_snoc (b : List Mem) (k : Nat) (m : Mem) (h : b[k]? = some m) : aliveL (b.take (k + 1)) = aliveL (b.take k) ++ (if m.up = true then [m.node] else []) := by
  obtain ⟨h1, h2⟩ := List.getElem?_eq_some_iff.1 h
  rw [List.take_succ_eq_append_getElem h1, h2, aliveL, aliveL, List.filter_append, List.map_append]
  congr 1
  by_cases hp : m.up = true <;> simp [hp]
theorem length_aliveL (l : List Mem) : (aliveL l).length ≤ l.length := by rw [aliveL, List.length_map]; exact List.length_filter_le _ _

theorem one_new (w : World) (u : Value) (t : TypeId) (b : Nat) (hb : b = w.heap.size) : ∀ j v, [u][j]? = some v → (w.alloc (.cells #[u] t)).cell? ((⟨b, 0, none⟩ : Addr).add j) = some v := by
  intro j v hj
  rcases j with _ | j
  · simp at hj; subst hj; subst hb; simp [Addr.add]
  · simp at hj

theorem Alive_bad (A : Option Addr) (n c : Nat) (a : List Mem) (w : World) (hl : a.length = n) (hr : Rd w w.heap.size A a) (hn : n ≤ 9223372036854775807) (h : viewErr a ≠ 0) :
    Calls Tryd.prog 12 #[.slice A n c] w fun e w' => e = .returned (.tuple #[.slice none 0 0, .iface 42 (.int .i64 (viewErr a))]) ∧ Below w.heap.size w w' := by
  have HL := Lib.hid hl; have HR := Lib.hid hr; have H := Lib.hid h
  clear hl hr h
  go_enter Tryd.func12, Tryd.ntmps12
  go_wp2_with fail
  refine (Check_bad A n c a _ HL.out HR.out hn H.out).mono ?_
  rintro e w1 ⟨rfl, hb1⟩
  go_wp2
  go_ret2
  exact ⟨rfl, hb1⟩
theorem Alive_ok (A : Option Addr) (n c : Nat) (a : List Mem) (w : World) (hl : a.length = n) (hr : Rd w w.heap.size A a) (ha : Valid a) :
    Calls Tryd.prog 12 #[.slice A n c] w fun e w' => ∃ v, e = .returned (.tuple #[v, .nilIface]) ∧ w'.ownsRow w.heap.size 3 1 v (aliveL a).length (icells (aliveL a)) ∧ Below w.heap.size w w' := by
  obtain ⟨i0, hi, hz0, hz1, hz2⟩ := info_parts info3
  have hn : n ≤ 16 := by have := valid_length ha; omega
  have HL := Lib.hid hl; have HR := Lib.hid hr; have HVa := Lib.hid ha
  clear hl hr ha
  go_enter Tryd.func12, Tryd.ntmps12
  go_wp2_with fail
  refine (Check_ok A n c a _ HL.out HR.out (by omega) ((viewErr_zero a).2 HVa.out)).mono ?_
  rintro e w1 ⟨rfl, hb1⟩
  have HB1 := Lib.hid hb1; clear hb1
  go_wp2_with fail
  go_loopw [5, 15] (fun o i wr => ∃ (k cc : Nat) (A' : Option Addr), k ≤ n ∧ i = .int .i64 k ∧ o = .slice A' (aliveL (a.take k)).length cc ∧ wr.ownsRow w.heap.size 3 1 (.slice A' (aliveL (a.take k)).length cc) (aliveL (a.take k)).length (icells (aliveL (a.take k))) ∧ Below w.heap.size w wr) (fun _ i _ => n - (intOf i).toNat)
  case atStart => exact ⟨0, 0, none, by omega, rfl, rfl, World.ownsRow_nil _ _ _ _, HB1.out⟩
  case round =>
    obtain ⟨k, cc, A', hk, rfl, rfl, hown, hb⟩ := hrel
    have hlt' := hown.lt
    have HOw := Lib.hid hown; have HLt := Lib.hid hlt'; clear hown hlt'
    by_cases hlt : k < n
    · obtain ⟨bk, off, m, hB, hblk, hm, e1, e2, e3⟩ := HR.out.at_ hb (k := k) (by rw [HL.out]; omega)
      subst hB
      have hsn := aliveL_snoc a k m hm
      clear hm
      have hle := length_aliveL (a.take k)
      rw [List.length_take] at hle
      have HLe : Hid ((aliveL (a.take k)).length ≤ 32) := Lib.hid (by omega)
      clear hle
      have HB := Lib.hid hb; clear hb
      have HSz : Hid (w.heap.size ≤ wr.heap.size) := Lib.hid HB.out.size
      have HSn := Lib.hid hsn; clear hsn
      have HOb := Lib.hid (fun o o' => own_below HOw.out (((Below.refl wr.heap.size wr).alloc (Nat.le_refl _) o).alloc (by simp) o'))
      have HOa := Lib.hid (fun o => own_below HOw.out ((Below.refl wr.heap.size wr).alloc (Nat.le_refl _) o))
      cases hu : m.up with
      | true =>
        have HU := Lib.hid hu
        rw [hu] at e3
        clear hu
        have HO5 := Lib.hid (HOb.out (.cells #[.int .i64 m.node, .int .i64 m.ver, .bool true] 30) (.cells #[.int .i64 m.node] 3))
        have HC5 : Hid (∀ j u, [Value.int .i64 m.node][j]? = some u → ((wr.alloc (.cells #[.int .i64 m.node, .int .i64 m.ver, .bool true] 30)).alloc (.cells #[.int .i64 m.node] 3)).cell? ((⟨wr.heap.size + 1, 0, none⟩ : Addr).add j) = some u) := Lib.hid (one_new _ _ _ _ (by simp))
        go_wp2_with (at_builtin; refine wpList_append_own _ rfl _ _ 36 rfl w.heap.size 3 i0 _ 1 8 Tryd.underlying36 hi hz0 hz1 hz2 rfl (by decide) _ _ _ rfl HO5.out ⟨wr.heap.size + 1, 0, none⟩ 1 1 [.int .i64 m.node] rfl rfl HC5.out (by simp [Value.oneCell']) (by have := HLe.out; unfold maxLen; omega) (by have := HLe.out; omega) (by have := HSz.out; simp; omega) ?_; intro v' w5 hown5 hgr5 _)
        obtain ⟨A5, c5, hv5⟩ := own_slice hown5
        have e5 : aliveL (a.take (k + 1)) = aliveL (a.take k) ++ [m.node] := by rw [HSn.out, HU.out]; simp
        have e6 : (aliveL (a.take k)).length + 1 = (aliveL (a.take (k + 1))).length := by rw [e5]; simp
        have e7 : icells (aliveL (a.take k)) ++ [.int .i64 m.node] = icells (aliveL (a.take (k + 1))) := by rw [e5]; simp [icells]
        rw [e7, e6] at hown5
        rw [e6] at hv5
        have H5 := Lib.hid hown5; have HG5 := Lib.hid hgr5; have HV5 := Lib.hid hv5
        clear hown5 hgr5 hv5 e5 e6 e7
        rw [HV5.out]
        go_wp2
        go_roundw
        case rel => exact ⟨k + 1, c5, A5, by omega, by go_num, rfl, by rw [← HV5.out]; exact H5.out, ((HB.out.alloc HSz.out _).alloc (by have := HSz.out; simp; omega) _).grown HG5.out (by have := HSz.out; simp; omega) (fun j hj => (HLt.out j hj).1)⟩
        case measure => simp [intOf]; omega
      | false =>
        have HU := Lib.hid hu
        rw [hu] at e3
        clear hu
        go_wp2
        go_roundw
        case rel => exact ⟨k + 1, cc, A', by omega, by go_num, by rw [HSn.out, HU.out]; simp, by rw [HSn.out, HU.out]; simpa using HOa.out _, HB.out.alloc HSz.out _⟩
        case measure => simp [intOf]; omega
    · go_wp2
      go_ret2
      have e : a.take k = a := List.take_of_length_le (by rw [HL.out]; omega)
      have hO := HOw.out
      rw [e] at hO ⊢
      exact ⟨_, rfl, hO, hb⟩
end Go.Proofs.YtachfnmbhhppbaaDoor
