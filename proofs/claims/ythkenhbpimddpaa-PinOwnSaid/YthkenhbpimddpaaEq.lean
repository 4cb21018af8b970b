/- slices.Equal at the element types of this program. -/
import Derived.Test.YthkenhbpimddpaaCl
import Derived.Laws.StructEq
namespace Go.Proofs.Ythkenhbpimddpaa
open Go.RowKit

theorem neqPin (x y : Pin) (w : World) : (binOp .neq 29 (.agg #[.int .i64 x.at_, .int .i64 x.many]) (.agg #[.int .i64 y.at_, .int .i64 y.many])).run Try.prog w = .ok (.bool (!decide (x = y))) w := by
  have hS : Try.prog.underlying 29 = some (.struct (Try.prog.fieldsOf 29)) := by kernel_rfl
  have hp : Try.prog.stoodInHeld 29 = false := by kernel_rfl
  rw [run_neq_struct, show (10000 : Nat) = 9999 + 1 from rfl, run_equalIn_agg w 9999 29 _ _ hS hp]
  simp only [Program.fieldsOf, Try.underlying29]
  go_simp
  obtain ⟨a, b⟩ := x
  obtain ⟨c, d⟩ := y
  by_cases h1 : a = c <;> by_cases h2 : b = d <;> simp [h1, h2]


theorem neqSlot (x y : Slot) (w : World) : (binOp .neq 32 (.agg #[.int .i64 x.gen, .bool x.open_, .int .i64 x.at_]) (.agg #[.int .i64 y.gen, .bool y.open_, .int .i64 y.at_])).run Try.prog w = .ok (.bool (!decide (x = y))) w := by
  have hS : Try.prog.underlying 32 = some (.struct (Try.prog.fieldsOf 32)) := by kernel_rfl
  have hp : Try.prog.stoodInHeld 32 = false := by kernel_rfl
  rw [run_neq_struct, show (10000 : Nat) = 9999 + 1 from rfl, run_equalIn_agg w 9999 32 _ _ hS hp]
  simp only [Program.fieldsOf, Try.underlying32]
  go_simp
  obtain ⟨a, b, c⟩ := x
  obtain ⟨d, e, f⟩ := y
  by_cases h1 : a = d <;> by_cases h2 : b = e <;> by_cases h3 : c = f <;> simp [h1, h2, h3]

set_option maxRecDepth 100000 in
set_option maxHeartbeats 400000 in
theorem equalPin (A C : Option Addr) (c d : Nat) (p q : List Pin) (w : World) (hp : Rd ePin w A p) (hq : Rd ePin w C q) (hm : p.length ≤ maxLen) :
    Calls Try.prog 11 #[.slice A p.length c, .slice C q.length d] w (Quiet (.bool (sameL p q)) w) := by
  unfold maxLen at hm
  by_cases hl : p.length = q.length
  · have hl1 : ((p.length : Int) != (q.length : Int)) = false := by simp [hl]
    have HL := Lib.hid hl
    clear hl
    go_enter Try.func11, Try.ntmps11
    go_wp2
    go_loopw [13] (fun i wr => ∃ k : Nat, k ≤ p.length ∧ i = .int .i64 k ∧ Hid (p.take k = q.take k) ∧ Hid (∃ n, wr = w.drewN n)) (fun i _ => p.length - (intOf i).toNat)
    case atStart => exact ⟨0, by omega, rfl, rfl, 0, rfl⟩
    case round =>
      obtain ⟨k, hk, rfl, htk, nn, hwr⟩ := hrel
      subst hwr
      by_cases hlt : k < p.length
      · obtain ⟨x, hx⟩ : ∃ x, p[k]? = some x := ⟨p[k], List.getElem?_eq_getElem hlt⟩
        obtain ⟨y, hy⟩ : ∃ x, q[k]? = some x := ⟨q[k]'(by rw [← HL.out]; exact hlt), List.getElem?_eq_getElem _⟩
        obtain ⟨b, off, rfl, hlt2, c0, c1⟩ := hp.pin hx
        obtain ⟨b', off', rfl, hlt2', d0, d1⟩ := hq.pin hy
        have b0 : (0 : Int) ≤ (k : Int) := by omega
        have b1 : (k : Int) < (p.length : Int) := by omega
        have b2 : (k : Int) < (q.length : Int) := by rw [← HL.out]; omega
        have HX := Lib.hid hx
        have HX' := trivial
        have HY := Lib.hid hy
        clear hx hy
        by_cases hxy : x = y
        · have hd : (!decide (x = y)) = false := by simp [hxy]
          have heq := fun w => neqPin x y w; simp only [hd] at heq
          have HXY := Lib.hid hxy
          clear hxy hd
          go_wp2
          go_quiet (fail)
          go_wp2
          go_roundw
          case rel => exact ⟨k + 1, by omega, by go_num, take_succ_eq htk.out HX.out HY.out HXY.out, _, rfl⟩
          case measure => simp [intOf]; omega
        · have hd : (!decide (x = y)) = true := by first | (simp [hxy]; done) | (simp; omega)
          have heq := fun w => neqPin x y w; simp only [hd] at heq
          have HN := Lib.hid (sameL_no HX.out HY.out hxy)
          clear hxy hd
          go_wp2
          go_quiet (fail)
          go_wp2
          go_ret
          exact ⟨by rw [HN.out]; rfl, _, World.drewN_drewN _ _ _⟩
      · have HP := Lib.hid (sameL_yes htk.out HL.out hlt)
        go_wp2
        go_ret
        exact ⟨by rw [HP.out]; rfl, _, rfl⟩
  · have hl1 : ((p.length : Int) != (q.length : Int)) = true := by simp; omega
    have HP := Lib.hid (sameL_len hl)
    go_enter Try.func11, Try.ntmps11
    go_wp2
    go_ret
    exact ⟨by rw [HP.out]; rfl, 0, rfl⟩

set_option maxRecDepth 100000 in
set_option maxHeartbeats 400000 in
theorem equalHands (A C : Option Addr) (c d : Nat) (p q : List Slot) (w : World) (hp : Rd eSlot w A p) (hq : Rd eSlot w C q) (hm : p.length ≤ maxLen) :
    Calls Try.prog 12 #[.slice A p.length c, .slice C q.length d] w (Quiet (.bool (sameL p q)) w) := by
  unfold maxLen at hm
  by_cases hl : p.length = q.length
  · have hl1 : ((p.length : Int) != (q.length : Int)) = false := by simp [hl]
    have HL := Lib.hid hl
    clear hl
    go_enter Try.func12, Try.ntmps12
    go_wp2
    go_loopw [13] (fun i wr => ∃ k : Nat, k ≤ p.length ∧ i = .int .i64 k ∧ Hid (p.take k = q.take k) ∧ Hid (∃ n, wr = w.drewN n)) (fun i _ => p.length - (intOf i).toNat)
    case atStart => exact ⟨0, by omega, rfl, rfl, 0, rfl⟩
    case round =>
      obtain ⟨k, hk, rfl, htk, nn, hwr⟩ := hrel
      subst hwr
      by_cases hlt : k < p.length
      · obtain ⟨x, hx⟩ : ∃ x, p[k]? = some x := ⟨p[k], List.getElem?_eq_getElem hlt⟩
        obtain ⟨y, hy⟩ : ∃ x, q[k]? = some x := ⟨q[k]'(by rw [← HL.out]; exact hlt), List.getElem?_eq_getElem _⟩
        obtain ⟨b, off, rfl, hlt2, c0, c1, c2⟩ := hp.slot hx
        obtain ⟨b', off', rfl, hlt2', d0, d1, d2⟩ := hq.slot hy
        have b0 : (0 : Int) ≤ (k : Int) := by omega
        have b1 : (k : Int) < (p.length : Int) := by omega
        have b2 : (k : Int) < (q.length : Int) := by rw [← HL.out]; omega
        have HX := Lib.hid hx
        have HX' := trivial
        have HY := Lib.hid hy
        clear hx hy
        by_cases hxy : x = y
        · have hd : (!decide (x = y)) = false := by simp [hxy]
          have heq := fun w => neqSlot x y w; simp only [hd] at heq
          have HXY := Lib.hid hxy
          clear hxy hd
          go_wp2
          go_quiet (fail)
          go_wp2
          go_roundw
          case rel => exact ⟨k + 1, by omega, by go_num, take_succ_eq htk.out HX.out HY.out HXY.out, _, rfl⟩
          case measure => simp [intOf]; omega
        · have hd : (!decide (x = y)) = true := by first | (simp [hxy]; done) | (simp; omega)
          have heq := fun w => neqSlot x y w; simp only [hd] at heq
          have HN := Lib.hid (sameL_no HX.out HY.out hxy)
          clear hxy hd
          go_wp2
          go_quiet (fail)
          go_wp2
          go_ret
          exact ⟨by rw [HN.out]; rfl, _, World.drewN_drewN _ _ _⟩
      · have HP := Lib.hid (sameL_yes htk.out HL.out hlt)
        go_wp2
        go_ret
        exact ⟨by rw [HP.out]; rfl, _, rfl⟩
  · have hl1 : ((p.length : Int) != (q.length : Int)) = true := by simp; omega
    have HP := Lib.hid (sameL_len hl)
    go_enter Try.func12, Try.ntmps12
    go_wp2
    go_ret
    exact ⟨by rw [HP.out]; rfl, 0, rfl⟩

set_option maxRecDepth 100000 in
set_option maxHeartbeats 400000 in
theorem equalInt (A C : Option Addr) (c d : Nat) (p q : List Int) (w : World) (hp : Rd eInt w A p) (hq : Rd eInt w C q) (hm : p.length ≤ maxLen) :
    Calls Try.prog 29 #[.slice A p.length c, .slice C q.length d] w (Quiet (.bool (sameL p q)) w) := by
  unfold maxLen at hm
  by_cases hl : p.length = q.length
  · have hl1 : ((p.length : Int) != (q.length : Int)) = false := by simp [hl]
    have HL := Lib.hid hl
    clear hl
    go_enter Try.func29, Try.ntmps29
    go_wp2
    go_loopw [13] (fun i wr => ∃ k : Nat, k ≤ p.length ∧ i = .int .i64 k ∧ Hid (p.take k = q.take k) ∧ Hid (∃ n, wr = w.drewN n)) (fun i _ => p.length - (intOf i).toNat)
    case atStart => exact ⟨0, by omega, rfl, rfl, 0, rfl⟩
    case round =>
      obtain ⟨k, hk, rfl, htk, nn, hwr⟩ := hrel
      subst hwr
      by_cases hlt : k < p.length
      · obtain ⟨x, hx⟩ : ∃ x, p[k]? = some x := ⟨p[k], List.getElem?_eq_getElem hlt⟩
        obtain ⟨y, hy⟩ : ∃ x, q[k]? = some x := ⟨q[k]'(by rw [← HL.out]; exact hlt), List.getElem?_eq_getElem _⟩
        obtain ⟨b, off, rfl, hlt2, c0⟩ := hp.int hx
        obtain ⟨b', off', rfl, hlt2', d0⟩ := hq.int hy
        have b0 : (0 : Int) ≤ (k : Int) := by omega
        have b1 : (k : Int) < (p.length : Int) := by omega
        have b2 : (k : Int) < (q.length : Int) := by rw [← HL.out]; omega
        have HX := Lib.hid hx
        have HX' := trivial
        have HY := Lib.hid hy
        clear hx hy
        by_cases hxy : x = y
        · have hd : (x != y) = false := by simp [hxy]
          skip
          have HXY := Lib.hid hxy
          clear hxy HX'
          go_wp2
          go_quiet (fail)
          go_wp2
          go_roundw
          case rel => exact ⟨k + 1, by omega, by go_num, take_succ_eq htk.out HX.out HY.out HXY.out, _, rfl⟩
          case measure => simp [intOf]; omega
        · have hd : (x != y) = true := by first | (simp [hxy]; done) | (simp; omega)
          skip
          have HN := Lib.hid (sameL_no HX.out HY.out hxy)
          clear hxy HX'
          go_wp2
          go_quiet (fail)
          go_wp2
          go_ret
          exact ⟨by rw [HN.out]; rfl, _, World.drewN_drewN _ _ _⟩
      · have HP := Lib.hid (sameL_yes htk.out HL.out hlt)
        go_wp2
        go_ret
        exact ⟨by rw [HP.out]; rfl, _, rfl⟩
  · have hl1 : ((p.length : Int) != (q.length : Int)) = true := by simp; omega
    have HP := Lib.hid (sameL_len hl)
    go_enter Try.func29, Try.ntmps29
    go_wp2
    go_ret
    exact ⟨by rw [HP.out]; rfl, 0, rfl⟩

set_option maxRecDepth 100000 in
set_option maxHeartbeats 400000 in
theorem equalU64 (A C : Option Addr) (c d : Nat) (p q : List Nat) (w : World) (hp : Rd eU64 w A p) (hq : Rd eU64 w C q) (hm : p.length ≤ maxLen) :
    Calls Try.prog 28 #[.slice A p.length c, .slice C q.length d] w (Quiet (.bool (sameL p q)) w) := by
  unfold maxLen at hm
  by_cases hl : p.length = q.length
  · have hl1 : ((p.length : Int) != (q.length : Int)) = false := by simp [hl]
    have HL := Lib.hid hl
    clear hl
    go_enter Try.func28, Try.ntmps28
    go_wp2
    go_loopw [13] (fun i wr => ∃ k : Nat, k ≤ p.length ∧ i = .int .i64 k ∧ Hid (p.take k = q.take k) ∧ Hid (∃ n, wr = w.drewN n)) (fun i _ => p.length - (intOf i).toNat)
    case atStart => exact ⟨0, by omega, rfl, rfl, 0, rfl⟩
    case round =>
      obtain ⟨k, hk, rfl, htk, nn, hwr⟩ := hrel
      subst hwr
      by_cases hlt : k < p.length
      · obtain ⟨x, hx⟩ : ∃ x, p[k]? = some x := ⟨p[k], List.getElem?_eq_getElem hlt⟩
        obtain ⟨y, hy⟩ : ∃ x, q[k]? = some x := ⟨q[k]'(by rw [← HL.out]; exact hlt), List.getElem?_eq_getElem _⟩
        obtain ⟨b, off, rfl, hlt2, c0⟩ := hp.u64 hx
        obtain ⟨b', off', rfl, hlt2', d0⟩ := hq.u64 hy
        have b0 : (0 : Int) ≤ (k : Int) := by omega
        have b1 : (k : Int) < (p.length : Int) := by omega
        have b2 : (k : Int) < (q.length : Int) := by rw [← HL.out]; omega
        have HX := Lib.hid hx
        have HX' := trivial
        have HY := Lib.hid hy
        clear hx hy
        by_cases hxy : x = y
        · have hd : ((x : Int) != (y : Int)) = false := by simp [hxy]
          skip
          have HXY := Lib.hid hxy
          clear hxy HX'
          go_wp2
          go_quiet (fail)
          go_wp2
          go_roundw
          case rel => exact ⟨k + 1, by omega, by go_num, take_succ_eq htk.out HX.out HY.out HXY.out, _, rfl⟩
          case measure => simp [intOf]; omega
        · have hd : ((x : Int) != (y : Int)) = true := by first | (simp [hxy]; done) | (simp; omega)
          skip
          have HN := Lib.hid (sameL_no HX.out HY.out hxy)
          clear hxy HX'
          go_wp2
          go_quiet (fail)
          go_wp2
          go_ret
          exact ⟨by rw [HN.out]; rfl, _, World.drewN_drewN _ _ _⟩
      · have HP := Lib.hid (sameL_yes htk.out HL.out hlt)
        go_wp2
        go_ret
        exact ⟨by rw [HP.out]; rfl, _, rfl⟩
  · have hl1 : ((p.length : Int) != (q.length : Int)) = true := by simp; omega
    have HP := Lib.hid (sameL_len hl)
    go_enter Try.func28, Try.ntmps28
    go_wp2
    go_ret
    exact ⟨by rw [HP.out]; rfl, 0, rfl⟩

end Go.Proofs.Ythkenhbpimddpaa
