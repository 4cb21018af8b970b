/- Package pin: find: the walks. -/
import Derived.Test.YthkenhbpimddpaaPinW
namespace Go.Proofs.Ythkenhbpimddpaa
open Go.RowKit

def cmpI (a b : Int) : Int := if a < b then -1 else if b < a then 1 else 0
theorem cmpI_lt (a b : Int) : cmpI a b < 0 ↔ a < b := by unfold cmpI; split <;> (try split) <;> omega
theorem cmpI_eq (a b : Int) : cmpI a b = 0 ↔ a = b := by unfold cmpI; split <;> (try split) <;> omega

set_option maxHeartbeats 400000 in
theorem cmpNaN (a : Int) (w : World) : Calls Try.prog 121 #[.int .i64 a] w fun e w' => e = .returned (.bool false) ∧ w = w' := by
  have h : (a != a) = false := by simp
  go_enter Try.func121, Try.ntmps121
  go_wp2
  go_ret
  exact ⟨rfl, rfl⟩

set_option maxHeartbeats 400000 in
theorem cmpCompare (a b : Int) (w : World) : Calls Try.prog 87 #[.int .i64 a, .int .i64 b] w fun e w' => e = .returned (.int .i64 (cmpI a b)) ∧ w = w' := by
  by_cases h : a < b
  · rw [show cmpI a b = -1 from by simp [cmpI, h]]
    go_enter Try.func87, Try.ntmps87
    go_wp2_with (go_at_call 121; refine (cmpNaN _ _).mono ?_; rintro e w' ⟨rfl, rfl⟩)
    go_ret
    exact ⟨rfl, rfl⟩
  · by_cases h2 : b < a
    · rw [show cmpI a b = 1 from by simp [cmpI, h, h2]]
      go_enter Try.func87, Try.ntmps87
      go_wp2_with (go_at_call 121; refine (cmpNaN _ _).mono ?_; rintro e w' ⟨rfl, rfl⟩)
      go_ret
      exact ⟨rfl, rfl⟩
    · rw [show cmpI a b = 0 from by simp [cmpI, h, h2]]
      go_enter Try.func87, Try.ntmps87
      go_wp2_with (go_at_call 121; refine (cmpNaN _ _).mono ?_; rintro e w' ⟨rfl, rfl⟩)
      go_ret
      exact ⟨rfl, rfl⟩

set_option maxHeartbeats 400000 in
theorem pinFind1 (a m b : Int) (w : World) : Calls Try.prog 86 #[.agg #[.int .i64 a, .int .i64 m], .int .i64 b] w (Ret (.int .i64 (cmpI a b)) w) := by
  go_enter Try.func86, Try.ntmps86
  go_wp2_with (go_at_call 87; refine (cmpCompare _ _ _).mono ?_; rintro e w' ⟨rfl, rfl⟩)
  go_ret
  exact ⟨rfl, (Below.refl _ _).alloc (Nat.le_refl _) _⟩

theorem avg_bits (i j : Nat) (h : i + j ≤ 9223372036854775807) : ((i + j) / 2 : Nat) < 9223372036854775808 := by omega

set_option maxRecDepth 100000 in
set_option maxHeartbeats 1000000 in
theorem pinBsearch (A : Option Addr) (c : Nat) (p : List Pin) (t : Int) (w : World) (hp : Rd ePin w A p) (hm : p.length ≤ 1000000) (hs : p.Pairwise (fun x y => x.at_ < y.at_)) :
    Calls Try.prog 85 #[.slice A p.length c, .int .i64 t, .func (.func 86) #[] #[]] w
      (Ret (.tuple #[.int .i64 (pinLb p t), .bool (pinHas p t)]) w) := by
  have HS := Lib.hid hs
  clear hs
  have hle := pinLb_le p t
  go_enter Try.func85, Try.ntmps85
  go_wp2
  go_loopw [9, 10] (fun i j wr => ∃ m n : Nat, m ≤ pinLb p t ∧ pinLb p t ≤ n ∧ n ≤ p.length ∧ i = .int .i64 m ∧ j = .int .i64 n ∧ Below w.heap.size w wr) (fun i j _ => (intOf j).toNat - (intOf i).toNat)
  case atStart => exact ⟨0, p.length, by omega, by omega, by omega, rfl, rfl, Below.refl _ _⟩
  case round =>
    obtain ⟨m, n, h1, h2, h3, rfl, rfl, hb⟩ := hrel
    have hp2 := hp.below hb
    by_cases hlt : m < n
    · obtain ⟨x, hx⟩ : ∃ x, p[(m + n) / 2]? = some x := ⟨p[(m + n) / 2]'(by omega), List.getElem?_eq_getElem _⟩
      obtain ⟨b, off, rfl, hlt2, c0, c1⟩ := hp2.pin hx
      have s1 := (pinLb_step (t := t) HS.out hx).1
      have s2 := (pinLb_step (t := t) HS.out hx).2
      have HX := Lib.hid hx
      clear hx
      by_cases hxt : x.at_ < t
      · have hc : cmpI x.at_ t < 0 := (cmpI_lt _ _).2 hxt
        have H1 := Lib.hid (s1 hxt)
        clear s1 s2
        go_wp2_with (go_at_call 86; refine (pinFind1 _ _ _ _).mono ?_; rintro e w' ⟨rfl, hb2⟩)
        go_roundw
        case rel => exact ⟨(m + n) / 2 + 1, n, H1.out, h2, h3, by go_num, rfl, hb.trans (hb2.mono hb.size)⟩
        case measure => simp [intOf]; omega
      · have hc : ¬ cmpI x.at_ t < 0 := fun h => hxt ((cmpI_lt _ _).1 h)
        have H1 := Lib.hid (s2 hxt)
        clear s1 s2
        go_wp2_with (go_at_call 86; refine (pinFind1 _ _ _ _).mono ?_; rintro e w' ⟨rfl, hb2⟩)
        go_roundw
        case rel => exact ⟨m, (m + n) / 2, h1, H1.out, by omega, rfl, by go_num, hb.trans (hb2.mono hb.size)⟩
        case measure => simp [intOf]; omega
    · obtain rfl : m = pinLb p t := by omega
      by_cases hl : pinLb p t < p.length
      · obtain ⟨x, hx⟩ : ∃ x, p[pinLb p t]? = some x := ⟨p[pinLb p t], List.getElem?_eq_getElem _⟩
        obtain ⟨b, off, rfl, hlt2, c0, c1⟩ := hp2.pin hx
        have HH := Lib.hid (pinHas_at hx)
        clear hx
        by_cases hxt : x.at_ = t
        · have hc : (cmpI x.at_ t == 0) = true := by rw [beq_iff_eq]; exact (cmpI_eq _ _).2 hxt
          have HX := Lib.hid hxt
          clear hxt
          generalize pinLb p t = L at *
          go_wp2_with (go_at_call 86; refine (pinFind1 _ _ _ _).mono ?_; rintro e w' ⟨rfl, hb2⟩)
          go_ret2
          exact ⟨by rw [HH.out]; simp [HX.out], hb.trans (hb2.mono hb.size)⟩
        · have hc : (cmpI x.at_ t == 0) = false := by rw [beq_eq_false_iff_ne]; exact fun h => hxt ((cmpI_eq _ _).1 h)
          have HX := Lib.hid hxt
          clear hxt
          generalize pinLb p t = L at *
          go_wp2_with (go_at_call 86; refine (pinFind1 _ _ _ _).mono ?_; rintro e w' ⟨rfl, hb2⟩)
          go_ret2
          exact ⟨by rw [HH.out]; simp [HX.out], hb.trans (hb2.mono hb.size)⟩
      · have HH := Lib.hid (pinHas_end (p := p) (t := t) (by omega))
        generalize pinLb p t = L at *
        go_wp2_with fail
        go_ret2
        exact ⟨by rw [HH.out]; rfl, hb⟩
end Go.Proofs.Ythkenhbpimddpaa
