/- Package pin: Check, find: the walks. -/
import Derived.Test.YthkenhbpimddpaaEq
import Derived.Test.YthkenhbpimddpaaPinP
namespace Go.Proofs.Ythkenhbpimddpaa
open Go.RowKit

set_option maxHeartbeats 400000 in
theorem pinThere_any (a : Int) (w : World) : Calls Try.prog 84 #[.int .i64 a] w fun e w' => e = .returned (.bool (there a)) ∧ w = w' := by
  by_cases h0 : 0 ≤ a
  · by_cases h1 : a < 256
    · rw [(there_iff a).2 ⟨h0, h1⟩]
      go_enter Try.func84, Try.ntmps84
      go_wp2
      go_ret
      exact ⟨rfl, rfl⟩
    · rw [(there_no a).2 (by omega)]
      go_enter Try.func84, Try.ntmps84
      go_wp2
      go_ret
      exact ⟨rfl, rfl⟩
  · rw [(there_no a).2 (by omega)]
    go_enter Try.func84, Try.ntmps84
    go_wp2
    go_ret
    exact ⟨rfl, rfl⟩

set_option maxRecDepth 100000 in
set_option maxHeartbeats 1000000 in
theorem pinCheck_any (A : Option Addr) (c : Nat) (p : List Pin) (w : World) (hp : Rd ePin w A p) (hm : p.length ≤ maxLen) :
    Calls Try.prog 83 #[.slice A p.length c] w (Ret (.int .i64 (pinCheck p)) w) := by
  unfold maxLen at hm
  by_cases h16 : p.length > 16
  · have HC : Hid (pinCheck p = 2) := by simp [pinCheck, Hid, h16]
    go_enter Try.func83, Try.ntmps83
    go_wp2
    go_ret
    exact ⟨by rw [HC.out]; rfl, Below.refl _ _⟩
  · have HC : Hid (pinCheck p = pinRest none p) := by simp [pinCheck, Hid, h16]
    go_enter Try.func83, Try.ntmps83
    go_wp2
    go_loopw [10] (fun i wr => ∃ k : Nat, k ≤ p.length ∧ i = .int .i64 k ∧ Hid (pinCheck p = pinRest (if k = 0 then none else p[k - 1]?) (p.drop k)) ∧ Below w.heap.size w wr) (fun i _ => p.length - (intOf i).toNat)
    case atStart => exact ⟨0, by omega, rfl, by simpa [Hid] using HC, Below.refl _ _⟩
    case round =>
      obtain ⟨k, hk, rfl, hrest, hb⟩ := hrel
      have hp2 := hp.below hb
      by_cases hlt : k < p.length
      · obtain ⟨x, hx⟩ : ∃ x, p[k]? = some x := ⟨p[k], List.getElem?_eq_getElem hlt⟩
        have hd : p.drop k = x :: p.drop (k + 1) := by
          rw [List.drop_eq_getElem_cons hlt]; congr 1; rw [List.getElem?_eq_getElem hlt] at hx; exact Option.some.inj hx
        have hr := hrest.out
        rw [hd] at hr
        obtain ⟨b, off, rfl, hlt2, c0, c1⟩ := hp2.pin hx
        have HX := Lib.hid hx
        clear hx hd hrest
        have bad : there x.at_ = false ∨ x.many < 1 ∨ x.many > 1000000 → pinCheck p = 4 := fun h => by rw [hr, pinRest, if_pos h]
        by_cases hbad : there x.at_ = false ∨ x.many < 1 ∨ x.many > 1000000
        · have HC := Lib.hid (bad hbad)
          clear bad hr
          cases ht : there x.at_
          · clear hbad
            go_wp2_with (go_at_call 84; refine (pinThere_any _ _).mono ?_; rintro e w' ⟨rfl, rfl⟩)
            go_ret
            exact ⟨by rw [HC.out]; rfl, hb.alloc hb.size _⟩
          · rw [ht] at hbad
            by_cases h1 : x.many < 1
            · clear hbad
              go_wp2_with (go_at_call 84; refine (pinThere_any _ _).mono ?_; rintro e w' ⟨rfl, rfl⟩)
              go_ret
              exact ⟨by rw [HC.out]; rfl, hb.alloc hb.size _⟩
            · have h2 : 1000000 < x.many := by simp [h1] at hbad; exact hbad
              clear hbad
              go_wp2_with (go_at_call 84; refine (pinThere_any _ _).mono ?_; rintro e w' ⟨rfl, rfl⟩)
              go_ret
              exact ⟨by rw [HC.out]; rfl, hb.alloc hb.size _⟩
        · have ht : there x.at_ = true := by
            cases h : there x.at_
            · exact absurd (Or.inl h) hbad
            · rfl
          have h1 : ¬ x.many < 1 := by omega
          have h2 : ¬ 1000000 < x.many := by omega
          rw [pinRest, if_neg hbad] at hr
          clear bad hbad
          by_cases hk0 : k = 0
          · have hz : decide (0 < k) = false := by simp; omega
            rw [if_neg (by rw [if_pos hk0]; simp)] at hr
            have HC := Lib.hid hr
            have HK := Lib.hid hk0
            clear hr hk0
            go_wp2_with (go_at_call 84; refine (pinThere_any _ _).mono ?_; rintro e w' ⟨rfl, rfl⟩)
            go_quiet (fail)
            go_wp2
            go_roundw
            case rel => exact ⟨k + 1, by omega, by go_num, Lib.hid (by rw [HC.out, if_neg (by omega)]; simp [HX.out]), bdrewN (hb.alloc hb.size _) _⟩
            case measure => simp [intOf]; omega
          · have hz : decide (0 < k) = true := by simp; omega
            have g0 : (0 : Int) ≤ (k : Int) - 1 := by omega
            have g1 : (k : Int) - 1 < (p.length : Int) := by omega
            obtain ⟨q, hq⟩ : ∃ x, p[k - 1]? = some x := ⟨p[k - 1], List.getElem?_eq_getElem (by omega)⟩
            obtain ⟨b2, off2, he, _, d0, _⟩ := hp2.pin hq
            injection he with he; injection he with he1 he2; subst he1; subst he2
            rw [if_neg hk0, hq] at hr
            by_cases hqx : q.at_ ≥ x.at_
            · rw [if_pos ⟨q, rfl, hqx⟩] at hr
              have HC := Lib.hid hr
              clear hr hk0 hq
              go_wp2_with (go_at_call 84; refine (pinThere_any _ _).mono ?_; rintro e w' ⟨rfl, rfl⟩)
              go_quiet (fail)
              go_wp2
              go_ret
              exact ⟨by rw [HC.out]; rfl, bdrewN (hb.alloc hb.size _) _⟩
            · rw [if_neg (by rintro ⟨q', h, h'⟩; cases h; exact hqx h')] at hr
              have HC := Lib.hid hr
              have HK := Lib.hid hk0
              clear hr hk0 hq
              go_wp2_with (go_at_call 84; refine (pinThere_any _ _).mono ?_; rintro e w' ⟨rfl, rfl⟩)
              go_quiet (fail)
              go_wp2
              go_roundw
              case rel => exact ⟨k + 1, by omega, by go_num, Lib.hid (by rw [HC.out, if_neg (by omega)]; simp [HX.out]), bdrewN (hb.alloc hb.size _) _⟩
              case measure => simp [intOf]; omega
      · have hr := hrest.out
        rw [List.drop_of_length_le (by omega)] at hr
        have HC : Hid (pinCheck p = 0) := by simpa [pinRest, Hid] using hr
        clear hr hrest
        go_wp2
        go_ret
        exact ⟨by rw [HC.out]; rfl, hb⟩
end Go.Proofs.Ythkenhbpimddpaa
