/- Package hand: the walks. -/
import Derived.Test.YthkenhbpimddpaaIdx
import Derived.Test.YthkenhbpimddpaaEq
import Derived.Test.YthkenhbpimddpaaHandP
import Derived.Test.YthkenhbpimddpaaBits
namespace Go.Proofs.Ythkenhbpimddpaa
open Go.RowKit

set_option maxHeartbeats 400000 in
theorem handThere (a : Int) (w : World) : Calls Try.prog 43 #[.int .i64 a] w fun e w' => e = .returned (.bool (there a)) ∧ w = w' := by
  by_cases h0 : 0 ≤ a
  · by_cases h1 : a < 256
    · rw [(there_iff a).2 ⟨h0, h1⟩]
      go_enter Try.func43, Try.ntmps43
      go_wp2
      go_ret
      exact ⟨rfl, rfl⟩
    · rw [(there_no a).2 (by omega)]
      go_enter Try.func43, Try.ntmps43
      go_wp2
      go_ret
      exact ⟨rfl, rfl⟩
  · rw [(there_no a).2 (by omega)]
    go_enter Try.func43, Try.ntmps43
    go_wp2
    go_ret
    exact ⟨rfl, rfl⟩

set_option maxHeartbeats 400000 in
theorem handName (i : Nat) (s : Slot) (w : World) (hi : i < 65536) (h0 : 0 ≤ s.gen) (h1 : s.gen ≤ 65535) :
    Calls Try.prog 46 #[.int .i64 i, .agg #[.int .i64 s.gen, .bool s.open_, .int .i64 s.at_]] w (Ret (.int .u64 ((i : Int) + s.gen * 65536)) w) := by
  obtain ⟨n, hn⟩ := Int.eq_ofNat_of_zero_le h0
  obtain ⟨g, o, a⟩ := s
  simp only at hn h0 h1 ⊢
  subst hn
  go_enter Try.func46, Try.ntmps46
  go_wp2
  go_ret
  exact ⟨by rw [← or16 i n hi (by omega)]; rfl, (Below.refl _ _).alloc (Nat.le_refl _) _⟩

set_option maxHeartbeats 400000 in
theorem handOpen1 (s : Slot) (w : World) : Calls Try.prog 45 #[.agg #[.int .i64 s.gen, .bool s.open_, .int .i64 s.at_]] w (Ret (.bool (freeSlot s)) w) := by
  obtain ⟨g, o, a⟩ := s
  cases o
  · by_cases hg : g < 65535
    · have HF : Hid (freeSlot ⟨g, false, a⟩ = true) := by simp [freeSlot, Hid, hg]
      go_enter Try.func45, Try.ntmps45
      go_wp2
      go_ret
      exact ⟨by rw [HF.out]; rfl, (Below.refl _ _).alloc (Nat.le_refl _) _⟩
    · have HF : Hid (freeSlot ⟨g, false, a⟩ = false) := by simp [freeSlot, Hid, hg]
      go_enter Try.func45, Try.ntmps45
      go_wp2
      go_ret
      exact ⟨by rw [HF.out]; rfl, (Below.refl _ _).alloc (Nat.le_refl _) _⟩
  · have HF : Hid (freeSlot ⟨g, true, a⟩ = false) := by simp [freeSlot, Hid]
    go_enter Try.func45, Try.ntmps45
    go_wp2
    go_ret
    exact ⟨by rw [HF.out]; rfl, (Below.refl _ _).alloc (Nat.le_refl _) _⟩

set_option maxRecDepth 100000 in
set_option maxHeartbeats 1000000 in
theorem handCheck_any (A : Option Addr) (c : Nat) (h : List Slot) (w : World) (hp : Rd eSlot w A h) (hm : h.length ≤ maxLen) :
    Calls Try.prog 42 #[.slice A h.length c] w (Ret (.int .i64 (handCheck h)) w) := by
  unfold maxLen at hm
  by_cases h16 : h.length > 16
  · have HC : Hid (handCheck h = 2) := by simp [handCheck, Hid, h16]
    go_enter Try.func42, Try.ntmps42
    go_wp2
    go_ret
    exact ⟨by rw [HC.out]; rfl, Below.refl _ _⟩
  · have HC : Hid (handCheck h = handRest h) := by simp [handCheck, Hid, h16]
    go_enter Try.func42, Try.ntmps42
    go_wp2
    go_loopw [10] (fun i wr => ∃ k : Nat, k ≤ h.length ∧ i = .int .i64 k ∧ Hid (handCheck h = handRest (h.drop k)) ∧ Below w.heap.size w wr) (fun i _ => h.length - (intOf i).toNat)
    case atStart => exact ⟨0, by omega, rfl, by simpa [Hid] using HC, Below.refl _ _⟩
    case round =>
      obtain ⟨k, hk, rfl, hrest, hb⟩ := hrel
      have hp2 := hp.below hb
      by_cases hlt : k < h.length
      · obtain ⟨x, hx⟩ : ∃ x, h[k]? = some x := ⟨h[k], List.getElem?_eq_getElem hlt⟩
        have hd : h.drop k = x :: h.drop (k + 1) := by
          rw [List.drop_eq_getElem_cons hlt]; congr 1; rw [List.getElem?_eq_getElem hlt] at hx; exact Option.some.inj hx
        have hr := hrest.out
        rw [hd, handRest] at hr
        obtain ⟨b, off, rfl, hlt2, c0, c1, c2⟩ := hp2.slot hx
        have HX := Lib.hid hx
        clear hx hd hrest
        obtain ⟨g, o, a⟩ := x
        simp only at c0 c1 c2
        by_cases hbad : g < 0 ∨ g > 65535 ∨ there a = false
        · have h4 : slotBad ⟨g, o, a⟩ = 4 := by unfold slotBad; rw [if_pos hbad]
          rw [h4, if_neg (by decide)] at hr
          have HC := Lib.hid hr
          clear hr h4
          by_cases g0 : g < 0
          · clear hbad
            go_wp2_with (go_at_call 43; refine (handThere _ _).mono ?_; rintro e w' ⟨rfl, rfl⟩)
            go_ret
            exact ⟨by rw [HC.out]; rfl, hb.alloc hb.size _⟩
          · by_cases g1 : 65535 < g
            · clear hbad
              go_wp2_with (go_at_call 43; refine (handThere _ _).mono ?_; rintro e w' ⟨rfl, rfl⟩)
              go_ret
              exact ⟨by rw [HC.out]; rfl, hb.alloc hb.size _⟩
            · have ht : there a = false := by
                rcases hbad with h | h | h
                · omega
                · omega
                · exact h
              clear hbad
              go_wp2_with (go_at_call 43; refine (handThere _ _).mono ?_; rintro e w' ⟨rfl, rfl⟩)
              go_ret
              exact ⟨by rw [HC.out]; rfl, hb.alloc hb.size _⟩
        · have g0 : ¬ g < 0 := by omega
          have g1 : ¬ 65535 < g := by omega
          have ht : there a = true := by
            cases h : there a
            · exact absurd (.inr (.inr h)) hbad
            · rfl
          cases o
          · by_cases ha : a = 0
            · have h0 : slotBad ⟨g, false, a⟩ = 0 := by unfold slotBad; rw [if_neg hbad, if_neg (by simp [ha])]
              rw [h0, if_pos rfl] at hr
              have HC := Lib.hid hr
              have hz : (a != 0) = false := by simp [ha]
              have HA := Lib.hid ha
              clear hr h0 hbad ha
              go_wp2_with (go_at_call 43; refine (handThere _ _).mono ?_; rintro e w' ⟨rfl, rfl⟩)
              go_roundw
              case rel => exact ⟨k + 1, by omega, by go_num, HC, hb.alloc hb.size _⟩
              case measure => simp [intOf]; omega
            · have h3 : slotBad ⟨g, false, a⟩ = 3 := by unfold slotBad; rw [if_neg hbad, if_pos (by simp [ha])]
              rw [h3, if_neg (by decide)] at hr
              have HC := Lib.hid hr
              have hz : (a != 0) = true := by simp [ha]
              clear hr h3 hbad ha
              go_wp2_with (go_at_call 43; refine (handThere _ _).mono ?_; rintro e w' ⟨rfl, rfl⟩)
              go_ret
              exact ⟨by rw [HC.out]; rfl, hb.alloc hb.size _⟩
          · by_cases hg : g = 0
            · have h3 : slotBad ⟨g, true, a⟩ = 3 := by unfold slotBad; rw [if_neg hbad, if_pos (by simp [hg])]
              rw [h3, if_neg (by decide)] at hr
              have HC := Lib.hid hr
              have hz : (g == 0) = true := by simp [hg]
              clear hr h3 hbad hg
              go_wp2_with (go_at_call 43; refine (handThere _ _).mono ?_; rintro e w' ⟨rfl, rfl⟩)
              go_ret
              exact ⟨by rw [HC.out]; rfl, hb.alloc hb.size _⟩
            · have h0 : slotBad ⟨g, true, a⟩ = 0 := by unfold slotBad; rw [if_neg hbad, if_neg (by simp [hg])]
              rw [h0, if_pos rfl] at hr
              have HC := Lib.hid hr
              have hz : (g == 0) = false := by simp [hg]
              clear hr h0 hbad hg
              go_wp2_with (go_at_call 43; refine (handThere _ _).mono ?_; rintro e w' ⟨rfl, rfl⟩)
              go_roundw
              case rel => exact ⟨k + 1, by omega, by go_num, HC, hb.alloc hb.size _⟩
              case measure => simp [intOf]; omega
      · have hr := hrest.out
        rw [List.drop_of_length_le (by omega)] at hr
        have HC : Hid (handCheck h = 0) := by simpa [handRest, Hid] using hr
        clear hr hrest
        go_wp2
        go_ret
        exact ⟨by rw [HC.out]; rfl, hb⟩
end Go.Proofs.Ythkenhbpimddpaa
