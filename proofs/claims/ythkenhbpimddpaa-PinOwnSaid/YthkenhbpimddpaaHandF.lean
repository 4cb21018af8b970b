/- Package hand: find, Open, Close. -/
import Derived.Test.YthkenhbpimddpaaHandW
namespace Go.Proofs.Ythkenhbpimddpaa
open Go.RowKit

def handFindV (h : List Slot) (n : Nat) : Value := match handIdx h n with
  | some i => if handCheck h = 0 then .tuple #[.int .i64 i, .int .i64 0] else .tuple #[.int .i64 0, .int .i64 (handCheck h)]
  | none => if handCheck h = 0 then .tuple #[.int .i64 0, .int .i64 9] else .tuple #[.int .i64 0, .int .i64 (handCheck h)]
theorem handFindV_bad {h : List Slot} {n : Nat} (hc : ¬ handCheck h = 0) : handFindV h n = .tuple #[.int .i64 0, .int .i64 (handCheck h)] := by unfold handFindV; split <;> simp [hc]
theorem handFindV_some {h : List Slot} {n i : Nat} (hc : handCheck h = 0) (hi : handIdx h n = some i) : handFindV h n = .tuple #[.int .i64 i, .int .i64 0] := by simp [handFindV, hc, hi]
theorem handFindV_none {h : List Slot} {n : Nat} (hc : handCheck h = 0) (hi : handIdx h n = none) : handFindV h n = .tuple #[.int .i64 0, .int .i64 9] := by simp [handFindV, hc, hi]

set_option maxRecDepth 100000 in
set_option maxHeartbeats 1000000 in
theorem handFind_any (A : Option Addr) (c : Nat) (h : List Slot) (n : Nat) (w : World) (hp : Rd eSlot w A h) (hm : h.length ≤ maxLen) (hn : n < 18446744073709551616) :
    Calls Try.prog 47 #[.slice A h.length c, .int .u64 n] w (Ret (handFindV h n) w) := by
  have H16 := and16 n hn
  by_cases hc : handCheck h = 0
  · obtain ⟨h16, hall⟩ := handCheck_ok hc
    have hz : (handCheck h != 0) = false := by simp [hc]
    have hmod : n % 65536 < 65536 := Nat.mod_lt _ (by omega)
    cases hx : h[n % 65536]? with
    | none =>
      have hlt : ¬ n % 65536 < h.length := fun hl => by rw [List.getElem?_eq_getElem hl] at hx; cases hx
      have HV := Lib.hid (handFindV_none hc (n := n) (by simp [handIdx, hx]))
      clear hc hx
      generalize n % 65536 = m at *
      go_enter Try.func47, Try.ntmps47
      go_wp2_with (first
        | (go_at_call 42; refine (handCheck_any _ _ _ _ hp hm).mono ?_; rintro e w' ⟨rfl, hb⟩))
      go_ret2
      exact ⟨by rw [HV.out]; rfl, hb⟩
    | some s =>
      have hlt : n % 65536 < h.length := (List.getElem?_eq_some_iff.1 hx).1
      obtain ⟨g0, g1, _, _, _⟩ := slotBad_ok (hall s (List.mem_of_getElem? hx))
      cases ho : s.open_
      · have HV := Lib.hid (handFindV_none hc (n := n) (by simp [handIdx, hx, ho]))
        have HX := Lib.hid hx
        have HO := Lib.hid ho
        clear hc hx ho
        generalize n % 65536 = m at *
        go_enter Try.func47, Try.ntmps47
        go_wp2_with (first
          | (go_at_call 42; refine (handCheck_any _ _ _ _ hp hm).mono ?_; rintro e w' ⟨rfl, hb⟩
             obtain ⟨b, off, rfl, hlt2, c0, c1, c2⟩ := (hp.below hb).slot HX.out
             rw [HO.out] at c1))
        go_ret2
        exact ⟨by rw [HV.out]; rfl, hb⟩
      · by_cases hq : (n % 65536 : Int) + s.gen * 65536 = n
        · have HV := Lib.hid (handFindV_some hc (n := n) (i := n % 65536) (by simp [handIdx, hx, ho, hq]))
          have hqz : (((n % 65536 : Nat) : Int) + s.gen * 65536 != (n : Int)) = false := by simp; omega
          have HX := Lib.hid hx
          have HO := Lib.hid ho
          clear hc hx ho hq
          generalize n % 65536 = m at *
          go_enter Try.func47, Try.ntmps47
          go_wp2_with (first
            | (go_at_call 42; refine (handCheck_any _ _ _ _ hp hm).mono ?_; rintro e w' ⟨rfl, hb⟩
               obtain ⟨b, off, rfl, hlt2, c0, c1, c2⟩ := (hp.below hb).slot HX.out
               rw [HO.out] at c1)
            | (go_at_call 46; refine (handName _ ⟨s.gen, true, s.at_⟩ _ hmod g0 g1).mono ?_; rintro e w2 ⟨rfl, hb2⟩))
          go_ret2
          exact ⟨by rw [HV.out]; rfl, hb.trans (hb2.mono hb.size)⟩
        · have HV := Lib.hid (handFindV_none hc (n := n) (by simp [handIdx, hx, ho, hq]))
          have hqz : (((n % 65536 : Nat) : Int) + s.gen * 65536 != (n : Int)) = true := by simp; omega
          have HX := Lib.hid hx
          have HO := Lib.hid ho
          clear hc hx ho hq
          generalize n % 65536 = m at *
          go_enter Try.func47, Try.ntmps47
          go_wp2_with (first
            | (go_at_call 42; refine (handCheck_any _ _ _ _ hp hm).mono ?_; rintro e w' ⟨rfl, hb⟩
               obtain ⟨b, off, rfl, hlt2, c0, c1, c2⟩ := (hp.below hb).slot HX.out
               rw [HO.out] at c1)
            | (go_at_call 46; refine (handName _ ⟨s.gen, true, s.at_⟩ _ hmod g0 g1).mono ?_; rintro e w2 ⟨rfl, hb2⟩))
          go_ret2
          exact ⟨by rw [HV.out]; rfl, hb.trans (hb2.mono hb.size)⟩
  · have HV := Lib.hid (handFindV_bad (n := n) hc)
    have hz : (handCheck h != 0) = true := by simp [hc]
    clear hc
    go_enter Try.func47, Try.ntmps47
    go_wp2_with (first
      | (go_at_call 42; refine (handCheck_any _ _ _ _ hp hm).mono ?_; rintro e w' ⟨rfl, hb⟩))
    go_ret2
    exact ⟨by rw [HV.out]; rfl, hb⟩
end Go.Proofs.Ythkenhbpimddpaa
