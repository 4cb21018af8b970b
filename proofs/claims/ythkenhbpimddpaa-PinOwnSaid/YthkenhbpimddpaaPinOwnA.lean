/- PinOwn: what the law calls beside the packages. -/
import Derived.Test.YthkenhbpimddpaaPinD
import Derived.Test.YthkenhbpimddpaaHandO
namespace Go.Proofs.Ythkenhbpimddpaa
open Go.RowKit

set_option maxRecDepth 100000 in
set_option maxHeartbeats 1000000 in
theorem pins_any (w : World) : Calls Try.prog 7 #[] w (Ret (.bool true) w) := by
  have hA : pinAdd [] 4 = ([⟨4, 1⟩], 1, 0) := by decide +kernel
  have HP := Lib.hid (pinAdd_any none 0 [] 4 w Rd.nil (by simp))
  go_enter Try.func7, Try.ntmps7
  go_wp2_with (go_at_call 13; refine HP.out.mono ?_; rw [hA]; rintro e w1 ⟨v, rfl, hown, hb⟩
               obtain ⟨g, ys, rfl, hg0, hcap, hg⟩ := hown.form (by simp))
  go_ret
  exact ⟨rfl, hb⟩

set_option maxRecDepth 100000 in
set_option maxHeartbeats 1000000 in
theorem pinOwn1 (a0 a1 a2 a3 : Addr) (A A' C C' : Option Addr) (c c' d d' : Nat) (p p' : List Pin) (h h' : List Slot) (w : World)
    (c0 : w.cell? a0 = some (.slice A p.length c)) (c1 : w.cell? a1 = some (.slice A' p'.length c')) (c2 : w.cell? a2 = some (.slice C h.length d)) (c3 : w.cell? a3 = some (.slice C' h'.length d'))
    (hp : Rd ePin w A p) (hp' : Rd ePin w A' p') (hh : Rd eSlot w C h) (hh' : Rd eSlot w C' h') (hm : p.length ≤ maxLen) (hm' : h.length ≤ maxLen) (hpp : sameL p p' = true) (hhh : sameL h h' = true) :
    Calls Try.prog 10 #[.pointer (some a0), .pointer (some a1), .pointer (some a2), .pointer (some a3)] w (Quiet (.bool true) w) := by
  have HP := Lib.hid hpp
  have HH := Lib.hid hhh
  clear hpp hhh
  go_enter Try.func10, Try.ntmps10
  go_wp2_with (first
    | (go_at_call 11; refine (equalPin _ _ _ _ p p' _ hp hp' hm).mono ?_; rw [HP.out]; rintro e w1 ⟨rfl, n1, rfl⟩)
    | (go_at_call 12; refine (equalHands _ _ _ _ h h' _ (hh.drewN _) (hh'.drewN _) hm').mono ?_; rw [HH.out]; rintro e w1 ⟨rfl, n2, rfl⟩))
  go_ret
  exact ⟨rfl, _, rfl⟩
end Go.Proofs.Ythkenhbpimddpaa
