/- slices.Clone at the element types of this program. -/
import Derived.Test.YthkenhbpimddpaaProg
import Derived.Test.YthkenhbpimddpaaW3
namespace Go.Proofs.Ythkenhbpimddpaa
open Go.RowKit

theorem tyPin : Ty ePin Try.prog 22 29 16 := Ty.mk' (z := .agg #[.int .i64 0, .int .i64 0]) Try.underlying22 (by kernel_rfl) (by kernel_rfl)
theorem tySlot : Ty eSlot Try.prog 23 32 24 := Ty.mk' (z := .agg #[.int .i64 0, .bool false, .int .i64 0]) Try.underlying23 (by kernel_rfl) (by kernel_rfl)
theorem tyInt : Ty eInt Try.prog 47 3 8 := Ty.mk' (z := .int .i64 0) Try.underlying47 (by kernel_rfl) (by kernel_rfl)
theorem tyU64 : Ty eU64 Try.prog 46 25 8 := Ty.mk' (z := .int .u64 0) Try.underlying46 (by kernel_rfl) (by kernel_rfl)
theorem tyHands : Ty eSlot Try.prog 24 32 24 := Ty.mk' (z := .agg #[.int .i64 0, .bool false, .int .i64 0]) Try.underlying24 (by kernel_rfl) (by kernel_rfl)

set_option maxRecDepth 100000 in
set_option maxHeartbeats 400000 in
theorem clonePin (A : Option Addr) (c : Nat) (p : List Pin) (w : World) (hp : Rd ePin w A p) (hm : p.length * 16 ≤ 140737488355328) :
    Calls Try.prog 8 #[.slice A p.length c] w fun e w' => ∃ v, e = .returned v ∧ Own ePin 29 w' w.heap.size v p ∧ Below w.heap.size w w' := by
  have hnil := fun n => Lib.run_eql_slice_nil (P := Try.prog) w 22 29 A n c 0 0 Try.underlying22
  cases A with
  | none =>
    have h0 : p = [] := by
      cases p with
      | nil => rfl
      | cons x l => obtain ⟨b, off, h, _⟩ := hp 0 x rfl; cases h
    subst h0
    go_enter Try.func8, Try.ntmps8
    go_wp2
    go_ret
    exact ⟨_, rfl, Own.nil, Below.refl _ _⟩
  | some a =>
    have H1 : Own ePin 29 (w.alloc (.cells #[] 29)) w.heap.size (.slice (some ⟨w.heap.size, 0, none⟩) 0 0) [] := Own.made (L := ePin) (ys := []) (xs := []) (Nat.le_refl _) (by simp [maxLen])
    have H2 : ([] : List Pin).length + p.length ≤ maxLen := by simp [maxLen]; omega
    have H3 : (([] : List Pin).length + p.length) * 16 ≤ 140737488355328 := by simpa using hm
    have H4 : w.heap.size ≤ (w.alloc (.cells #[] 29)).heap.size := by simp
    go_enter Try.func8, Try.ntmps8
    go_wp2_with (at_builtin; go_loud (refine wpList_append_Own rfl (.tmp 5) (.tmp 6) rfl tyPin H1 (hp.alloc _) rfl p.length c rfl rfl H4 H2 H3 ?_); intro v' w' hown hgr hat)
    go_ret
    exact ⟨_, rfl, by simpa using hown, ((Below.refl _ _).alloc (Nat.le_refl _) _).grown hgr (by simp) (by simp [Value.ownBlock])⟩

set_option maxRecDepth 100000 in
set_option maxHeartbeats 400000 in
theorem cloneHands (A : Option Addr) (c : Nat) (p : List Slot) (w : World) (hp : Rd eSlot w A p) (hm : p.length * 24 ≤ 140737488355328) :
    Calls Try.prog 9 #[.slice A p.length c] w fun e w' => ∃ v, e = .returned v ∧ Own eSlot 32 w' w.heap.size v p ∧ Below w.heap.size w w' := by
  have hnil := fun n => Lib.run_eql_slice_nil (P := Try.prog) w 24 32 A n c 0 0 Try.underlying24
  cases A with
  | none =>
    have h0 : p = [] := by
      cases p with
      | nil => rfl
      | cons x l => obtain ⟨b, off, h, _⟩ := hp 0 x rfl; cases h
    subst h0
    go_enter Try.func9, Try.ntmps9
    go_wp2
    go_ret
    exact ⟨_, rfl, Own.nil, Below.refl _ _⟩
  | some a =>
    have H1 : Own eSlot 32 (w.alloc (.cells #[] 32)) w.heap.size (.slice (some ⟨w.heap.size, 0, none⟩) 0 0) [] := Own.made (L := eSlot) (ys := []) (xs := []) (Nat.le_refl _) (by simp [maxLen])
    have H2 : ([] : List Slot).length + p.length ≤ maxLen := by simp [maxLen]; omega
    have H3 : (([] : List Slot).length + p.length) * 24 ≤ 140737488355328 := by simpa using hm
    have H4 : w.heap.size ≤ (w.alloc (.cells #[] 32)).heap.size := by simp
    go_enter Try.func9, Try.ntmps9
    go_wp2_with (at_builtin; go_loud (refine wpList_append_Own rfl (.tmp 5) (.tmp 6) rfl tyHands H1 (hp.alloc _) rfl p.length c rfl rfl H4 H2 H3 ?_); intro v' w' hown hgr hat)
    go_ret
    exact ⟨_, rfl, by simpa using hown, ((Below.refl _ _).alloc (Nat.le_refl _) _).grown hgr (by simp) (by simp [Value.ownBlock])⟩

set_option maxRecDepth 100000 in
set_option maxHeartbeats 400000 in
theorem cloneInt (A : Option Addr) (c : Nat) (p : List Int) (w : World) (hp : Rd eInt w A p) (hm : p.length * 8 ≤ 140737488355328) :
    Calls Try.prog 26 #[.slice A p.length c] w fun e w' => ∃ v, e = .returned v ∧ Own eInt 3 w' w.heap.size v p ∧ Below w.heap.size w w' := by
  have hnil := fun n => Lib.run_eql_slice_nil (P := Try.prog) w 47 3 A n c 0 0 Try.underlying47
  cases A with
  | none =>
    have h0 : p = [] := by
      cases p with
      | nil => rfl
      | cons x l => obtain ⟨b, off, h, _⟩ := hp 0 x rfl; cases h
    subst h0
    go_enter Try.func26, Try.ntmps26
    go_wp2
    go_ret
    exact ⟨_, rfl, Own.nil, Below.refl _ _⟩
  | some a =>
    have H1 : Own eInt 3 (w.alloc (.cells #[] 3)) w.heap.size (.slice (some ⟨w.heap.size, 0, none⟩) 0 0) [] := Own.made (L := eInt) (ys := []) (xs := []) (Nat.le_refl _) (by simp [maxLen])
    have H2 : ([] : List Int).length + p.length ≤ maxLen := by simp [maxLen]; omega
    have H3 : (([] : List Int).length + p.length) * 8 ≤ 140737488355328 := by simpa using hm
    have H4 : w.heap.size ≤ (w.alloc (.cells #[] 3)).heap.size := by simp
    go_enter Try.func26, Try.ntmps26
    go_wp2_with (at_builtin; go_loud (refine wpList_append_Own rfl (.tmp 5) (.tmp 6) rfl tyInt H1 (hp.alloc _) rfl p.length c rfl rfl H4 H2 H3 ?_); intro v' w' hown hgr hat)
    go_ret
    exact ⟨_, rfl, by simpa using hown, ((Below.refl _ _).alloc (Nat.le_refl _) _).grown hgr (by simp) (by simp [Value.ownBlock])⟩

set_option maxRecDepth 100000 in
set_option maxHeartbeats 400000 in
theorem cloneU64 (A : Option Addr) (c : Nat) (p : List Nat) (w : World) (hp : Rd eU64 w A p) (hm : p.length * 8 ≤ 140737488355328) :
    Calls Try.prog 25 #[.slice A p.length c] w fun e w' => ∃ v, e = .returned v ∧ Own eU64 25 w' w.heap.size v p ∧ Below w.heap.size w w' := by
  have hnil := fun n => Lib.run_eql_slice_nil (P := Try.prog) w 46 25 A n c 0 0 Try.underlying46
  cases A with
  | none =>
    have h0 : p = [] := by
      cases p with
      | nil => rfl
      | cons x l => obtain ⟨b, off, h, _⟩ := hp 0 x rfl; cases h
    subst h0
    go_enter Try.func25, Try.ntmps25
    go_wp2
    go_ret
    exact ⟨_, rfl, Own.nil, Below.refl _ _⟩
  | some a =>
    have H1 : Own eU64 25 (w.alloc (.cells #[] 25)) w.heap.size (.slice (some ⟨w.heap.size, 0, none⟩) 0 0) [] := Own.made (L := eU64) (ys := []) (xs := []) (Nat.le_refl _) (by simp [maxLen])
    have H2 : ([] : List Nat).length + p.length ≤ maxLen := by simp [maxLen]; omega
    have H3 : (([] : List Nat).length + p.length) * 8 ≤ 140737488355328 := by simpa using hm
    have H4 : w.heap.size ≤ (w.alloc (.cells #[] 25)).heap.size := by simp
    go_enter Try.func25, Try.ntmps25
    go_wp2_with (at_builtin; go_loud (refine wpList_append_Own rfl (.tmp 5) (.tmp 6) rfl tyU64 H1 (hp.alloc _) rfl p.length c rfl rfl H4 H2 H3 ?_); intro v' w' hown hgr hat)
    go_ret
    exact ⟨_, rfl, by simpa using hown, ((Below.refl _ _).alloc (Nat.le_refl _) _).grown hgr (by simp) (by simp [Value.ownBlock])⟩

end Go.Proofs.Ythkenhbpimddpaa
