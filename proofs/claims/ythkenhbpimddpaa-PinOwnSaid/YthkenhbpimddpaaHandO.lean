/- Package hand: Open, Close. -/
import Derived.Test.YthkenhbpimddpaaHandF
namespace Go.Proofs.Ythkenhbpimddpaa
open Go.RowKit

/-- a slot stored whole -/
theorem store_slot {w : World} {e g i : Nat} {zs : List Slot} {x y : Slot} (hg : w.heap[g]? = some (.cells (eSlot.flat zs).toArray e (0, 0))) (hx : zs[i]? = some x) :
    (((w.setCell ⟨g, i * 3, none⟩ (.int .i64 y.gen)).setCell ⟨g, i * 3 + 1, none⟩ (.bool y.open_)).setCell ⟨g, i * 3 + 2, none⟩ (.int .i64 y.at_)).heap[g]? = some (.cells (eSlot.flat (zs.set i y)).toArray e (0, 0)) := by
  have hi : i < zs.length := (List.getElem?_eq_some_iff.1 hx).1
  have h1 := heap_store_El (j := 0) (x' := (⟨y.gen, x.open_, x.at_⟩ : Slot)) (u := .int .i64 y.gen) hg hx (by decide) rfl
  have h2 := heap_store_El (j := 1) (x := (⟨y.gen, x.open_, x.at_⟩ : Slot)) (x' := (⟨y.gen, y.open_, x.at_⟩ : Slot)) (u := .bool y.open_) h1 (by rw [List.getElem?_set_self hi]) (by decide) rfl
  have h3 := heap_store_El (j := 2) (x := (⟨y.gen, y.open_, x.at_⟩ : Slot)) (x' := (⟨y.gen, y.open_, y.at_⟩ : Slot)) (u := .int .i64 y.at_) h2 (by rw [List.getElem?_set_self (by simpa using hi)]) (by decide) rfl
  rw [List.set_set, List.set_set] at h3
  exact h3

set_option maxRecDepth 100000 in
set_option maxHeartbeats 1000000 in
theorem handOpen_any (A : Option Addr) (c : Nat) (h : List Slot) (a : Int) (w : World) (hp : Rd eSlot w A h) (hm : h.length ≤ maxLen) :
    Calls Try.prog 15 #[.slice A h.length c, .int .i64 a] w (OwnRet2 eSlot 32 w (handOpen h a).1 (.int .u64 (handOpen h a).2.1) (.int .i64 (handOpen h a).2.2)) := by
  have heg : Enters Try.prog 45 := enters Try.func45 (by kernel_rfl) (by kernel_rfl)
  have hpred : Hid (∀ (x : Slot) (W : World), Calls Try.prog 45 (#[.agg #[.int .i64 x.gen, .bool x.open_, .int .i64 x.at_]] ++ #[]) W (Ret (.bool (freeSlot x)) W)) := fun x W => by simpa using handOpen1 x W
  by_cases hc : handCheck h = 0
  · obtain ⟨h16, hall⟩ := handCheck_ok hc
    have hz : (handCheck h == 0) = true := by simp [hc]
    have hz' : (handCheck h != 0) = false := by simp [hc]
    cases ht : there a
    · have HA : Hid (handOpen h a = ([], 0, 4)) := by simp [handOpen, handOpenErr, Hid, hc, ht]
      rw [HA.out]
      clear hc
      go_enter Try.func15, Try.ntmps15
      go_wp2_with (first
        | (go_at_call 42; refine (handCheck_any _ _ _ _ hp hm).mono ?_; rintro e w' ⟨rfl, hb⟩)
        | (go_at_call 43; refine (handThere _ _).mono ?_; rintro e w' ⟨rfl, rfl⟩))
      go_ret3
      exact ⟨_, rfl, Own.nil, hb⟩
    · have HE : handOpenErr h a = 0 := by simp [handOpenErr, hc, ht]
      cases hf : h.findIdx? freeSlot with
      | none =>
        have HA : Hid (handOpen h a = ([], 0, 7)) := by simp [handOpen, HE, Hid, hf]
        have HI := Lib.hid (idxI_none hf)
        rw [HA.out]
        clear hc HE hf
        go_enter Try.func15, Try.ntmps15
        go_wp2_with (first
          | (go_at_call 42; refine (handCheck_any _ _ _ _ hp hm).mono ?_; rintro e w' ⟨rfl, hb⟩)
          | (go_at_call 43; refine (handThere _ _).mono ?_; rintro e w' ⟨rfl, rfl⟩)
          | (go_at_call 44; refine (indexFuncHands _ _ _ _ (hp.below hb) hm _ _ freeSlot heg (fun x _ W _ => hpred.out x W)).mono ?_; rw [HI.out]; rintro e w2 ⟨rfl, hb2⟩))
        go_ret3
        exact ⟨_, rfl, Own.nil, hb.trans (hb2.mono hb.size)⟩
      | some i =>
        obtain ⟨hi, hfr, _⟩ := List.findIdx?_eq_some_iff_getElem.1 hf
        obtain ⟨s, hx⟩ : ∃ s, h[i]? = some s := ⟨h[i], List.getElem?_eq_getElem hi⟩
        have hfs : freeSlot s = true := by rw [List.getElem?_eq_getElem hi] at hx; injection hx with hx; rw [← hx]; exact hfr
        obtain ⟨g0, g1, _, _, _⟩ := slotBad_ok (hall s (List.mem_of_getElem? hx))
        have g2 : s.gen < 65535 := by simp [freeSlot] at hfs; exact hfs.2
        have HA : Hid (handOpen h a = (h.set i ⟨s.gen + 1, true, a⟩, (i : Int) + (s.gen + 1) * 65536, 0)) := by simp [handOpen, HE, Hid, hf, hx]
        have HI := Lib.hid (idxI_some hf)
        have HX := Lib.hid hx
        have b0 : (0 : Int) ≤ (i : Int) := by omega
        have b1 : (i : Int) < (h.length : Int) := by omega
        rw [HA.out]
        clear hc HE hf hx hfs hfr
        go_enter Try.func15, Try.ntmps15
        go_wp2_with (first
          | (go_at_call 42; refine (handCheck_any _ _ _ _ hp hm).mono ?_; rintro e w' ⟨rfl, hb⟩)
          | (go_at_call 43; refine (handThere _ _).mono ?_; rintro e w' ⟨rfl, rfl⟩)
          | (go_at_call 44; refine (indexFuncHands _ _ _ _ (hp.below hb) hm _ _ freeSlot heg (fun x _ W _ => hpred.out x W)).mono ?_; rw [HI.out]; rintro e w2 ⟨rfl, hb2⟩)
          | (go_at_call 9; refine (cloneHands _ _ _ _ ((hp.below hb).below hb2) (by omega)).mono ?_; rintro e w3 ⟨v3, rfl, hown3, hb3⟩
             obtain ⟨b, off, rfl, hlt2, c0, c1, c2⟩ := (((hp.below hb).below hb2).below hb3).slot HX.out
             obtain ⟨g, ys, rfl, hg0, hcap, hg⟩ := hown3.form (by omega)
             have hx : (h ++ ys)[i]? = some s := by rw [List.getElem?_append_left hi]; exact HX.out
             have d0 : w3.cell? ⟨g, i * 3, none⟩ = some (.int .i64 s.gen) := own_cell (j := 0) hg hx rfl
             have d1 : w3.cell? ⟨g, i * 3 + 1, none⟩ = some (.bool s.open_) := own_cell (j := 1) hg hx rfl
             have d2 : w3.cell? ⟨g, i * 3 + 2, none⟩ = some (.int .i64 s.at_) := own_cell (j := 2) hg hx rfl
             have f0 : w3.frozen? ⟨g, i * 3, none⟩ = false := own_free hg
             have f1 : w3.frozen? ⟨g, i * 3 + 1, none⟩ = false := own_free hg
             have f2 : w3.frozen? ⟨g, i * 3 + 2, none⟩ = false := own_free hg
             have hst := store_slot (y := ⟨s.gen + 1, true, a⟩) hg hx
             rw [List.set_append_left _ _ hi] at hst
             have HST := Lib.hid hst
             have HG := Lib.hid hg
             clear hst hx hg)
          | (go_at_call 46; go_must (refine (handName i ⟨s.gen + 1, true, a⟩ _ (by omega) (by simp; omega) (by simp; omega)).mono ?_); rintro e w5 ⟨rfl, hb5⟩))
        go_ret3
        have hO : Own eSlot 32 _ w.heap.size (.slice (some ⟨g, 0, none⟩) h.length (h.length + ys.length)) (h.set i ⟨s.gen + 1, true, a⟩) :=
          .inr ⟨g, ys, by rw [List.length_set], Nat.le_trans hb.size (Nat.le_trans hb2.size hg0), by rw [List.length_set]; exact hcap, HST.out⟩
        have hB3 : Below w.heap.size w w3 := (hb.trans (hb2.mono hb.size)).trans (hb3.mono (Nat.le_trans hb.size hb2.size))
        have hgB : w.heap.size ≤ g := Nat.le_trans hb.size (Nat.le_trans hb2.size hg0)
        have hB4 := ((hB3.setCell (p := ⟨g, i * 3, none⟩) hgB (.int .i64 (s.gen + 1))).setCell (p := ⟨g, i * 3 + 1, none⟩) hgB (.bool true)).setCell (p := ⟨g, i * 3 + 2, none⟩) hgB (.int .i64 a)
        exact ⟨_, rfl, hO.below hb5, hB4.trans (hb5.mono hB4.size)⟩
  · have HA : Hid (handOpen h a = ([], 0, handCheck h)) := by simp [handOpen, handOpenErr, Hid, hc]
    have hz : (handCheck h == 0) = false := by simp [hc]
    have hz' : (handCheck h != 0) = true := by simp [hc]
    rw [HA.out]
    clear hc
    go_enter Try.func15, Try.ntmps15
    go_wp2_with (first
      | (go_at_call 42; refine (handCheck_any _ _ _ _ hp hm).mono ?_; rintro e w' ⟨rfl, hb⟩))
    go_ret3
    exact ⟨_, rfl, Own.nil, hb⟩

set_option maxRecDepth 100000 in
set_option maxHeartbeats 1000000 in
theorem handClose_any (A : Option Addr) (c : Nat) (h : List Slot) (n : Nat) (w : World) (hp : Rd eSlot w A h) (hm : h.length ≤ maxLen) (hn : n < 18446744073709551616) :
    Calls Try.prog 16 #[.slice A h.length c, .int .u64 n] w (OwnRet1 eSlot 32 w (handClose h n).1 (.int .i64 (handClose h n).2)) := by
  by_cases hc : handCheck h = 0
  · obtain ⟨h16, hall⟩ := handCheck_ok hc
    cases hi : handIdx h n with
    | none =>
      have HA : Hid (handClose h n = ([], 9)) := by simp [handClose, handErr, Hid, hc, hi]
      have HV := Lib.hid (handFindV_none hc hi)
      rw [HA.out]
      clear hc hi
      go_enter Try.func16, Try.ntmps16
      go_wp2_with (go_at_call 47; refine (handFind_any _ _ _ _ _ hp hm hn).mono ?_; rw [HV.out]; rintro e w' ⟨rfl, hb⟩)
      go_ret2
      exact ⟨_, rfl, Own.nil, hb⟩
    | some i =>
      obtain ⟨hq1, s, hx, hq2, hq3⟩ := handIdx_some hi
      clear hq1 hq2 hq3
      have hil : i < h.length := (List.getElem?_eq_some_iff.1 hx).1
      have HA : Hid (handClose h n = (h.set i ⟨s.gen, false, 0⟩, 0)) := by simp [handClose, handErr, Hid, hc, hi, hx]
      have HV := Lib.hid (handFindV_some hc hi)
      have HX := Lib.hid hx
      have b0 : (0 : Int) ≤ (i : Int) := by omega
      have b1 : (i : Int) < (h.length : Int) := by omega
      rw [HA.out]
      clear hc hi hx
      go_enter Try.func16, Try.ntmps16
      go_wp2_with (first
        | (go_at_call 47; refine (handFind_any _ _ _ _ _ hp hm hn).mono ?_; rw [HV.out]; rintro e w' ⟨rfl, hb⟩)
        | (go_at_call 9; refine (cloneHands _ _ _ _ (hp.below hb) (by omega)).mono ?_; rintro e w3 ⟨v3, rfl, hown3, hb3⟩
           obtain ⟨b, off, rfl, hlt2, c0, c1, c2⟩ := ((hp.below hb).below hb3).slot HX.out
           obtain ⟨g, ys, rfl, hg0, hcap, hg⟩ := hown3.form (by omega)
           have hx : (h ++ ys)[i]? = some s := by rw [List.getElem?_append_left hil]; exact HX.out
           have d0 : w3.cell? ⟨g, i * 3, none⟩ = some (.int .i64 s.gen) := own_cell (j := 0) hg hx rfl
           have d1 : w3.cell? ⟨g, i * 3 + 1, none⟩ = some (.bool s.open_) := own_cell (j := 1) hg hx rfl
           have d2 : w3.cell? ⟨g, i * 3 + 2, none⟩ = some (.int .i64 s.at_) := own_cell (j := 2) hg hx rfl
           have f0 : w3.frozen? ⟨g, i * 3, none⟩ = false := own_free hg
           have f1 : w3.frozen? ⟨g, i * 3 + 1, none⟩ = false := own_free hg
           have f2 : w3.frozen? ⟨g, i * 3 + 2, none⟩ = false := own_free hg
           have hst := store_slot (y := ⟨s.gen, false, 0⟩) hg hx
           rw [List.set_append_left _ _ hil] at hst
           have HST := Lib.hid hst
           have HG := Lib.hid hg
           clear hst hx hg))
      go_ret2
      have hO : Own eSlot 32 _ w.heap.size (.slice (some ⟨g, 0, none⟩) h.length (h.length + ys.length)) (h.set i ⟨s.gen, false, 0⟩) :=
        .inr ⟨g, ys, by rw [List.length_set], Nat.le_trans hb.size hg0, by rw [List.length_set]; exact hcap, HST.out⟩
      have hB3 : Below w.heap.size w w3 := hb.trans (hb3.mono hb.size)
      have hgB : w.heap.size ≤ g := Nat.le_trans hb.size hg0
      have hB4 := ((hB3.setCell (p := ⟨g, i * 3, none⟩) hgB (.int .i64 s.gen)).setCell (p := ⟨g, i * 3 + 1, none⟩) hgB (.bool false)).setCell (p := ⟨g, i * 3 + 2, none⟩) hgB (.int .i64 0)
      exact ⟨_, rfl, hO, hB4⟩
  · have HA : Hid (handClose h n = ([], handCheck h)) := by simp [handClose, handErr, Hid, hc]
    have HV := Lib.hid (handFindV_bad (n := n) hc)
    have hz : (handCheck h != 0) = true := by simp [hc]
    rw [HA.out]
    clear hc
    go_enter Try.func16, Try.ntmps16
    go_wp2_with (go_at_call 47; refine (handFind_any _ _ _ _ _ hp hm hn).mono ?_; rw [HV.out]; rintro e w' ⟨rfl, hb⟩)
    go_ret2
    exact ⟨_, rfl, Own.nil, hb⟩
end Go.Proofs.Ythkenhbpimddpaa
