/- PinOwn: the walk. -/
import Derived.Test.YthkenhbpimddpaaPinOwnA
import Derived.Deep.RegionHeld3
import Derived.Deep.DeepCutAuto
import Derived.Deep.DrawnRows
import Derived.Test.YthkenhbpimddpaaInv
import Derived.Test.YthkenhbpimddpaaBump
namespace Go.Proofs.Ythkenhbpimddpaa
open Go.RowKit

/-- two copies, each behind a variable of its own -/
def OwnCut (p : List Pin) (h : List Slot) (w0 : World) (s9 s10 : Value) (w : World) : Prop :=
  ∃ (g9 g10 : Nat) (A' C' : Option Addr) (c' d' : Nat), s9 = .pointer (some ⟨g9, 0, none⟩) ∧ s10 = .pointer (some ⟨g10, 0, none⟩) ∧
    w.cell? ⟨g9, 0, none⟩ = some (.slice A' p.length c') ∧ w.cell? ⟨g10, 0, none⟩ = some (.slice C' h.length d') ∧ Rd ePin w A' p ∧ Rd eSlot w C' h ∧ Below w0.heap.size w0 w

/-- what holds in the midst of the copying: 'l': which of the region's operations have been done -/
def OwnInv (A C : Option Addr) (c d : Nat) (p : List Pin) (h : List Slot) (w0 : World) (a0 : Act) (l : Array Bool) (a : Act) (w : World) : Prop :=
  ∃ (l0 l1 l2 l3 l4 l5 l6 l7 : Bool) (u9 u10 u32 u33 u34 u35 o9 o10 : Value) (g9 g10 : Nat), l = #[l0, l1, l2, l3, l4, l5, l6, l7] ∧
    a = ((((((a0.put (some 9) u9).put (some 10) u10).put (some 32) u32).put (some 33) u33).put (some 34) u34).put (some 35) u35) ∧
    Below w0.heap.size w0 w ∧ (l0 = true → u32 = .slice A p.length c) ∧ (l2 = true → u34 = .slice C h.length d) ∧
    (l1 = true → Own ePin 29 w w0.heap.size u33 p) ∧ (l3 = true → Own eSlot 32 w w0.heap.size u35 h) ∧
    (l4 = true → u9 = .pointer (some ⟨g9, 0, none⟩) ∧ w0.heap.size ≤ g9 ∧ w.heap[g9]? = some (.cells #[o9] 22 (0, 0))) ∧
    (l5 = true → u10 = .pointer (some ⟨g10, 0, none⟩) ∧ w0.heap.size ≤ g10 ∧ w.heap[g10]? = some (.cells #[o10] 24 (0, 0))) ∧
    (l6 = true → l1 = true ∧ l4 = true ∧ o9 = u33) ∧ (l7 = true → l3 = true ∧ l5 = true ∧ o10 = u35)

/-- what stays while the copies are counted up -/
def PinRel (wc : World) (A2 A3 A4 A5 : Option Addr) (n2 n3 n4 n5 : Nat) (W : World) : Prop :=
  Below wc.heap.size wc W ∧ Room ePin 29 W wc.heap.size A2 n2 ∧ Room ePin 29 W wc.heap.size A3 n3 ∧ Room eSlot 32 W wc.heap.size A4 n4 ∧ Room eSlot 32 W wc.heap.size A5 n5
theorem PinRel.pin {wc W : World} {A2 A3 A4 A5 : Option Addr} {n2 n3 n4 n5 g i : Nat} {zs : List Pin} {x : Pin} {m : Int} (h : PinRel wc A2 A3 A4 A5 n2 n3 n4 n5 W) (hB : wc.heap.size ≤ g)
    (hg : W.heap[g]? = some (.cells (ePin.flat zs).toArray 29 (0, 0))) (hx : zs[i]? = some x) : PinRel wc A2 A3 A4 A5 n2 n3 n4 n5 (W.setCell ⟨g, i * 2 + 1, none⟩ (.int .i64 m)) := by
  have h1 : Held ePin 29 W (W.setCell ⟨g, i * 2 + 1, none⟩ (.int .i64 m)) := Held.same (j := 1) (x' := (⟨x.at_, m⟩ : Pin)) hg hx (by decide) rfl
  have h2 : Held eSlot 32 W (W.setCell ⟨g, i * 2 + 1, none⟩ (.int .i64 m)) := Held.other hg (by decide)
  exact ⟨h.1.setCell hB _, h.2.1.held h1, h.2.2.1.held h1, h.2.2.2.1.held h2, h.2.2.2.2.held h2⟩
theorem PinRel.slot {wc W : World} {A2 A3 A4 A5 : Option Addr} {n2 n3 n4 n5 g i : Nat} {zs : List Slot} {x : Slot} {m : Int} (h : PinRel wc A2 A3 A4 A5 n2 n3 n4 n5 W) (hB : wc.heap.size ≤ g)
    (hg : W.heap[g]? = some (.cells (eSlot.flat zs).toArray 32 (0, 0))) (hx : zs[i]? = some x) : PinRel wc A2 A3 A4 A5 n2 n3 n4 n5 (W.setCell ⟨g, i * 3, none⟩ (.int .i64 m)) := by
  have h1 : Held eSlot 32 W (W.setCell ⟨g, i * 3, none⟩ (.int .i64 m)) := Held.same (j := 0) (x' := (⟨m, x.open_, x.at_⟩ : Slot)) hg hx (by decide) rfl
  have h2 : Held ePin 29 W (W.setCell ⟨g, i * 3, none⟩ (.int .i64 m)) := Held.other hg (by decide)
  exact ⟨h.1.setCell hB _, h.2.1.held h2, h.2.2.1.held h2, h.2.2.2.1.held h1, h.2.2.2.2.held h1⟩
theorem pinIndex (x y : Value) (W : World) : (Instr.index 42 (.agg #[x, y]) (.int .i64 0)).run Try.prog W = .ok x W ∧ (Instr.index 42 (.agg #[x, y]) (.int .i64 1)).run Try.prog W = .ok y W := ⟨by kernel_rfl, by kernel_rfl⟩
theorem handIndex (x y : Value) (W : World) : (Instr.index 43 (.agg #[x, y]) (.int .i64 0)).run Try.prog W = .ok x W ∧ (Instr.index 43 (.agg #[x, y]) (.int .i64 1)).run Try.prog W = .ok y W := ⟨by kernel_rfl, by kernel_rfl⟩

set_option maxRecDepth 100000 in
set_option maxHeartbeats 4000000 in
theorem pinOwn_any (A C : Option Addr) (c d : Nat) (p : List Pin) (h : List Slot) (a : Int) (n : Nat) (w : World) (hp : Rd ePin w A p) (hh : Rd eSlot w C h)
    (hm : p.length * 16 ≤ 140737488355328) (hm' : h.length * 24 ≤ 140737488355328) (hn : n < 18446744073709551616) :
    Calls Try.prog 3 #[.slice A p.length c, .slice C h.length d, .int .i64 a, .int .u64 n] w (Ret (.bool true) w) := by
  have heg : Enters Try.prog 10 := enters Try.func10 (by kernel_rfl) (by kernel_rfl)
  unfold Enters at heg
  go_enter Try.func3, Try.ntmps3
  go_upto_region 3 with (go_at_call 7; refine (pins_any _).mono ?_; rintro e w1 ⟨rfl, hb1⟩)
  have hs1 := hb1.size
  simp only [World.size_alloc] at hs1
  have e4 : w1.cell? ⟨w.heap.size, 0, none⟩ = some (.slice A p.length c) := by rw [hb1.cell (by simp; omega)]; simp
  have e5 : w1.cell? ⟨w.heap.size + 1, 0, none⟩ = some (.slice C h.length d) := by rw [hb1.cell (by simp)]; simp
  have hp1 : Rd ePin w1 A p := ((hp.alloc _).alloc _).below hb1
  have hh1 : Rd eSlot w1 C h := ((hh.alloc _).alloc _).below hb1
  have hB1 : Below w.heap.size w w1 := (((Below.refl _ _).alloc (Nat.le_refl _) _).alloc (by simp) _).trans (hb1.mono (by simp; omega))
  have HB1 := Lib.hid hb1
  clear hb1
  go_cut [9, 10] (fun s9 s10 wx => OwnCut p h w1 s9 s10 wx)
  case first =>
    refine wp_region_inv' (by kernel_rfl) (OwnInv A C c d p h w1) ?_ ?_ ?_
    · refine ⟨false, false, false, false, false, false, false, false, undef, undef, undef, undef, undef, undef, undef, undef, 0, 0, rfl, rfl, (Below.refl _ _).drew, ?_, ?_, ?_, ?_, ?_, ?_, ?_, ?_⟩ <;> (intro h; cases h)
    · intro l a' w' _ hI i hi
      obtain ⟨l0, l1, l2, l3, l4, l5, l6, l7, u9, u10, u32, u33, u34, u35, o9, o10, g9, g10, rfl, rfl, hB, h0', h2', h1', h3', h4', h5', h6', h7'⟩ := hI
      have h0 := Lib.hid h0'
      have h1 := Lib.hid h1'
      have h2 := Lib.hid h2'
      have h3 := Lib.hid h3'
      have h4 := Lib.hid h4'
      have h5 := Lib.hid h5'
      have h6 := Lib.hid h6'
      have h7 := Lib.hid h7'
      clear h0' h1' h2' h3' h4' h5' h6' h7'
      have hr := hi
      simp [Region.ready, Region.binds, List.range, List.range.loop] at hr
      obtain ⟨hcase, hl, hd⟩ := hr
      have ha0 := hB.cell (p := ⟨w.heap.size, 0, none⟩) (by simp; omega)
      have ha1 := hB.cell (p := ⟨w.heap.size + 1, 0, none⟩) (by simp; omega)
      rw [e4] at ha0
      rw [e5] at ha1
      rcases hcase with rfl | rfl | rfl | rfl | rfl | rfl | rfl | rfl
      · simp at hl hd
        refine wpOp_do rfl rfl ?_
        go_simp
        exact ⟨true, l1, l2, l3, l4, l5, l6, l7, u9, u10, _, u33, u34, u35, o9, o10, g9, g10, rfl, rfl, hB, fun _ => rfl, h2.out, h1.out, h3.out, h4.out, h5.out, h6.out, h7.out⟩
      · simp at hl hd
        subst hl
        subst hd
        obtain rfl := h0.out rfl
        refine wpOp_do rfl rfl ?_
        go_simp
        refine (clonePin _ _ _ _ (hp1.below hB) hm).mono ?_
        rintro e w2 ⟨v, rfl, hown, hb⟩
        refine ⟨true, true, l2, l3, l4, l5, l6, l7, u9, u10, _, v, u34, u35, o9, o10, g9, g10, rfl, rfl, hB.trans (hb.mono hB.size), h0.out, h2.out, fun _ => hown.mono hB.size, fun h => (h3.out h).below hb, fun h => ?_, fun h => ?_, fun h => (by have := (h6.out h).1; cases this), h7.out⟩
        · obtain ⟨x1, x2, x3⟩ := h4.out h
          exact ⟨x1, x2, heap_below x3 hb⟩
        · obtain ⟨x1, x2, x3⟩ := h5.out h
          exact ⟨x1, x2, heap_below x3 hb⟩
      · simp at hl hd
        refine wpOp_do rfl rfl ?_
        go_simp
        exact ⟨l0, l1, true, l3, l4, l5, l6, l7, u9, u10, u32, u33, _, u35, o9, o10, g9, g10, rfl, rfl, hB, h0.out, fun _ => rfl, h1.out, h3.out, h4.out, h5.out, h6.out, h7.out⟩
      · simp at hl hd
        obtain ⟨hd1, hd2⟩ := hd
        subst hl
        subst hd1
        subst hd2
        obtain rfl := h2.out rfl
        refine wpOp_do rfl rfl ?_
        go_simp
        refine (cloneHands _ _ _ _ (hh1.below hB) hm').mono ?_
        rintro e w2 ⟨v, rfl, hown, hb⟩
        refine ⟨l0, true, true, true, l4, l5, l6, l7, u9, u10, u32, u33, _, v, o9, o10, g9, g10, rfl, rfl, hB.trans (hb.mono hB.size), h0.out, h2.out, fun h => (h1.out h).below hb, fun _ => hown.mono hB.size, fun h => ?_, fun h => ?_, h6.out, fun h => (by have := (h7.out h).1; cases this)⟩
        · obtain ⟨x1, x2, x3⟩ := h4.out h
          exact ⟨x1, x2, heap_below x3 hb⟩
        · obtain ⟨x1, x2, x3⟩ := h5.out h
          exact ⟨x1, x2, heap_below x3 hb⟩
      · simp at hl hd
        subst hl
        refine wpOp_do rfl rfl ?_
        go_simp
        refine ⟨l0, l1, l2, l3, true, l5, l6, l7, _, u10, u32, u33, u34, u35, .slice none 0 0, o10, w'.heap.size, g10, rfl, rfl, hB.alloc hB.size _, h0.out, h2.out, fun h => (h1.out h).alloc _, fun h => (h3.out h).alloc _, fun _ => ⟨rfl, hB.size, heap_alloc_new _ _⟩, fun h => ?_, fun h => (by have := (h6.out h).2.1; cases this), h7.out⟩
        obtain ⟨x1, x2, x3⟩ := h5.out h
        exact ⟨x1, x2, heap_alloc_keep x3⟩
      · simp at hl hd
        subst hl
        refine wpOp_do rfl rfl ?_
        go_simp
        refine ⟨l0, l1, l2, l3, l4, true, l6, l7, u9, _, u32, u33, u34, u35, o9, .slice none 0 0, g9, w'.heap.size, rfl, rfl, hB.alloc hB.size _, h0.out, h2.out, fun h => (h1.out h).alloc _, fun h => (h3.out h).alloc _, fun h => ?_, fun _ => ⟨rfl, hB.size, heap_alloc_new _ _⟩, h6.out, fun h => (by have := (h7.out h).2.1; cases this)⟩
        obtain ⟨x1, x2, x3⟩ := h4.out h
        exact ⟨x1, x2, heap_alloc_keep x3⟩
      · simp at hl hd
        obtain ⟨hd4, hd1, hd3, hd⟩ := hd
        clear hd
        subst hl
        subst hd4
        subst hd1
        subst hd3
        obtain ⟨rfl, x2, x3⟩ := h4.out rfl
        have hw1 := h1.out rfl
        obtain ⟨A2, c2, rfl, _, _, _⟩ := hw1.rd
        have hcx := box_cell x3
        have hfx : w'.frozen? ⟨g9, 0, none⟩ = false := own_free x3
        refine wpOp_do rfl rfl ?_
        go_simp
        refine ⟨l0, true, l2, true, true, l5, true, l7, _, u10, u32, _, u34, u35, _, o10, g9, g10, rfl, rfl, hB.setCell x2 _, h0.out, h2.out, fun _ => hw1.box x3 (by decide) _ _, fun h => (h3.out h).box x3 (by decide) _ _, fun _ => ⟨rfl, x2, box_set x3⟩, fun h => ?_, fun _ => ⟨rfl, rfl, rfl⟩, h7.out⟩
        obtain ⟨y1, y2, y3⟩ := h5.out h
        exact ⟨y1, y2, box_other y3 x3 (by decide)⟩
      · simp at hl hd
        obtain ⟨hd5, hd3, hd6, hd⟩ := hd
        clear hd
        subst hl
        subst hd5
        subst hd3
        subst hd6
        obtain ⟨rfl, x2, x3⟩ := h5.out rfl
        have hw1 := h3.out rfl
        obtain ⟨A2, c2, rfl, _, _, _⟩ := hw1.rd
        have hcx := box_cell x3
        have hfx : w'.frozen? ⟨g10, 0, none⟩ = false := own_free x3
        refine wpOp_do rfl rfl ?_
        go_simp
        refine ⟨l0, l1, l2, true, l4, true, true, true, u9, _, u32, u33, u34, _, o9, _, g9, g10, rfl, rfl, hB.setCell x2 _, h0.out, h2.out, fun h => (h1.out h).box x3 (by decide) _ _, fun _ => hw1.box x3 (by decide) _ _, fun h => ?_, fun _ => ⟨rfl, x2, box_set x3⟩, h6.out, fun _ => ⟨rfl, rfl, rfl⟩⟩
        obtain ⟨y1, y2, y3⟩ := h4.out h
        exact ⟨y1, y2, box_other y3 x3 (by decide)⟩
    · intro l a' w' _ hI hr
      obtain ⟨l0, l1, l2, l3, l4, l5, l6, l7, u9, u10, u32, u33, u34, u35, o9, o10, g9, g10, rfl, rfl, hB, h0, h2, h1, h3, h4, h5, h6, h7⟩ := hI
      have hr' : l6 = true ∧ l7 = true := by
        clear h0 h1 h2 h3 h4 h5 h6 h7
        revert hr
        simp [Region.ready, Region.binds, List.range, List.range.loop, List.filter_cons]
        cases l0 <;> cases l1 <;> cases l2 <;> cases l3 <;> cases l4 <;> cases l5 <;> cases l6 <;> cases l7 <;> simp
      obtain ⟨rfl, rfl⟩ := hr'
      obtain ⟨rfl, rfl, rfl⟩ := h6 rfl
      obtain ⟨rfl, rfl, rfl⟩ := h7 rfl
      obtain ⟨rfl, x2, x3⟩ := h4 rfl
      obtain ⟨rfl, y2, y3⟩ := h5 rfl
      obtain ⟨A', c', rfl, _, _, hrA⟩ := (h1 rfl).rd
      obtain ⟨C', d', rfl, _, _, hrC⟩ := (h3 rfl).rd
      have hfin : Hid (OwnCut p h w1 (.pointer (some ⟨g9, 0, none⟩)) (.pointer (some ⟨g10, 0, none⟩)) w') := ⟨g9, g10, A', C', c', d', rfl, rfl, box_cell x3, box_cell y3, hrA, hrC, hB⟩
      clear h0 h1 h2 h3 h4 h5 h6 h7 hr
      go_wp2_with fail
      go_meet
      exact hfin
  case rest =>
    obtain ⟨g9, g10, A', C', c', d', rfl, rfl, k9, k10, hrA, hrC, hBc⟩ := hcut
    have ec4 : wc.cell? ⟨w.heap.size, 0, none⟩ = some (.slice A p.length c) := by rw [hBc.cell (by simp; omega)]; exact e4
    have ec5 : wc.cell? ⟨w.heap.size + 1, 0, none⟩ = some (.slice C h.length d) := by rw [hBc.cell (by simp; omega)]; exact e5
    have hpc := hp1.below hBc
    have hhc := hh1.below hBc
    have hBw : Below w.heap.size w wc := hB1.trans (hBc.mono (by omega))
    clear e4 e5 hBc HB1 hs1
    have l9 : g9 < wc.heap.size := World.block_lt_of_cell? wc _ k9
    have l10 : g10 < wc.heap.size := World.block_lt_of_cell? wc _ k10
    have l4 : w.heap.size < wc.heap.size := World.block_lt_of_cell? wc _ ec4
    have l5 : w.heap.size + 1 < wc.heap.size := World.block_lt_of_cell? wc _ ec5
    -- what a later world tells of the boxes
    have hbox : Hid (∀ W : World, Below wc.heap.size wc W → W.cell? ⟨w.heap.size, 0, none⟩ = some (.slice A p.length c) ∧ W.cell? ⟨g9, 0, none⟩ = some (.slice A' p.length c') ∧ W.cell? ⟨w.heap.size + 1, 0, none⟩ = some (.slice C h.length d) ∧ W.cell? ⟨g10, 0, none⟩ = some (.slice C' h.length d')) := fun W hW =>
      ⟨by rw [hW.cell l4]; exact ec4, by rw [hW.cell l9]; exact k9, by rw [hW.cell l5]; exact ec5, by rw [hW.cell l10]; exact k10⟩
    have hsame : Hid (∀ W : World, Below wc.heap.size wc W → Calls Try.prog 10 #[.pointer (some ⟨w.heap.size, 0, none⟩), .pointer (some ⟨g9, 0, none⟩), .pointer (some ⟨w.heap.size + 1, 0, none⟩), .pointer (some ⟨g10, 0, none⟩)] W (Quiet (.bool true) W)) := fun W hW => by
      obtain ⟨b0, b1, b2, b3⟩ := hbox.out W hW
      exact pinOwn1 _ _ _ _ A A' C C' c c' d d' p p h h W b0 b1 b2 b3 (hpc.below hW) (hrA.below hW) (hhc.below hW) (hrC.below hW) (by simp [maxLen]; omega) (by simp [maxLen]; omega) (by simp [sameL]) (by simp [sameL])
    have HBW := Lib.hid hBw
    clear hBw k9 k10 ec5
    go_wp2_with (first
      | (go_at_call 13; refine (pinAdd_any _ _ p _ _ hpc (by simp [maxLen]; omega)).mono ?_; rintro e w2 ⟨v2, rfl, hown2, hb2⟩
         obtain ⟨A2, n2, rfl, hn2, hm2, hroom2⟩ := hown2.room
         have q2 := (hbox.out _ hb2).1)
      | (go_at_call 14; refine (pinDrop_any _ _ p _ _ (hpc.below hb2) (by simp [maxLen]; omega)).mono ?_; rintro e w3 ⟨v3, rfl, hown3, hb3⟩
         obtain ⟨A3, n3, rfl, hn3, hm3, hroom3⟩ := hown3.room
         have hB3 := hb2.trans (hb3.mono hb2.size)
         have q3 := (hbox.out _ hB3).2.2.1)
      | (go_at_call 15; refine (handOpen_any _ _ h _ _ (hhc.below hB3) (by simp [maxLen]; omega)).mono ?_; rintro e w4 ⟨v4, rfl, hown4, hb4⟩
         obtain ⟨A4, n4, rfl, hn4, hm4, hroom4⟩ := hown4.room
         have hB4 := hB3.trans (hb4.mono hB3.size)
         have q4 := (hbox.out _ hB4).2.2.1)
      | (go_at_call 16; refine (handClose_any _ _ h _ _ (hhc.below hB4) (by simp [maxLen]; omega) hn).mono ?_; rintro e w5 ⟨v5, rfl, hown5, hb5⟩
         obtain ⟨A5, n5, rfl, hn5, hm5, hroom5⟩ := hown5.room
         have hB5 := hB4.trans (hb5.mono hB4.size))
      | (go_at_call 10; refine (hsame.out _ hB5).mono ?_; rintro e w6 ⟨rfl, nq, rfl⟩))
    have HR : Hid (PinRel wc A2 A3 A4 A5 n2 n3 n4 n5 (w5.drewN nq)) :=
      ⟨bdrewN hB5 _, (((hroom2.below hb3).below hb4).below hb5).drewN _, (((hroom3.mono hb2.size).below hb4).below hb5).drewN _, ((hroom4.mono hB3.size).below hb5).drewN _, (hroom5.mono hB4.size).drewN _⟩
    clear hroom2 hroom3 hroom4 hroom5 hown2 hown3 hown4 hown5 hB3 hB4 hB5 hb2 hb3 hb4 hb5 q2 q3 q4
    generalize (pinAdd p a).1.length = m2 at *
    generalize (pinDrop p a).1.length = m3 at *
    generalize (handOpen h a).1.length = m4 at *
    generalize (handClose h n).1.length = m5 at *
    generalize w5.drewN nq = W5 at *
    go_loopw [69] (fun i wr => ∃ k : Nat, k ≤ 2 ∧ i = .int .i64 k ∧ PinRel wc A2 A3 A4 A5 n2 n3 n4 n5 wr) (fun i _ => 2 - (intOf i).toNat)
    case atStart => exact ⟨0, by omega, rfl, HR.out⟩
    case round =>
      obtain ⟨k, hk, rfl, HR1⟩ := hrel
      clear HR
      by_cases hlt : k < 2
      · obtain ⟨A0, m0, n0, hn0, hm0, hx, hroom⟩ : ∃ (A0 : Option Addr) (m0 n0 : Nat), m0 ≤ n0 ∧ n0 ≤ maxLen ∧ (∀ W, (Instr.index 42 (.agg #[.slice A2 m2 n2, .slice A3 m3 n3]) (.int .i64 k)).run Try.prog W = .ok (.slice A0 m0 n0) W) ∧ Hid (∀ W, PinRel wc A2 A3 A4 A5 n2 n3 n4 n5 W → Room ePin 29 W wc.heap.size A0 n0) := by
          rcases (by omega : k = 0 ∨ k = 1) with rfl | rfl
          · exact ⟨A2, m2, n2, hn2, hm2, fun W => (pinIndex _ _ W).1, fun W h => h.2.1⟩
          · exact ⟨A3, m3, n3, hn3, hm3, fun W => (pinIndex _ _ W).2, fun W h => h.2.2.1⟩
        have hm0' := hm0
        simp only [maxLen] at hm0'
        have hq0 : (0 : Int) ≤ (n0 : Int) := by omega
        go_wp2
        obtain ⟨wo, rfl⟩ : ∃ wo : World, wo = wr := ⟨_, rfl⟩
        go_loopw [78] (fun i wr => ∃ j : Nat, j ≤ n0 ∧ i = .int .i64 j ∧ PinRel wc A2 A3 A4 A5 n2 n3 n4 n5 wr) (fun i _ => n0 - (intOf i).toNat)
        case atStart => exact ⟨0, by omega, rfl, HR1⟩
        case round =>
          obtain ⟨j, hj, rfl, HR2⟩ := hrel
          by_cases hjl : j < n0
          · rcases hroom.out _ HR2 with h0 | ⟨g, zs, rfl, hc, hBg, hg⟩
            · omega
            · obtain ⟨x, hxz⟩ : ∃ x, zs[j]? = some x := ⟨zs[j]'(by omega), List.getElem?_eq_getElem _⟩
              have c1 : wr.cell? ⟨g, j * 2 + 1, none⟩ = some (.int .i64 x.many) := own_cell (j := 1) hg hxz rfl
              have f1 : wr.frozen? ⟨g, j * 2 + 1, none⟩ = false := own_free hg
              have hnew : Hid (∀ m, PinRel wc A2 A3 A4 A5 n2 n3 n4 n5 (wr.setCell ⟨g, j * 2 + 1, none⟩ (.int .i64 m))) := fun m => HR2.pin hBg hg hxz
              clear hg hc hxz
              go_wp2
              go_roundw
              case rel => exact ⟨j + 1, by omega, by go_num, hnew.out _⟩
              case measure => simp [intOf]; omega
          · go_wp2
            go_roundw
            case rel => exact ⟨k + 1, by omega, by go_num, HR2⟩
            case measure => simp [intOf]; omega
      · clear hk
        go_wp2
        obtain ⟨wo, rfl⟩ : ∃ wo : World, wo = wr := ⟨_, rfl⟩
        go_loopw [94] (fun i wr => ∃ k : Nat, k ≤ 2 ∧ i = .int .i64 k ∧ PinRel wc A2 A3 A4 A5 n2 n3 n4 n5 wr) (fun i _ => 2 - (intOf i).toNat)
        case atStart => exact ⟨0, by omega, rfl, HR1⟩
        case round =>
          obtain ⟨k, hk, rfl, HR3⟩ := hrel
          clear HR1
          by_cases hlt : k < 2
          · obtain ⟨A0, m0, n0, hn0, hm0, hx, hroom⟩ : ∃ (A0 : Option Addr) (m0 n0 : Nat), m0 ≤ n0 ∧ n0 ≤ maxLen ∧ (∀ W, (Instr.index 43 (.agg #[.slice A4 m4 n4, .slice A5 m5 n5]) (.int .i64 k)).run Try.prog W = .ok (.slice A0 m0 n0) W) ∧ Hid (∀ W, PinRel wc A2 A3 A4 A5 n2 n3 n4 n5 W → Room eSlot 32 W wc.heap.size A0 n0) := by
              rcases (by omega : k = 0 ∨ k = 1) with rfl | rfl
              · exact ⟨A4, m4, n4, hn4, hm4, fun W => (handIndex _ _ W).1, fun W h => h.2.2.2.1⟩
              · exact ⟨A5, m5, n5, hn5, hm5, fun W => (handIndex _ _ W).2, fun W h => h.2.2.2.2⟩
            have hm0' := hm0
            simp only [maxLen] at hm0'
            have hq0 : (0 : Int) ≤ (n0 : Int) := by omega
            go_wp2
            obtain ⟨wo, rfl⟩ : ∃ wo : World, wo = wr := ⟨_, rfl⟩
            go_loopw [103] (fun i wr => ∃ j : Nat, j ≤ n0 ∧ i = .int .i64 j ∧ PinRel wc A2 A3 A4 A5 n2 n3 n4 n5 wr) (fun i _ => n0 - (intOf i).toNat)
            case atStart => exact ⟨0, by omega, rfl, HR3⟩
            case round =>
              obtain ⟨j, hj, rfl, HR2⟩ := hrel
              by_cases hjl : j < n0
              · rcases hroom.out _ HR2 with h0 | ⟨g, zs, rfl, hc, hBg, hg⟩
                · omega
                · obtain ⟨x, hxz⟩ : ∃ x, zs[j]? = some x := ⟨zs[j]'(by omega), List.getElem?_eq_getElem _⟩
                  have c1 : wr.cell? ⟨g, j * 3, none⟩ = some (.int .i64 x.gen) := own_cell (j := 0) hg hxz rfl
                  have f1 : wr.frozen? ⟨g, j * 3, none⟩ = false := own_free hg
                  have hnew : Hid (∀ m, PinRel wc A2 A3 A4 A5 n2 n3 n4 n5 (wr.setCell ⟨g, j * 3, none⟩ (.int .i64 m))) := fun m => HR2.slot hBg hg hxz
                  clear hg hc hxz
                  go_wp2
                  go_roundw
                  case rel => exact ⟨j + 1, by omega, by go_num, hnew.out _⟩
                  case measure => simp [intOf]; omega
              · go_wp2
                go_roundw
                case rel => exact ⟨k + 1, by omega, by go_num, HR2⟩
                case measure => simp [intOf]; omega
          · go_wp2_with (go_at_call 10; refine (hsame.out _ HR3.1).mono ?_; rintro e w6 ⟨rfl, nq, rfl⟩)
            go_ret
            exact ⟨rfl, HBW.out.trans ((bdrewN HR3.1 _).mono (by omega))⟩
end Go.Proofs.Ythkenhbpimddpaa
