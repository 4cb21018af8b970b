/- Laws and walks that the claim's proof uses, one behind the other:
  Package tint: Reach: the whole.
  slices.Index, Contains, ContainsFunc at []int.
  Package plan: rises.
  Package plan: what longs and slid compute; longs' closures.
  Package plan: longs.
  Package plan: slid, To.
  Package plan: To.
  Package plan: Gaps: its closure.
  Package plan: Gaps.
  Package plan: Gaps: the walk.
  Spots of an arena: they lie one behind the other. Places that slid objects take. No program in sight.
  Package slide: what Slide computes, in plain Lean; make at an element type. -/
import Derived.Laws.MakeOwn
import Derived.Test.YthkenhbpimddpaaM2
namespace Go.Proofs.Ythkenhbpimddpaa
open Go.RowKit

theorem tintErr_ok {a : List Nat} {fr : List Int} (h : tintErr a fr = 0) : (walkCheck a).2 = 0 ∧ known (headsF (walkSpots a).1) fr = true := by
  unfold tintErr at h
  split at h
  · rename_i h1; exact absurd h h1
  · rename_i h1
    split at h
    · rename_i h2; exact ⟨by simpa using h1, h2⟩
    · exact absurd h (by decide)
theorem reachN_step {a : List Nat} {l : List Spot} {k i : Nat} {xs : List Int} {n : Int} (h : xs[i]? = some n) : reachN a l (k + 1) xs i = reachN a l k (addRefs xs (refsOf a (spotOf l n))) (i + 1) := by rw [reachN, h]
theorem reachN_end {a : List Nat} {l : List Spot} {k i : Nat} {xs : List Int} (h : ¬ i < xs.length) : reachN a l k xs i = xs := by
  cases k with
  | zero => rfl
  | succ k => rw [reachN, List.getElem?_eq_none (by omega)]

set_option maxRecDepth 100000 in
set_option maxHeartbeats 4000000 in
theorem tintReach_any (A D : Option Addr) (c d : Nat) (a : List Nat) (fr : List Int) (w : World) (hp : Rd eU64 w A a) (hq : Rd eInt w D fr) (hac : a.length ≤ c) (hm : c ≤ maxLen) (hfm : fr.length ≤ maxLen) (ha : Words64 a) :
    Calls Try.prog 32 #[.slice A a.length c, .slice D fr.length d] w (OwnRet1 eInt 3 w (reachOf a fr) (.int .i64 (tintErr a fr))) := by
  have heg : Enters Try.prog 62 := enters Try.func62 (by kernel_rfl) (by kernel_rfl)
  by_cases ht : tintErr a fr = 0
  · obtain ⟨hc, hkn⟩ := tintErr_ok ht
    obtain ⟨hs, _, hnm⟩ := walkCheck_spots hc
    have hall := walkSpots_all hs
    have h256 := walkSpots_len (a := a)
    have hal : a.length ≤ 256 := (walkSpots_zero hs).1
    obtain ⟨l, hl⟩ : ∃ l, (walkSpots a).1 = l := ⟨_, rfl⟩
    have HH : Hid (∀ W, Rd eU64 W A a → Rd eInt W D fr → Calls Try.prog 61 #[.slice A a.length c, .slice D fr.length d] W (NewHeapRet W A c a 0)) := fun W h1 h2 => by
      have := newHeap_any A D c d a fr W h1 h2 hac hm hfm ha
      rw [ht] at this; exact this
    have HO : Hid (reachOf a fr = isort (reachL a fr)) := by show _ = _; rw [reachOf, if_pos ht]
    have HL : Hid (reachL a fr = reachN a l 300 (addAll [] fr) 0) := by show _ = _; rw [reachL, hl]
    rw [hl] at hkn hnm hall h256
    have hl256 : ∀ s ∈ l, s.at_ ≤ 256 := fun s hs => by have := (hall s hs).lt; omega
    have HF : Hid ((walkSpots a).1 = l ∧ (∀ s ∈ l, SpotOk a s) ∧ (∀ s ∈ l, s.at_ ≤ 256) ∧ allNamed a (placesF l) l = true ∧ known (headsF l) fr = true) := ⟨hl, hall, hl256, hnm, hkn⟩
    rw [ht]
    clear ht hc hkn hs hnm hall hl hl256
    unfold maxLen at hfm
    have hmk := fun W => run_makeMap (P := Try.prog) 128 W
    unfold Enters at heg
    go_enter Try.func32, Try.ntmps32
    go_wp2_with (go_at_call 61; refine (HH.out _ hp hq).mono ?_; rintro e w1 ⟨u, rfl, hu, hb1⟩
                 obtain ⟨g, rfl, m, v, hBg, hBm, hbx, hM, _⟩ := hu rfl)
    have hp1 := hp.below hb1
    have hq1 := hq.below hb1
    rw [HF.out.1] at hM
    have hR0 : ReachIs (((w1.alloc (.map #[] 0)).alloc (.cells #[.map (some w1.heap.size)] 128)).alloc (.cells #[.slice none 0 0] 47)) w1.heap.size (w1.heap.size + 1) (w1.heap.size + 1 + 1) [] := by
      refine ⟨by omega, by omega, w1.heap.size, _, Nat.le_refl _, heap_alloc_keep (by rw [← heap_alloc_size w1]; exact heap_alloc_new (w1.alloc _) _), by rw [← heap_alloc_size2 w1]; exact heap_alloc_new ((w1.alloc _).alloc _) _, ?_, Own.nil⟩
      have : seenF [] = fun _ => none := by funext k; simp [seenF]
      rw [this]
      exact ((MapIs.new w1).alloc _).alloc _
    have hB0 : Below w1.heap.size w1 (((w1.alloc (.map #[] 0)).alloc (.cells #[.map (some w1.heap.size)] 128)).alloc (.cells #[.slice none 0 0] 47)) := (((Below.refl _ _).alloc (Nat.le_refl _) _).alloc (alloc_le _ _) _).alloc (Nat.le_trans (alloc_le _ _) (alloc_le _ _)) _
    go_loopw [27] (fun i wr => ∃ k : Nat, k ≤ fr.length ∧ i = .int .i64 k ∧ ReachIs wr w1.heap.size (w1.heap.size + 1) (w1.heap.size + 1 + 1) (addAll [] (fr.take k)) ∧ Below w1.heap.size w1 wr) (fun i _ => fr.length - (intOf i).toNat)
    case atStart => exact ⟨0, by omega, rfl, hR0, hB0⟩
    case round =>
      obtain ⟨k, hk, rfl, hR, hb3⟩ := hrel
      by_cases hlt : k < fr.length
      · obtain ⟨y, hy⟩ : ∃ y, fr[k]? = some y := ⟨fr[k], List.getElem?_eq_getElem hlt⟩
        obtain ⟨b5, off5, rfl, hlt5, cy⟩ := (hq1.below hb3).int hy
        have hgd : Good l (addAll [] (fr.take k)) := Good.nil.addAll (known_take HF.out.2.2.2.2 k)
        have hadd := reachAdd' wr w1.heap.size (w1.heap.size + 1) (w1.heap.size + 1 + 1) (addAll [] (fr.take k)) y hR (by have := hgd.len; omega) hb3.size
        rw [← addAll_at hy] at hadd
        have HADD := Lib.hid hadd
        clear hy hadd hgd
        go_wp2_with fail
        refine HADD.out.mono ?_
        rintro e w5 ⟨rfl, hR5, hb5⟩
        go_wp2_with fail
        go_roundw
        case rel => exact ⟨k + 1, by omega, by go_num, hR5, hb3.trans hb5⟩
        case measure => simp [intOf]; omega
      · obtain rfl : k = fr.length := by omega
        rw [List.take_length] at hR
        have HG0 : Hid (Good l (addAll [] fr)) := Good.nil.addAll HF.out.2.2.2.2
        obtain ⟨wo, rfl⟩ : ∃ wo : World, wo = wr := ⟨_, rfl⟩
        go_wp2_with fail
        go_loopw [13] (fun i wr => ∃ (k n : Nat) (xs : List Int), i = .int .i64 k ∧ k + n = 300 ∧ k ≤ xs.length ∧ Hid (Good l xs) ∧ Hid (reachN a l 300 (addAll [] fr) 0 = reachN a l n xs k) ∧ ReachIs wr w1.heap.size (w1.heap.size + 1) (w1.heap.size + 1 + 1) xs ∧ Below w1.heap.size w1 wr) (fun i _ => 300 - (intOf i).toNat)
        case atStart => exact ⟨0, 300, _, rfl, by omega, by omega, HG0, rfl, hR, hb3⟩
        case round =>
          obtain ⟨k, n, xs, rfl, hkn, hkx, HG, HN, hR4, hb4⟩ := hrel
          have hx256 : xs.length ≤ 256 := Nat.le_trans HG.out.len h256
          have hR4' := Lib.hid hR4
          obtain ⟨_, _, ms, v4, hms, q1, q2, hM4, hown4⟩ := hR4
          obtain ⟨A4, c4, rfl, _, _, hrd4⟩ := hown4.rd
          have e2 : wr.cell? ⟨w1.heap.size + 1 + 1, 0, none⟩ = some (.slice A4 xs.length c4) := by rw [bcells q2 0]; rfl
          by_cases hlx : k < xs.length
          · obtain ⟨y, hy⟩ : ∃ y, xs[k]? = some y := ⟨xs[k], List.getElem?_eq_getElem hlx⟩
            obtain ⟨b5, off5, rfl, hlt5, cy⟩ := hrd4.int hy
            obtain ⟨n, rfl⟩ : ∃ n', n = n' + 1 := ⟨n - 1, by omega⟩
            have hgy := HG.out.2 y (List.mem_of_getElem? hy)
            have HE := Lib.hid (reachEach A c a l y w1 wr g m (w1.heap.size + 1) (w1.heap.size + 1 + 1) v xs HF.out.1 HF.out.2.1 HF.out.2.2.1 h256 HF.out.2.2.2.1 hac hm hp1 hbx hM HG.out hgy hR4'.out hb4)
            have HN2 : Hid (reachN a l 300 (addAll [] fr) 0 = reachN a l n (addRefs xs (refsOf a (spotOf l y))) (k + 1)) := by show _ = _; rw [HN.out, reachN_step hy]
            have HG2 : Hid (Good l (addRefs xs (refsOf a (spotOf l y)))) := HG.out.addRefs (allNamed_mem HF.out.2.2.2.1 (spotOf_ok HF.out.2.1 hgy).1)
            have hgrow := addRefs_grow (xs := xs) (vs := refsOf a (spotOf l y))
            clear hy hgy
            go_wp2_with (go_at_call 63; refine HE.out.mono ?_; rintro e w5 ⟨rfl, hR5, hb5⟩)
            go_roundw
            case rel => exact ⟨k + 1, n, _, by go_num, by omega, by omega, HG2, HN2, hR5, hb5⟩
            case measure => simp [intOf]; omega
          · have HE : Hid (reachL a fr = xs) := by show _ = _; rw [HL.out, HN.out, reachN_end hlx]
            go_wp2_with (go_at_call 64; refine (sortInt_any _ xs wr w1.heap.size hown4 (by omega)).mono ?_; rintro e w6 ⟨rfl, hown6, hgr6⟩
                         have q26 : w6.heap[w1.heap.size + 1 + 1]? = some (.cells #[.slice A4 xs.length c4] 47 (0, 0)) := (hgr6.block _ (Array.getElem?_eq_some_iff.1 q2).1 (fun h => own_ne hown4 q2 (by decide) h.symm)).trans q2
                         have e26 : w6.cell? ⟨w1.heap.size + 1 + 1, 0, none⟩ = some (.slice A4 xs.length c4) := by rw [bcells q26 0]; rfl)
            go_ret2
            refine ⟨_, rfl, by rw [HO.out, HE.out]; exact hown6.mono hb1.size, ?_⟩
            exact hb1.trans (((hb4.grown hgr6 hb4.size (fun g hg => (hown4.lt g hg).1))).mono hb1.size)
  · have HO : Hid (reachOf a fr = []) := by show _ = _; rw [reachOf, if_neg ht]
    obtain ⟨r, hr⟩ : ∃ r, tintErr a fr = r := ⟨_, rfl⟩
    have HH : Hid (∀ W, Rd eU64 W A a → Rd eInt W D fr → Calls Try.prog 61 #[.slice A a.length c, .slice D fr.length d] W (NewHeapRet W A c a r)) := fun W h1 h2 => by
      have := newHeap_any A D c d a fr W h1 h2 hac hm hfm ha
      rw [hr] at this; exact this
    rw [HO.out, hr]
    rw [hr] at ht
    have z : (r != 0) = true := by simp [ht]
    clear ht hr heg
    go_enter Try.func32, Try.ntmps32
    go_wp2_with (go_at_call 61; refine (HH.out _ hp hq).mono ?_; rintro e w1 ⟨u, rfl, _, hb1⟩)
    go_ret2
    exact ⟨_, rfl, Own.nil, hb1⟩
end Go.Proofs.Ythkenhbpimddpaa
namespace Go.Proofs.Ythkenhbpimddpaa
open Go.RowKit

theorem idxI_ge {α : Type} {p : α → Bool} {xs : List α} : decide (idxI p xs ≥ 0) = xs.any p := by
  rcases idxI_cases p xs with ⟨h, h2⟩ | ⟨i, x, h, hx, hp, _⟩
  · rw [h]
    have : xs.any p = false := by rw [List.any_eq_false]; exact fun x hx => by simp [h2 x hx]
    rw [this]; decide
  · rw [h]
    have : xs.any p = true := by rw [List.any_eq_true]; exact ⟨x, List.mem_of_getElem? hx, hp⟩
    rw [this]
    simp

set_option maxRecDepth 100000 in
set_option maxHeartbeats 1000000 in
theorem indexInt_any (A : Option Addr) (c : Nat) (xs : List Int) (n : Int) (w : World) (hr : Rd eInt w A xs) (hm : xs.length ≤ maxLen) :
    Calls Try.prog 55 #[.slice A xs.length c, .int .i64 n] w (Ret (.int .i64 (idxI (fun x => x == n) xs)) w) := by
  unfold maxLen at hm
  go_enter Try.func55, Try.ntmps55
  go_wp2
  go_loopw [8] (fun i wr => ∃ k : Nat, k ≤ xs.length ∧ i = .int .i64 k ∧ Hid (∀ j y, j < k → xs[j]? = some y → (y == n) = false) ∧ Below w.heap.size w wr) (fun i _ => xs.length - (intOf i).toNat)
  case atStart => exact ⟨0, by omega, rfl, fun j y h => absurd h (by omega), Below.refl _ _⟩
  case round =>
    obtain ⟨k, hk, rfl, h0, hb⟩ := hrel
    by_cases hlt : k < xs.length
    · obtain ⟨x, hx⟩ : ∃ x, xs[k]? = some x := ⟨xs[k], List.getElem?_eq_getElem hlt⟩
      obtain ⟨b, off, rfl, hlt2, c0⟩ := (hr.below hb).int hx
      have HX := Lib.hid hx
      clear hx
      by_cases hpx : x = n
      · subst hpx
        have H1 := Lib.hid (findIdx?_at (p := fun y => y == x) h0.out HX.out (by simp))
        go_wp2_with fail
        go_ret
        exact ⟨by rw [H1.out]; rfl, hb⟩
      · have H1 : Hid (∀ j y, j < k + 1 → xs[j]? = some y → (y == n) = false) := fun j y hj hy => by
          rcases Nat.lt_succ_iff_lt_or_eq.1 hj with hj | rfl
          · exact h0.out j y hj hy
          · rw [HX.out] at hy; injection hy with hy; subst hy; simpa using hpx
        have hpb : (n == x) = false := by simp; exact fun e => hpx e.symm
        have hpb' : (x == n) = false := by simpa using hpx
        go_wp2_with fail
        go_roundw
        case rel => exact ⟨k + 1, by omega, by go_num, H1, hb⟩
        case measure => simp [intOf]; omega
    · have H1 := Lib.hid (findIdx?_no (p := fun y => y == n) h0.out hlt)
      go_wp2_with fail
      go_ret
      exact ⟨by rw [H1.out]; rfl, hb⟩
def hasI (xs : List Int) (n : Int) : Bool := xs.any (fun x => x == n)
theorem hasI_iff {xs : List Int} {n : Int} : hasI xs n = true ↔ n ∈ xs := by simp [hasI]
theorem containsInt_any (A : Option Addr) (c : Nat) (xs : List Int) (n : Int) (w : World) (hr : Rd eInt w A xs) (hm : xs.length ≤ maxLen) :
    Calls Try.prog 73 #[.slice A xs.length c, .int .i64 n] w (Ret (.bool (hasI xs n)) w) := by
  have HQ := Lib.hid (indexInt_any A c xs n w hr hm)
  have HV : Hid (hasI xs n = decide (idxI (fun x => x == n) xs ≥ 0)) := by show _ = _; rw [idxI_ge]; rfl
  rw [HV.out]
  obtain ⟨i, hi⟩ : ∃ i, idxI (fun x => x == n) xs = i := ⟨_, rfl⟩
  rw [hi] at HQ ⊢
  clear hi HV
  go_enter Try.func73, Try.ntmps73
  go_wp2_with (go_at_call 55; refine HQ.out.mono ?_; rintro e w1 ⟨rfl, hb1⟩)
  go_ret
  exact ⟨rfl, hb1⟩
theorem containsFuncInt_any (A : Option Addr) (c : Nat) (xs : List Int) (w : World) (hr : Rd eInt w A xs) (hm : xs.length ≤ maxLen) (g : Nat) (lb : Array Value) (p : Int → Bool) (eg : Enters Try.prog g)
    (hp : ∀ x ∈ xs, ∀ W, Below w.heap.size w W → Calls Try.prog g (#[.int .i64 x] ++ lb) W (Ret (.bool (p x)) W)) :
    Calls Try.prog 108 #[.slice A xs.length c, .func (.func g) #[] lb] w (Ret (.bool (xs.any p)) w) := by
  have HQ := Lib.hid (indexFuncInt A c xs w hr hm g lb p eg hp)
  rw [← idxI_ge]
  obtain ⟨i, hi⟩ : ∃ i, idxI p xs = i := ⟨_, rfl⟩
  rw [hi] at HQ ⊢
  clear hi hp
  go_enter Try.func108, Try.ntmps108
  go_wp2_with (go_at_call 144; refine HQ.out.mono ?_; rintro e w1 ⟨rfl, hb1⟩)
  go_ret
  exact ⟨rfl, hb1⟩
end Go.Proofs.Ythkenhbpimddpaa
namespace Go.Proofs.Ythkenhbpimddpaa
open Go.RowKit

/-- does the list rise, from one place on? -/
def risesFrom (xs : List Int) : Nat → Nat → Bool
  | 0, _ => true
  | n + 1, i => match xs[i - 1]?, xs[i]? with
    | some x, some y => decide (x < y) && risesFrom xs n (i + 1)
    | _, _ => true
def rises (xs : List Int) : Bool := risesFrom xs xs.length 1
theorem risesFrom_step {xs : List Int} {n i : Nat} {x y : Int} (hx : xs[i - 1]? = some x) (hy : xs[i]? = some y) : risesFrom xs (n + 1) i = (decide (x < y) && risesFrom xs n (i + 1)) := by
  rw [risesFrom, hx, hy]
theorem risesFrom_end {xs : List Int} {n i : Nat} (h : ¬ i < xs.length) : risesFrom xs n i = true := by
  cases n with
  | zero => rfl
  | succ n =>
    rw [risesFrom, List.getElem?_eq_none (l := xs) (i := i) (by omega)]
    split
    · rename_i h; cases h
    · rfl

set_option maxRecDepth 100000 in
set_option maxHeartbeats 2000000 in
theorem planRises_any (A : Option Addr) (c : Nat) (xs : List Int) (w : World) (hr : Rd eInt w A xs) (hm : xs.length ≤ maxLen) :
    Calls Try.prog 152 #[.slice A xs.length c] w (Ret (.bool (rises xs)) w) := by
  unfold maxLen at hm
  go_enter Try.func152, Try.ntmps152
  go_wp2_with fail
  go_loopw [3] (fun i wr => ∃ k n : Nat, i = .int .i64 k ∧ 1 ≤ k ∧ k ≤ xs.length + 1 ∧ k + n = xs.length + 1 ∧ Hid (rises xs = risesFrom xs n k) ∧ Below w.heap.size w wr) (fun i _ => xs.length + 1 - (intOf i).toNat)
  case atStart => exact ⟨1, xs.length, rfl, by omega, by omega, by omega, rfl, Below.refl _ _⟩
  case round =>
    obtain ⟨k, n, rfl, hk1, hk2, hkn, hR, hb⟩ := hrel
    by_cases hlt : k < xs.length
    · obtain ⟨x, hx⟩ : ∃ x, xs[k - 1]? = some x := ⟨xs[k - 1]'(by omega), List.getElem?_eq_getElem _⟩
      obtain ⟨y, hy⟩ : ∃ y, xs[k]? = some y := ⟨xs[k], List.getElem?_eq_getElem hlt⟩
      obtain ⟨n, rfl⟩ : ∃ n', n = n' + 1 := ⟨n - 1, by omega⟩
      obtain ⟨k, rfl⟩ : ∃ k', k = k' + 1 := ⟨k - 1, by omega⟩
      obtain ⟨b, off, rfl, hlt2, c0⟩ := (hr.below hb).int hx
      obtain ⟨b', off', hA, hlt3, c1⟩ := (hr.below hb).int hy
      injection hA with hA
      injection hA with h1 h2 _
      subst h1
      subst h2
      have HS := Lib.hid (risesFrom_step (n := n) hx hy)
      simp only [Nat.add_sub_cancel] at c0
      clear hx hy
      by_cases hxy : x < y
      · have H1 : Hid (rises xs = risesFrom xs n (k + 1 + 1)) := by show _ = _; rw [hR.out, HS.out]; simp [hxy]
        go_wp2_with fail
        go_quiet (fail)
        all_goals go_wp2_with fail
        go_roundw
        case rel => exact ⟨k + 1 + 1, n, by go_num, by omega, by omega, by omega, H1, bdrewN hb _⟩
        case measure => simp [intOf]; omega
      · have H1 : Hid (rises xs = false) := by show _ = _; rw [hR.out, HS.out]; simp [hxy]
        go_wp2_with fail
        go_quiet (fail)
        all_goals go_wp2_with fail
        go_ret
        exact ⟨by rw [H1.out]; rfl, bdrewN hb _⟩
    · have H1 : Hid (rises xs = true) := by show _ = _; rw [hR.out, risesFrom_end hlt]
      go_wp2_with fail
      go_ret
      exact ⟨by rw [H1.out]; rfl, hb⟩
end Go.Proofs.Ythkenhbpimddpaa
namespace Go.Proofs.Ythkenhbpimddpaa
open Go.RowKit

theorem risesFrom_lt {xs : List Int} : ∀ (n i : Nat), 1 ≤ i → xs.length ≤ i + n → risesFrom xs n i = true → ∀ j x y, i ≤ j → xs[j - 1]? = some x → xs[j]? = some y → x < y
  | 0, i, _, hl, _, j, x, y, hj, _, hy => by have := (List.getElem?_eq_some_iff.1 hy).1; omega
  | n + 1, i, h1, hl, hr, j, x, y, hj, hx, hy => by
    by_cases hi : i < xs.length
    · rw [risesFrom_step (x := xs[i - 1]'(by omega)) (y := xs[i]) (List.getElem?_eq_getElem _) (List.getElem?_eq_getElem hi)] at hr
      simp only [Bool.and_eq_true, decide_eq_true_eq] at hr
      rcases Nat.eq_or_lt_of_le hj with rfl | hj
      · rw [List.getElem?_eq_getElem hi] at hy
        rw [List.getElem?_eq_getElem (by omega)] at hx
        injection hx with hx
        injection hy with hy
        rw [← hx, ← hy]; exact hr.1
      · exact risesFrom_lt n (i + 1) (by omega) (by omega) hr.2 j x y hj hx hy
    · have := (List.getElem?_eq_some_iff.1 hy).1; omega
theorem rises_lt {xs : List Int} (h : rises xs = true) : ∀ (d i : Nat) (x y : Int), xs[i]? = some x → xs[i + d + 1]? = some y → x < y
  | 0, i, x, y, hx, hy => risesFrom_lt xs.length 1 (Nat.le_refl _) (by omega) h (i + 1) x y (by omega) (by simpa using hx) hy
  | d + 1, i, x, y, hx, hy => by
    have hl := (List.getElem?_eq_some_iff.1 hy).1
    obtain ⟨z, hz⟩ : ∃ z, xs[i + d + 1]? = some z := ⟨xs[i + d + 1]'(by omega), List.getElem?_eq_getElem _⟩
    have h1 := rises_lt h d i x z hx hz
    have h2 := risesFrom_lt xs.length 1 (Nat.le_refl _) (by omega) h (i + d + 1 + 1) z y (by omega) (by simpa using hz) hy
    omega
theorem rises_pair {xs : List Int} (h : rises xs = true) : xs.Pairwise (· < ·) := by
  rw [List.pairwise_iff_getElem]
  intro i j hi hj hij
  obtain ⟨d, rfl⟩ : ∃ d, j = i + d + 1 := ⟨j - i - 1, by omega⟩
  exact rises_lt h d i _ _ (List.getElem?_eq_getElem hi) (List.getElem?_eq_getElem hj)
theorem rises_nodup {xs : List Int} (h : rises xs = true) : xs.Nodup := (rises_pair h).imp (fun h => by omega)

def liveAt (n : Int) (s : Spot) : Bool := ((s.at_ : Int) == n) && !s.head.free
def longOf (l : List Spot) (n : Int) : Option Int := (l.find? (liveAt n)).map fun s => (s.head.len : Int)
def longsGo (l : List Spot) : List Int → Option (List Int)
  | [] => some []
  | n :: ns => match longOf l n with
    | none => none
    | some x => (longsGo l ns).map (x :: ·)
def planLongs (a : List Nat) (keep pinned : List Int) : List Int × Int :=
  if (walkCheck a).2 ≠ 0 then ([], (walkCheck a).2)
  else if (rises keep && rises pinned) = false then ([], 3)
  else match longsGo (walkSpots a).1 keep with
    | none => ([], 5)
    | some L => if pinned.any (fun n => !hasI keep n) = true then ([], 5) else (L, 0)
/-- where each goes: the places, from an end on -/
def slidGo (pinned : List Int) : List Int → List Int → Int → List Int
  | n :: ns, x :: xs, e => (if hasI pinned n = true then n else e) :: slidGo pinned ns xs ((if hasI pinned n = true then n else e) + x)
  | _, _, _ => []

theorem planLongs1 (s : Spot) (w w1 : World) (b : Nat) (n : Int) (h : w1.heap[b]? = some (.cells #[.int .i64 n] 3 (0, 0))) (hb : Below w1.heap.size w1 w) :
    Calls Try.prog 153 (#[.agg #[.int .i64 (s.at_ : Int), .int .i64 s.head.refs, .int .i64 s.head.body, .int .i64 s.head.tag, .bool s.head.free]] ++ #[.pointer (some ⟨b, 0, none⟩)]) w (Ret (.bool (liveAt n s)) w) := by
  have h' := heap_below h hb
  have hc : w.cell? ⟨b, 0, none⟩ = some (.int .i64 n) := by rw [bcells h' 0]; rfl
  have hlt := (Array.getElem?_eq_some_iff.1 h').1
  suffices hs : Calls Try.prog 153 #[.agg #[.int .i64 (s.at_ : Int), .int .i64 s.head.refs, .int .i64 s.head.body, .int .i64 s.head.tag, .bool s.head.free], .pointer (some ⟨b, 0, none⟩)] w (Ret (.bool (liveAt n s)) w) by simpa using hs
  obtain ⟨at_, r, bd, t, f⟩ := s
  by_cases he : (at_ : Int) = n
  · have HV : Hid (liveAt n ⟨at_, r, bd, t, f⟩ = !f) := by simp [liveAt, Hid, he]
    have hz : ((at_ : Int) == n) = true := by simp [he]
    clear he
    go_enter Try.func153, Try.ntmps153
    go_wp2
    go_ret
    exact ⟨by rw [HV.out]; rfl, (Below.refl _ _).alloc (Nat.le_refl _) _⟩
  · have HV : Hid (liveAt n ⟨at_, r, bd, t, f⟩ = false) := by simp [liveAt, Hid, he]
    have hz : ((at_ : Int) == n) = false := by simp [he]
    clear he
    go_enter Try.func153, Try.ntmps153
    go_wp2
    go_ret
    exact ⟨by rw [HV.out]; rfl, (Below.refl _ _).alloc (Nat.le_refl _) _⟩
theorem planLongs2 (n : Int) (w w1 : World) (b : Nat) (A : Option Addr) (c : Nat) (xs : List Int) (hr : Rd eInt w1 A xs) (hm : xs.length ≤ maxLen) (h : w1.heap[b]? = some (.cells #[.slice A xs.length c] 47 (0, 0))) (hb : Below w1.heap.size w1 w) :
    Calls Try.prog 154 (#[.int .i64 n] ++ #[.pointer (some ⟨b, 0, none⟩)]) w (Ret (.bool (!hasI xs n)) w) := by
  have h' := heap_below h hb
  have hc : w.cell? ⟨b, 0, none⟩ = some (.slice A xs.length c) := by rw [bcells h' 0]; rfl
  have hlt := (Array.getElem?_eq_some_iff.1 h').1
  suffices hs : Calls Try.prog 154 #[.int .i64 n, .pointer (some ⟨b, 0, none⟩)] w (Ret (.bool (!hasI xs n)) w) by simpa using hs
  obtain ⟨v, hv⟩ : ∃ v, hasI xs n = v := ⟨_, rfl⟩
  have HQ := Lib.hid (containsInt_any A c xs n w (hr.below hb) hm)
  rw [hv] at HQ ⊢
  clear hv
  go_enter Try.func154, Try.ntmps154
  go_wp2_with (go_at_call 73; refine HQ.out.mono ?_; rintro e w2 ⟨rfl, hb2⟩)
  go_ret
  exact ⟨rfl, hb2⟩
end Go.Proofs.Ythkenhbpimddpaa
namespace Go.Proofs.Ythkenhbpimddpaa
open Go.RowKit

theorem longOf_mem {l : List Spot} {n : Int} (h : (longOf l n).isSome = true) : n ∈ orderOf l := by
  unfold longOf at h
  cases hf : l.find? (liveAt n) with
  | none => rw [hf] at h; cases h
  | some s =>
    have h1 := List.find?_some hf
    have h2 := List.mem_of_find?_eq_some hf
    simp [liveAt] at h1
    rw [← h1.1]; exact mem_orderOf h2 h1.2
theorem found_len {l : List Spot} {keep : List Int} {k : Nat} (hr : rises keep = true) (hk : k ≤ keep.length) (h : ∀ n ∈ keep.take k, (longOf l n).isSome = true) : k ≤ l.length := by
  have := nodup_le (keep.take k) (orderOf l) ((rises_nodup hr).sublist (List.take_sublist _ _)) (fun n hn => longOf_mem (h n hn))
  rw [List.length_take, Nat.min_eq_left hk] at this
  exact Nat.le_trans this (orderOf_len l)
theorem longsGo_some {l : List Spot} {keep : List Int} {k : Nat} {n x : Int} (h : keep[k]? = some n) (hx : longOf l n = some x) : longsGo l (keep.drop k) = (longsGo l (keep.drop (k + 1))).map (x :: ·) := by
  obtain ⟨hk, rfl⟩ := List.getElem?_eq_some_iff.1 h
  rw [List.drop_eq_getElem_cons hk, longsGo, hx]
theorem longsGo_none {l : List Spot} {keep : List Int} {k : Nat} {n : Int} (h : keep[k]? = some n) (hx : longOf l n = none) : longsGo l (keep.drop k) = none := by
  obtain ⟨hk, rfl⟩ := List.getElem?_eq_some_iff.1 h
  rw [List.drop_eq_getElem_cons hk, longsGo, hx]
theorem planLongs_e {a : List Nat} {keep pinned : List Int} (h : ¬ (walkCheck a).2 = 0) : planLongs a keep pinned = ([], (walkCheck a).2) := by rw [planLongs, if_pos h]
theorem planLongs_r {a : List Nat} {keep pinned : List Int} (h : (walkCheck a).2 = 0) (h' : (rises keep && rises pinned) = false) : planLongs a keep pinned = ([], 3) := by rw [planLongs, if_neg (by simp [h]), if_pos h']
theorem planLongs_n {a : List Nat} {keep pinned : List Int} (h : (walkCheck a).2 = 0) (h' : (rises keep && rises pinned) = true) (h2 : longsGo (walkSpots a).1 keep = none) : planLongs a keep pinned = ([], 5) := by rw [planLongs, if_neg (by simp [h]), if_neg (by simp [h']), h2]
theorem planLongs_p {a : List Nat} {keep pinned L : List Int} (h : (walkCheck a).2 = 0) (h' : (rises keep && rises pinned) = true) (h2 : longsGo (walkSpots a).1 keep = some L) : planLongs a keep pinned = if pinned.any (fun n => !hasI keep n) = true then ([], 5) else (L, 0) := by rw [planLongs, if_neg (by simp [h]), if_neg (by simp [h']), h2]

set_option maxRecDepth 100000 in
set_option maxHeartbeats 4000000 in
theorem planLongs_any (A D E : Option Addr) (c d f : Nat) (a : List Nat) (keep pinned : List Int) (w : World) (hp : Rd eU64 w A a) (hq : Rd eInt w D keep) (hr : Rd eInt w E pinned) (hac : a.length ≤ c) (hm : c ≤ maxLen) (hkm : keep.length ≤ maxLen) (hpm : pinned.length ≤ maxLen) (ha : Words64 a) :
    Calls Try.prog 127 #[.slice A a.length c, .slice D keep.length d, .slice E pinned.length f] w (OwnRet1 eInt 3 w (planLongs a keep pinned).1 (.int .i64 (planLongs a keep pinned).2)) := by
  have heg1 : Enters Try.prog 153 := enters Try.func153 (by kernel_rfl) (by kernel_rfl)
  have heg2 : Enters Try.prog 154 := enters Try.func154 (by kernel_rfl) (by kernel_rfl)
  have HC : Hid (∀ W, Rd eU64 W A a → Calls Try.prog 90 #[.slice A a.length c] W (Ret (.int .i64 (walkCheck a).2) W)) := fun W h => walkCheck_any A c a W h hac hm ha
  have HK : Hid (∀ W, Rd eInt W D keep → Calls Try.prog 152 #[.slice D keep.length d] W (Ret (.bool (rises keep)) W)) := fun W h => planRises_any D d keep W h hkm
  have HP : Hid (∀ W, Rd eInt W E pinned → Calls Try.prog 152 #[.slice E pinned.length f] W (Ret (.bool (rises pinned)) W)) := fun W h => planRises_any E f pinned W h hpm
  by_cases hc : (walkCheck a).2 = 0
  · cases hk : rises keep
    · have HV := Lib.hid (planLongs_r (keep := keep) (pinned := pinned) hc (by rw [hk]; rfl))
      rw [HV.out]
      rw [hc] at HC
      rw [hk] at HK
      clear hc hk
      go_enter Try.func127, Try.ntmps127
      go_wp2_with (first
        | (go_at_call 90; refine (HC.out _ (hp.alloc _)).mono ?_; rintro e w1 ⟨rfl, hb1⟩
           obtain ⟨hc1, hf1⟩ := bcell hb1
           have hb01 : Below w.heap.size w w1 := ((Below.refl _ _).alloc (Nat.le_refl _) _).trans (hb1.mono (alloc_le _ _)))
        | (go_at_call 152; refine (HK.out _ (hq.below hb01)).mono ?_; rintro e w2 ⟨rfl, hb2⟩))
      go_ret2
      exact ⟨_, rfl, Own.nil, hb01.trans (hb2.mono hb01.size)⟩
    · cases hpn : rises pinned
      · have HV := Lib.hid (planLongs_r (keep := keep) (pinned := pinned) hc (by rw [hk, hpn]; rfl))
        rw [HV.out]
        rw [hc] at HC
        rw [hk] at HK
        rw [hpn] at HP
        clear hc hk hpn
        go_enter Try.func127, Try.ntmps127
        go_wp2_with (first
          | (go_at_call 90; refine (HC.out _ (hp.alloc _)).mono ?_; rintro e w1 ⟨rfl, hb1⟩
             obtain ⟨hc1, hf1⟩ := bcell hb1
             have hb01 : Below w.heap.size w w1 := ((Below.refl _ _).alloc (Nat.le_refl _) _).trans (hb1.mono (alloc_le _ _)))
          | (go_at_call 152; refine (HK.out _ (hq.below hb01)).mono ?_; rintro e w2 ⟨rfl, hb2⟩
             have hb02 := hb01.trans (hb2.mono hb01.size)
             clear HK)
          | (go_at_call 152; refine (HP.out _ (hr.below hb02)).mono ?_; rintro e w3 ⟨rfl, hb3⟩))
        go_ret2
        exact ⟨_, rfl, Own.nil, hb02.trans (hb3.mono hb02.size)⟩
      · obtain ⟨hs, _, _⟩ := walkCheck_spots hc
        have hall := walkSpots_all hs
        have h256 := walkSpots_len (a := a)
        have hrb : (rises keep && rises pinned) = true := by rw [hk, hpn]; rfl
        have HVn := Lib.hid (fun h => planLongs_n (keep := keep) (pinned := pinned) hc hrb h)
        have HVp := Lib.hid (fun L h => planLongs_p (keep := keep) (pinned := pinned) (L := L) hc hrb h)
        obtain ⟨l, hl⟩ : ∃ l, (walkSpots a).1 = l := ⟨_, rfl⟩
        have HS : Hid (∀ W, Rd eU64 W A a → Calls Try.prog 103 #[.slice A a.length c] W (OwnRet1 eSpot 178 W l (.int .i64 0))) := fun W h => by
          have := walkSpots_any A c a W h (Nat.le_trans hac hm) ha
          rw [hs, hl] at this; exact this
        rw [hl] at hall h256 HVn HVp
        have HALL := Lib.hid hall
        have HRK := Lib.hid hk
        rw [hc] at HC
        rw [hk] at HK
        rw [hpn] at HP
        clear hc hk hpn hrb hs hall hl
        have hml : l.length ≤ maxLen := by simp [maxLen]; omega
        have hkm' := hkm
        unfold maxLen at hkm'
        go_enter Try.func127, Try.ntmps127
        go_wp2_with (first
          | (go_at_call 90; refine (HC.out _ (hp.alloc _)).mono ?_; rintro e w1 ⟨rfl, hb1⟩
             obtain ⟨hc1, hf1⟩ := bcell hb1
             have hb01 : Below w.heap.size w w1 := ((Below.refl _ _).alloc (Nat.le_refl _) _).trans (hb1.mono (alloc_le _ _))
             have q1 : w1.heap[w.heap.size]? = some (.cells #[.slice D keep.length d] 47 (0, 0)) := heap_below (heap_alloc_new w _) hb1)
          | (go_at_call 152; refine (HK.out _ (hq.below hb01)).mono ?_; rintro e w2 ⟨rfl, hb2⟩
             have hb02 := hb01.trans (hb2.mono hb01.size)
             have q2 := heap_below q1 hb2
             clear HK)
          | (go_at_call 152; refine (HP.out _ (hr.below hb02)).mono ?_; rintro e w3 ⟨rfl, hb3⟩
             have hb03 := hb02.trans (hb3.mono hb02.size)
             have q3 := heap_below q2 hb3)
          | (go_at_call 103; refine (HS.out _ (hp.below hb03)).mono ?_; rintro e w4 ⟨v4, rfl, hown4, hb4⟩
             have hb04 := hb03.trans (hb4.mono hb03.size)
             have q4 := heap_below q3 hb4
             have hrd := hown4.rd
             obtain ⟨A', c', rfl, _, _, hrd⟩ := hrd
             have e4 : w4.cell? ⟨w.heap.size, 0, none⟩ = some (.slice D keep.length d) := by rw [bcells q4 0]; rfl))
        have hq4 := hq.below hb04
        have hr4 := hr.below hb04
        go_loopw [11, 37] (fun v i wr => ∃ (k : Nat) (L : List Int), k ≤ keep.length ∧ i = .int .i64 k ∧ Hid (longsGo l keep = (longsGo l (keep.drop k)).map (L ++ ·)) ∧ L.length = k ∧ Hid (∀ n ∈ keep.take k, (longOf l n).isSome = true) ∧ Own eInt 3 wr w4.heap.size v L ∧ Below w4.heap.size w4 wr) (fun _ i _ => keep.length - (intOf i).toNat)
        case atStart => exact ⟨0, [], by omega, rfl, by show _ = _; simp, rfl, fun n h => by simp at h, Own.nil, Below.refl _ _⟩
        case round =>
          obtain ⟨k, L, hk, rfl, hG, hLk, hFd, hown, hb5⟩ := hrel
          have hk256 : k ≤ 256 := Nat.le_trans (found_len HRK.out hk hFd.out) h256
          by_cases hlt : k < keep.length
          · obtain ⟨y, hy⟩ : ∃ y, keep[k]? = some y := ⟨keep[k], List.getElem?_eq_getElem hlt⟩
            obtain ⟨b5, off5, rfl, hlt5, cy⟩ := (hq4.below hb5).int hy
            have HY := Lib.hid hy
            clear hy
            have qb := heap_alloc_new wr (.cells #[.int .i64 y] 3)
            cases hf : l.findIdx? (liveAt y) with
            | none =>
              have hno : longOf l y = none := by
                unfold longOf
                rw [List.find?_eq_none.2 (by rw [List.findIdx?_eq_none_iff] at hf; intro x hx; simpa using hf x hx)]; rfl
              have HV : Hid (planLongs a keep pinned = ([], 5)) := HVn.out (by rw [hG.out, longsGo_none HY.out hno]; rfl)
              have HI := Lib.hid (idxI_none hf)
              clear hf hno
              go_wp2_with (go_at_call 99; refine (indexFuncSpot _ _ _ _ ((hrd.below hb5).alloc _) hml _ _ (liveAt y) heg1 (fun x _ W hW => planLongs1 x W _ _ y qb hW)).mono ?_; rw [HI.out]; rintro e w6 ⟨rfl, hb6⟩)
              go_ret2
              exact ⟨_, by rw [HV.out]; rfl, by rw [HV.out]; exact Own.nil, ((hb04.trans (hb5.mono hb04.size)).alloc (Nat.le_trans hb04.size hb5.size) _).trans (hb6.mono (Nat.le_trans hb04.size (Nat.le_trans hb5.size (alloc_le _ _))))⟩
            | some j =>
              obtain ⟨hj, hpj, hbef⟩ := List.findIdx?_eq_some_iff_getElem.1 hf
              obtain ⟨s, hx⟩ : ∃ s, l[j]? = some s := ⟨l[j], List.getElem?_eq_getElem hj⟩
              have hsx : l[j] = s := by rw [List.getElem?_eq_getElem hj] at hx; injection hx
              have hyes : longOf l y = some (s.head.len : Int) := by
                unfold longOf
                rw [(List.find?_eq_some_iff_getElem (xs := l) (p := liveAt y) (b := s)).2 ⟨by rw [← hsx]; exact hpj, j, hj, hsx, fun i hi => by simpa using hbef i hi⟩]; rfl
              have hsp := HALL.out s (List.mem_of_getElem? hx)
              obtain ⟨m, hm2⟩ : ∃ m, s.head.len = m := ⟨_, rfl⟩
              have HQ : Hid (∀ W, Calls Try.prog 81 #[.agg #[.int .i64 s.head.refs, .int .i64 s.head.body, .int .i64 s.head.tag, .bool s.head.free]] W (Ret (.tuple #[.int .i64 m, .int .i64 0]) W)) := fun W => headLong_ok s.head m hsp.check hm2 W
              have hG2 : Hid (longsGo l keep = (longsGo l (keep.drop (k + 1))).map ((L ++ [(m : Int)]) ++ ·)) := by
                show _ = _
                rw [hG.out, longsGo_some HY.out hyes, Option.map_map, hm2]
                congr 1
                funext z
                simp
              have hF2 : Hid (∀ n ∈ keep.take (k + 1), (longOf l n).isSome = true) := fun n hn => by
                rw [List.take_add_one, HY.out] at hn
                rcases List.mem_append.1 hn with hn | hn
                · exact hFd.out n hn
                · simp at hn; rw [hn, hyes]; rfl
              have HI := Lib.hid (idxI_some hf)
              have HX := Lib.hid hx
              have hj0 : (0 : Int) ≤ (j : Int) := by omega
              have hj1 : (j : Int) < (l.length : Int) := by omega
              have h63 : L.length + ([(m : Int)] : List Int).length ≤ maxLen := by simp [maxLen]; omega
              have hby : (L.length + ([(m : Int)] : List Int).length) * 8 ≤ 140737488355328 := by simp; omega
              clear hf hpj hbef hx hsx hyes hsp hm2
              go_wp2_with (first
                | (go_at_call 99; refine (indexFuncSpot _ _ _ _ ((hrd.below hb5).alloc _) hml _ _ (liveAt y) heg1 (fun x _ W hW => planLongs1 x W _ _ y qb hW)).mono ?_; rw [HI.out]; rintro e w6 ⟨rfl, hb6⟩
                   have hb56 : Below wr.heap.size wr w6 := ((Below.refl _ _).alloc (Nat.le_refl _) _).trans (hb6.mono (alloc_le _ _))
                   obtain ⟨b7, off7, rfl, hlt7, c0, c1, c2, c3, c4⟩ := ((hrd.below hb5).below hb56).spot HX.out)
                | (go_at_call 81; refine (HQ.out _).mono ?_; rintro e w7 ⟨rfl, hb7⟩
                   have hb57 := hb56.trans (hb7.mono hb56.size)
                   have hown7 := hown.below hb57
                   have hb47 : Below w4.heap.size w4 w7 := hb5.trans (hb57.mono hb5.size))
                | (at_builtin; refine wpList_append_Own (news := [(m : Int)]) rfl (.tmp 55) (.tmp 57) rfl tyInt (hown7.alloc _) (Rd.of_block (heap_alloc_new _ _) rfl) rfl 1 1 rfl rfl (Nat.le_trans hb47.size (alloc_le _ _)) h63 hby ?_; intro v' w8 hown8 hgr8 hat8))
              go_roundw
              case rel => exact ⟨k + 1, L ++ [(m : Int)], by omega, by go_num, hG2, by simp; omega, hF2, hown8, (hb47.alloc hb47.size _).grown hgr8 (Nat.le_trans hb47.size (alloc_le _ _)) (fun g hg => (hown7.lt g hg).1)⟩
              case measure => simp [intOf]; omega
          · have hGe : Hid (longsGo l keep = some L) := by
              show _ = _
              rw [hG.out, List.drop_of_length_le (by omega), longsGo]; simp
            have HV : Hid (planLongs a keep pinned = if pinned.any (fun n => !hasI keep n) = true then ([], 5) else (L, 0)) := HVp.out L hGe.out
            have q5 := heap_below q4 hb5
            have hq5 := hq4.below hb5
            have hb05 := hb04.trans (hb5.mono hb04.size)
            have HQ := Lib.hid (containsFuncInt_any E f pinned wr (hr4.below hb5) hpm _ #[.pointer (some ⟨w.heap.size, 0, none⟩)] (fun n => !hasI keep n) heg2 (fun x _ W hW => planLongs2 x W wr _ D d keep hq5 hkm q5 hW))
            cases hany : pinned.any (fun n => !hasI keep n)
            · rw [hany] at HV HQ
              have HV2 : Hid (planLongs a keep pinned = (L, 0)) := by show _ = _; rw [HV.out]; rfl
              clear hany HV
              go_wp2_with (go_at_call 108; refine HQ.out.mono ?_; rintro e w6 ⟨rfl, hb6⟩)
              go_ret2
              exact ⟨_, by rw [HV2.out]; rfl, by rw [HV2.out]; exact (hown.below hb6).mono hb04.size, hb05.trans (hb6.mono hb05.size)⟩
            · rw [hany] at HV HQ
              have HV2 : Hid (planLongs a keep pinned = ([], 5)) := by show _ = _; rw [HV.out]; rfl
              clear hany HV
              go_wp2_with (go_at_call 108; refine HQ.out.mono ?_; rintro e w6 ⟨rfl, hb6⟩)
              go_ret2
              exact ⟨_, by rw [HV2.out]; rfl, by rw [HV2.out]; exact Own.nil, hb05.trans (hb6.mono hb05.size)⟩
  · have HV := Lib.hid (planLongs_e (keep := keep) (pinned := pinned) hc)
    rw [HV.out]
    obtain ⟨r, hr⟩ : ∃ r, (walkCheck a).2 = r := ⟨_, rfl⟩
    rw [hr] at hc HC ⊢
    have z : (r != 0) = true := by simp [hc]
    clear hc hr HV
    go_enter Try.func127, Try.ntmps127
    go_wp2_with (go_at_call 90; refine (HC.out _ (hp.alloc _)).mono ?_; rintro e w1 ⟨rfl, hb1⟩)
    go_ret2
    exact ⟨_, rfl, Own.nil, ((Below.refl _ _).alloc (Nat.le_refl _) _).trans (hb1.mono (alloc_le _ _))⟩
end Go.Proofs.Ythkenhbpimddpaa
namespace Go.Proofs.Ythkenhbpimddpaa
open Go.RowKit

theorem slidGo_at {pinned ns xs : List Int} {k : Nat} {n x : Int} (hn : ns[k]? = some n) (hx : xs[k]? = some x) (e : Int) : slidGo pinned (ns.drop k) (xs.drop k) e = (if hasI pinned n = true then n else e) :: slidGo pinned (ns.drop (k + 1)) (xs.drop (k + 1)) ((if hasI pinned n = true then n else e) + x) := by
  obtain ⟨h1, rfl⟩ := List.getElem?_eq_some_iff.1 hn
  obtain ⟨h2, rfl⟩ := List.getElem?_eq_some_iff.1 hx
  rw [List.drop_eq_getElem_cons h1, List.drop_eq_getElem_cons h2, slidGo]
theorem slidGo_end {pinned ns xs : List Int} {k : Nat} (hn : ¬ k < ns.length) (e : Int) : slidGo pinned (ns.drop k) (xs.drop k) e = [] := by
  rw [List.drop_of_length_le (by omega)]
  simp [slidGo]

set_option maxRecDepth 100000 in
set_option maxHeartbeats 4000000 in
theorem planSlid_any (D E F : Option Addr) (d e f : Nat) (keep long pinned : List Int) (w : World) (hq : Rd eInt w D keep) (hr : Rd eInt w E long) (hs : Rd eInt w F pinned) (hpm : pinned.length ≤ maxLen)
    (hlen : long.length = keep.length) (hk256 : keep.length ≤ 256) (hkb : ∀ n ∈ keep, 0 ≤ n ∧ n ≤ 256) (hlb : ∀ n ∈ long, 0 ≤ n ∧ n ≤ 256) :
    Calls Try.prog 128 #[.slice D keep.length d, .slice E long.length e, .slice F pinned.length f] w (OwnRet eInt 3 w (slidGo pinned keep long 0)) := by
  have HKB := Lib.hid hkb
  have HLB := Lib.hid hlb
  have HLEN := Lib.hid hlen
  clear hkb hlb hlen
  go_enter Try.func128, Try.ntmps128
  go_wp2_with fail
  go_loopw [7, 8, 13] (fun v ev i wr => ∃ (k : Nat) (x : Int) (L : List Int), k ≤ keep.length ∧ i = .int .i64 k ∧ ev = .int .i64 x ∧ 0 ≤ x ∧ x ≤ (k : Int) * 256 + 256 ∧ Hid (slidGo pinned keep long 0 = L ++ slidGo pinned (keep.drop k) (long.drop k) x) ∧ L.length = k ∧ Own eInt 3 wr w.heap.size v L ∧ Below w.heap.size w wr) (fun _ _ i _ => keep.length - (intOf i).toNat)
  case atStart => exact ⟨0, 0, [], by omega, rfl, rfl, by omega, by omega, by show _ = _; simp, rfl, Own.nil, Below.refl _ _⟩
  case round =>
    obtain ⟨k, x, L, hk, rfl, rfl, hx0, hxb, hS, hLk, hown, hb⟩ := hrel
    by_cases hlt : k < keep.length
    · obtain ⟨n, hn⟩ : ∃ n, keep[k]? = some n := ⟨keep[k], List.getElem?_eq_getElem hlt⟩
      obtain ⟨y, hy⟩ : ∃ y, long[k]? = some y := ⟨long[k]'(by rw [HLEN.out]; exact hlt), List.getElem?_eq_getElem _⟩
      obtain ⟨b1, o1, rfl, hl1, c1⟩ := (hq.below hb).int hn
      obtain ⟨b2, o2, rfl, hl2, c2⟩ := hr.int hy
      obtain ⟨n1, n2⟩ := HKB.out n (List.mem_of_getElem? hn)
      obtain ⟨y1, y2⟩ := HLB.out y (List.mem_of_getElem? hy)
      have HQ := Lib.hid (containsInt_any F f pinned n wr (hs.below hb) hpm)
      have HA := Lib.hid (slidGo_at (pinned := pinned) hn hy x)
      have hkl : k < long.length := by rw [HLEN.out]; exact hlt
      clear hn hy
      cases hh : hasI pinned n
      · have H1 : Hid (slidGo pinned keep long 0 = (L ++ [x]) ++ slidGo pinned (keep.drop (k + 1)) (long.drop (k + 1)) (x + y)) := by show _ = _; rw [hS.out, HA.out, hh]; simp
        rw [hh] at HQ
        have h63 : L.length + ([x] : List Int).length ≤ maxLen := by simp [maxLen]; omega
        have hby : (L.length + ([x] : List Int).length) * 8 ≤ 140737488355328 := by simp; omega
        clear hh
        go_wp2_with (first
          | (go_at_call 73; refine HQ.out.mono ?_; rintro e w1 ⟨rfl, hb1⟩
             have hown1 := hown.below hb1
             have hb01 := hb.trans (hb1.mono hb.size))
          | (at_builtin; refine wpList_append_Own (news := [x]) rfl (.tmp 23) (.tmp 25) rfl tyInt (hown1.alloc _) (Rd.of_block (heap_alloc_new _ _) rfl) rfl 1 1 rfl rfl (Nat.le_trans hb01.size (alloc_le _ _)) h63 hby ?_; intro v' w8 hown8 hgr8 hat8
             have hb08 := (hb01.alloc hb01.size _).grown hgr8 (Nat.le_trans hb01.size (alloc_le _ _)) (fun g hg => (hown1.lt g hg).1)
             have c4 : w8.cell? ⟨b2, o2 + k, none⟩ = some (.int .i64 y) := (hb08.cell (p := ⟨b2, o2 + k, none⟩) hl2).trans c2))
        go_roundw
        case rel => exact ⟨k + 1, x + y, L ++ [x], by omega, by go_num, rfl, by omega, by omega, H1, by simp; omega, hown8, hb08⟩
        case measure => simp [intOf]; omega
      · have H1 : Hid (slidGo pinned keep long 0 = (L ++ [n]) ++ slidGo pinned (keep.drop (k + 1)) (long.drop (k + 1)) (n + y)) := by show _ = _; rw [hS.out, HA.out, hh]; simp
        rw [hh] at HQ
        have h63 : L.length + ([n] : List Int).length ≤ maxLen := by simp [maxLen]; omega
        have hby : (L.length + ([n] : List Int).length) * 8 ≤ 140737488355328 := by simp; omega
        clear hh
        go_wp2_with (first
          | (go_at_call 73; refine HQ.out.mono ?_; rintro e w1 ⟨rfl, hb1⟩
             have hown1 := hown.below hb1
             have hb01 := hb.trans (hb1.mono hb.size))
          | (at_builtin; refine wpList_append_Own (news := [n]) rfl (.tmp 23) (.tmp 25) rfl tyInt (hown1.alloc _) (Rd.of_block (heap_alloc_new _ _) rfl) rfl 1 1 rfl rfl (Nat.le_trans hb01.size (alloc_le _ _)) h63 hby ?_; intro v' w8 hown8 hgr8 hat8
             have hb08 := (hb01.alloc hb01.size _).grown hgr8 (Nat.le_trans hb01.size (alloc_le _ _)) (fun g hg => (hown1.lt g hg).1)
             have c4 : w8.cell? ⟨b2, o2 + k, none⟩ = some (.int .i64 y) := (hb08.cell (p := ⟨b2, o2 + k, none⟩) hl2).trans c2))
        go_roundw
        case rel => exact ⟨k + 1, n + y, L ++ [n], by omega, by go_num, rfl, by omega, by omega, H1, by simp; omega, hown8, hb08⟩
        case measure => simp [intOf]; omega
    · have HV : Hid (slidGo pinned keep long 0 = L) := by show _ = _; rw [hS.out, slidGo_end hlt]; simp
      go_wp2_with fail
      go_ret
      exact ⟨_, rfl, by rw [HV.out]; exact hown, hb⟩
end Go.Proofs.Ythkenhbpimddpaa
namespace Go.Proofs.Ythkenhbpimddpaa
open Go.RowKit

theorem longsGo_all {l : List Spot} {a : List Nat} (hall : ∀ s ∈ l, SpotOk a s) (ha : a.length ≤ 256) {keep L : List Int} (h : longsGo l keep = some L) : L.length = keep.length ∧ (∀ n ∈ keep, 0 ≤ n ∧ n ≤ 256 ∧ n ∈ orderOf l) ∧ (∀ x ∈ L, 0 ≤ x ∧ x ≤ 256) := by
  induction keep generalizing L with
  | nil => rw [longsGo] at h; injection h with h; subst h; exact ⟨rfl, by simp, by simp⟩
  | cons n ns ih =>
    rw [longsGo] at h
    cases hx : longOf l n with
    | none => rw [hx] at h; cases h
    | some x =>
      rw [hx] at h
      simp only [Option.map_eq_some_iff] at h
      obtain ⟨L', hL', rfl⟩ := h
      obtain ⟨i1, i2, i3⟩ := ih hL'
      have hm := longOf_mem (l := l) (n := n) (by rw [hx]; rfl)
      unfold longOf at hx
      simp only [Option.map_eq_some_iff] at hx
      obtain ⟨s, hs, rfl⟩ := hx
      have h1 := List.find?_some hs
      have hok := hall s (List.mem_of_find?_eq_some hs)
      have h2 := hok.lt
      have h3 := hok.fits
      simp [liveAt] at h1
      refine ⟨by simp [i1], fun m hm' => ?_, fun m hm' => ?_⟩
      · rcases List.mem_cons.1 hm' with rfl | hm'
        · exact ⟨by omega, by omega, hm⟩
        · exact i2 m hm'
      · rcases List.mem_cons.1 hm' with rfl | hm'
        · exact ⟨by omega, by omega⟩
        · exact i3 m hm'
theorem planLongs_zero {a : List Nat} {keep pinned : List Int} (h : (planLongs a keep pinned).2 = 0) : (walkCheck a).2 = 0 ∧ rises keep = true ∧ rises pinned = true ∧ longsGo (walkSpots a).1 keep = some (planLongs a keep pinned).1 ∧ pinned.any (fun n => !hasI keep n) = false := by
  by_cases hc : (walkCheck a).2 = 0
  · cases hr : (rises keep && rises pinned)
    · rw [planLongs_r hc hr] at h; exact absurd h (by decide)
    · cases hl : longsGo (walkSpots a).1 keep with
      | none => rw [planLongs_n hc hr hl] at h; exact absurd h (by decide)
      | some L =>
        rw [planLongs_p hc hr hl] at h ⊢
        cases hp : pinned.any (fun n => !hasI keep n)
        · simp only [Bool.and_eq_true] at hr
          exact ⟨hc, hr.1, hr.2, by simp, rfl⟩
        · rw [hp] at h; simp at h
  · rw [planLongs_e hc] at h; exact absurd h hc
def planTo (a : List Nat) (keep pinned : List Int) : List Int × Int := if (planLongs a keep pinned).2 = 0 then (slidGo pinned keep (planLongs a keep pinned).1 0, 0) else ([], (planLongs a keep pinned).2)
theorem planLongs_ok {a : List Nat} {keep pinned : List Int} (h : (planLongs a keep pinned).2 = 0) : (planLongs a keep pinned).1.length = keep.length ∧ keep.length ≤ 256 ∧ (∀ n ∈ keep, 0 ≤ n ∧ n ≤ 256) ∧ (∀ x ∈ (planLongs a keep pinned).1, 0 ≤ x ∧ x ≤ 256) := by
  obtain ⟨hc, hk, _, hl, _⟩ := planLongs_zero h
  have hs := (walkCheck_spots hc).1
  obtain ⟨h1, h2, h3⟩ := longsGo_all (walkSpots_all hs) (walkSpots_zero hs).1 hl
  refine ⟨h1, ?_, fun n hn => ⟨(h2 n hn).1, (h2 n hn).2.1⟩, h3⟩
  exact Nat.le_trans (nodup_le keep _ (rises_nodup hk) (fun n hn => (h2 n hn).2.2)) (Nat.le_trans (orderOf_len _) walkSpots_len)

set_option maxRecDepth 100000 in
set_option maxHeartbeats 4000000 in
theorem planTo_any (A D E : Option Addr) (c d f : Nat) (a : List Nat) (keep pinned : List Int) (w : World) (hp : Rd eU64 w A a) (hq : Rd eInt w D keep) (hr : Rd eInt w E pinned) (hac : a.length ≤ c) (hm : c ≤ maxLen) (hkm : keep.length ≤ maxLen) (hpm : pinned.length ≤ maxLen) (ha : Words64 a) :
    Calls Try.prog 94 #[.slice A a.length c, .slice D keep.length d, .slice E pinned.length f] w (OwnRet1 eInt 3 w (planTo a keep pinned).1 (.int .i64 (planTo a keep pinned).2)) := by
  have HQ := Lib.hid (planLongs_any A D E c d f a keep pinned w hp hq hr hac hm hkm hpm ha)
  by_cases h0 : (planLongs a keep pinned).2 = 0
  · have HV : Hid (planTo a keep pinned = (slidGo pinned keep (planLongs a keep pinned).1 0, 0)) := by show _ = _; rw [planTo, if_pos h0]
    obtain ⟨L, hL⟩ : ∃ L, (planLongs a keep pinned).1 = L := ⟨_, rfl⟩
    have HK := Lib.hid (planLongs_ok h0)
    rw [HV.out]
    rw [h0] at HQ
    rw [hL] at HQ HK ⊢
    clear h0 hL HV
    go_enter Try.func94, Try.ntmps94
    go_wp2_with (first
      | (go_at_call 127; refine HQ.out.mono ?_; rintro e w1 ⟨v, rfl, hown, hb1⟩
         have hrd := hown.rd
         obtain ⟨A', c', rfl, _, _, hrd⟩ := hrd)
      | (go_at_call 128; refine (planSlid_any D A' E d c' f keep L pinned w1 (hq.below hb1) hrd (hr.below hb1) hpm HK.out.1 HK.out.2.1 HK.out.2.2.1 HK.out.2.2.2).mono ?_; rintro e w2 ⟨v2, rfl, hown2, hb2⟩))
    go_ret2
    exact ⟨_, rfl, hown2.mono hb1.size, hb1.trans (hb2.mono hb1.size)⟩
  · have HV : Hid (planTo a keep pinned = ([], (planLongs a keep pinned).2)) := by show _ = _; rw [planTo, if_neg h0]
    obtain ⟨r, hr'⟩ : ∃ r, (planLongs a keep pinned).2 = r := ⟨_, rfl⟩
    rw [HV.out]
    rw [hr'] at HQ h0 ⊢
    have z : (r != 0) = true := by simp [h0]
    clear h0 hr' HV
    go_enter Try.func94, Try.ntmps94
    go_wp2_with (go_at_call 127; refine HQ.out.mono ?_; rintro e w1 ⟨v, rfl, hown, hb1⟩)
    go_ret2
    exact ⟨_, rfl, Own.nil, hb1⟩
end Go.Proofs.Ythkenhbpimddpaa
namespace Go.Proofs.Ythkenhbpimddpaa
open Go.RowKit

structure Run where
  at_ : Int
  long : Int
deriving DecidableEq, Inhabited
def eRun : El Run := { k := 2, enc := fun p => [.int .i64 p.at_, .int .i64 p.long], zero := ⟨0, 0⟩, len := fun _ => rfl, pos := by omega, one := fun x u h => by simp at h; rcases h with rfl | rfl <;> rfl }
theorem tyRun : Ty eRun Try.prog 166 170 16 := Ty.mk' (z := .agg #[.int .i64 0, .int .i64 0]) Try.underlying166 (by kernel_rfl) (by kernel_rfl)
theorem Rd.run {w : World} {A : Option Addr} {l : List Run} (h : Rd eRun w A l) {k : Nat} {x : Run} (hx : l[k]? = some x) : ∃ b off, A = some ⟨b, off, none⟩ ∧ b < w.heap.size ∧ w.cell? ⟨b, off + k * 2, none⟩ = some (.int .i64 x.at_) ∧ w.cell? ⟨b, off + k * 2 + 1, none⟩ = some (.int .i64 x.long) := by
  obtain ⟨b, off, hA, hb, hc⟩ := h k x hx
  exact ⟨b, off, hA, hb, hc 0 _ rfl, hc 1 _ rfl⟩
def gapAdd (R : List Run) (e at_ : Int) : List Run := if at_ > e then R ++ [⟨e, at_ - e⟩] else R
/-- what Gaps keeps: in box ge the end, in box go the row of runs, which lies from B on -/
def GapsIs (w : World) (B ge go : Nat) (e : Int) (R : List Run) : Prop :=
  ge < B ∧ go < B ∧ ∃ v, w.heap[ge]? = some (.cells #[.int .i64 e] 3 (0, 0)) ∧ w.heap[go]? = some (.cells #[v] 166 (0, 0)) ∧ Own eRun 170 w B v R

set_option maxRecDepth 100000 in
set_option maxHeartbeats 2000000 in
theorem gapsAdd (w : World) (B ge go : Nat) (e n : Int) (R : List Run) (h : GapsIs w B ge go e R) (hlen : R.length ≤ 1000000) (hB : B ≤ w.heap.size) (he : 0 ≤ e ∧ e ≤ 1000000) (hn : 0 ≤ n ∧ n ≤ 1000000) :
    Calls Try.prog 129 #[.int .i64 n, .pointer (some ⟨ge, 0, none⟩), .pointer (some ⟨go, 0, none⟩)] w (fun en w' => en = .returned (.tuple #[]) ∧ GapsIs w' B ge go e (gapAdd R e n) ∧ GrownS (fun i => i = ge ∨ i = go ∨ B ≤ i) w w') := by
  obtain ⟨hg1, hg2, v, q1, q2, hown⟩ := h
  have c1 : w.cell? ⟨ge, 0, none⟩ = some (.int .i64 e) := by rw [bcells q1 0]; rfl
  have c2 : w.cell? ⟨go, 0, none⟩ = some v := by rw [bcells q2 0]; rfl
  obtain ⟨he1, he2⟩ := he
  obtain ⟨hn1, hn2⟩ := hn
  by_cases hgt : n > e
  · have HV : Hid (gapAdd R e n = R ++ [⟨e, n - e⟩]) := if_pos hgt
    have h63 : R.length + ([⟨e, n - e⟩] : List Run).length ≤ maxLen := by simp [maxLen]; omega
    have hby : (R.length + ([⟨e, n - e⟩] : List Run).length) * 16 ≤ 140737488355328 := by simp; omega
    have hneo : v.ownBlock ≠ some go := own_ne hown q2 (by decide)
    have hneg : v.ownBlock ≠ some ge := own_ne hown q1 (by decide)
    have hngg : ge ≠ go := fun e => by rw [e, q2] at q1; injection q1 with h1; injection h1 with _ h2; exact absurd h2 (by decide)
    have hl3 : go < (w.alloc (.cells (eRun.flat [⟨e, n - e⟩]).toArray 170)).heap.size := Nat.lt_of_lt_of_le (Array.getElem?_eq_some_iff.1 q2).1 (alloc_le _ _)
    have hl4 : ge < (w.alloc (.cells (eRun.flat [⟨e, n - e⟩]).toArray 170)).heap.size := Nat.lt_of_lt_of_le (Array.getElem?_eq_some_iff.1 q1).1 (alloc_le _ _)
    go_enter Try.func129, Try.ntmps129
    go_wp2_with (at_builtin; refine wpList_append_Own (news := [(⟨e, n - e⟩ : Run)]) rfl (.tmp 7) (.tmp 13) rfl tyRun (hown.alloc _) (Rd.of_block (heap_alloc_new _ _) rfl) rfl 1 1 rfl rfl (Nat.le_trans hB (alloc_le _ _)) h63 hby ?_; intro v' w2 hown2 hgr2 hat
                 have q22 : w2.heap[go]? = some (.cells #[v] 166 (0, 0)) := (hgr2.block _ hl3 (fun e => hneo e.symm)).trans (heap_alloc_keep q2)
                 have q21 : w2.heap[ge]? = some (.cells #[.int .i64 e] 3 (0, 0)) := (hgr2.block _ hl4 (fun e => hneg e.symm)).trans (heap_alloc_keep q1)
                 have c22 : w2.cell? ⟨go, 0, none⟩ = some v := by rw [bcells q22 0]; rfl
                 have f22 : w2.frozen? ⟨go, 0, none⟩ = false := own_free q22
                 obtain ⟨A6, c6, rfl, _, _, _⟩ := hown2.rd)
    have hl6 : (R ++ [(⟨e, n - e⟩ : Run)]).length = R.length + 1 := by simp
    rw [hl6] at hown2
    go_end0
    refine ⟨rfl, ?_, ?_⟩
    · rw [HV.out]
      refine ⟨hg1, hg2, _, ?_, box_set q22, hown2.box q22 (by decide) 0 _⟩
      rw [Below.heap_setCell _ _ _ _ hngg]; exact q21
    · exact (((GrownS.refl _ w).alloc _).grown hgr2 (fun g hg => .inl (.inr (.inr (hown.lt g hg).1)))).setCell (p := ⟨go, 0, none⟩) (.inl (.inr (.inl rfl))) _
  · have HV : Hid (gapAdd R e n = R) := if_neg hgt
    go_enter Try.func129, Try.ntmps129
    go_wp2_with fail
    go_end0
    exact ⟨rfl, by rw [HV.out]; exact ⟨hg1, hg2, v, q1, q2, hown⟩, GrownS.refl _ _⟩
end Go.Proofs.Ythkenhbpimddpaa
namespace Go.Proofs.Ythkenhbpimddpaa
open Go.RowKit

/-- the runs and the end, behind some places -/
def gapsGo : List Int → List Int → List Run → Int → List Run × Int
  | n :: ns, x :: xs, R, e => gapsGo ns xs (gapAdd R e n) (n + x)
  | _, _, R, e => (R, e)
def planGaps (a : List Nat) (keep pinned : List Int) : List Run × Int :=
  if (planLongs a keep pinned).2 = 0 then
    let r := gapsGo (slidGo pinned keep (planLongs a keep pinned).1 0) (planLongs a keep pinned).1 [] 0
    (gapAdd r.1 r.2 (a.length : Int), 0)
  else ([], (planLongs a keep pinned).2)
theorem gapsGo_at {ns xs : List Int} {k : Nat} {n x : Int} (hn : ns[k]? = some n) (hx : xs[k]? = some x) (R : List Run) (e : Int) : gapsGo (ns.drop k) (xs.drop k) R e = gapsGo (ns.drop (k + 1)) (xs.drop (k + 1)) (gapAdd R e n) (n + x) := by
  obtain ⟨h1, rfl⟩ := List.getElem?_eq_some_iff.1 hn
  obtain ⟨h2, rfl⟩ := List.getElem?_eq_some_iff.1 hx
  rw [List.drop_eq_getElem_cons h1, List.drop_eq_getElem_cons h2, gapsGo]
theorem gapsGo_end {ns xs : List Int} {k : Nat} (hn : ¬ k < ns.length) (R : List Run) (e : Int) : gapsGo (ns.drop k) (xs.drop k) R e = (R, e) := by
  rw [List.drop_of_length_le (by omega)]
  simp [gapsGo]
theorem slidGo_len {pinned : List Int} : ∀ (ns xs : List Int) (e : Int), xs.length = ns.length → (slidGo pinned ns xs e).length = ns.length
  | [], _, _, _ => by simp [slidGo]
  | n :: ns, [], _, h => by simp at h
  | n :: ns, x :: xs, e, h => by
    rw [slidGo]
    simp only [List.length_cons]
    rw [slidGo_len ns xs _ (by simpa using h)]
theorem slidGo_bound {pinned : List Int} : ∀ (ns xs : List Int) (e : Int), 0 ≤ e → (∀ n ∈ ns, 0 ≤ n ∧ n ≤ 256) → (∀ x ∈ xs, 0 ≤ x ∧ x ≤ 256) → ∀ y ∈ slidGo pinned ns xs e, 0 ≤ y ∧ y ≤ e + 1024 * (ns.length : Int)
  | [], _, _, _, _, _ => by simp [slidGo]
  | n :: ns, [], _, _, _, _ => by simp [slidGo]
  | n :: ns, x :: xs, e, he, hn, hx => by
    intro y hy
    rw [slidGo] at hy
    have h1 := hn n (List.mem_cons_self ..)
    have h2 := hx x (List.mem_cons_self ..)
    simp only [List.length_cons]
    rcases List.mem_cons.1 hy with rfl | hy
    · split <;> omega
    · have ih := slidGo_bound ns xs _ (by split <;> omega) (fun m hm => hn m (List.mem_cons_of_mem _ hm)) (fun m hm => hx m (List.mem_cons_of_mem _ hm)) y hy
      split at ih <;> omega
end Go.Proofs.Ythkenhbpimddpaa
namespace Go.Proofs.Ythkenhbpimddpaa
open Go.RowKit

theorem gapsAdd' (w : World) (B ge go : Nat) (e n : Int) (R : List Run) (h : GapsIs w B ge go e R) (hlen : R.length ≤ 1000000) (hB : B ≤ w.heap.size) (he : 0 ≤ e ∧ e ≤ 1000000) (hn : 0 ≤ n ∧ n ≤ 1000000) :
    Calls Try.prog 129 (#[.int .i64 n] ++ #[.pointer (some ⟨ge, 0, none⟩), .pointer (some ⟨go, 0, none⟩)]) w (fun en w' => en = .returned (.tuple #[]) ∧ GapsIs w' B ge go e (gapAdd R e n) ∧ GrownS (fun i => i = ge ∨ i = go ∨ B ≤ i) w w') := by
  simpa using gapsAdd w B ge go e n R h hlen hB he hn
theorem gapAdd_len {R : List Run} {e n : Int} : (gapAdd R e n).length ≤ R.length + 1 := by
  unfold gapAdd
  split <;> simp

set_option maxRecDepth 100000 in
set_option maxHeartbeats 4000000 in
theorem planGaps_any (A D E : Option Addr) (c d f : Nat) (a : List Nat) (keep pinned : List Int) (w : World) (hp : Rd eU64 w A a) (hq : Rd eInt w D keep) (hr : Rd eInt w E pinned) (hac : a.length ≤ c) (hm : c ≤ maxLen) (hkm : keep.length ≤ maxLen) (hpm : pinned.length ≤ maxLen) (ha : Words64 a) :
    Calls Try.prog 95 #[.slice A a.length c, .slice D keep.length d, .slice E pinned.length f] w (OwnRet1 eRun 170 w (planGaps a keep pinned).1 (.int .i64 (planGaps a keep pinned).2)) := by
  have HQ := Lib.hid (planLongs_any A D E c d f a keep pinned w hp hq hr hac hm hkm hpm ha)
  have heg : Enters Try.prog 129 := enters Try.func129 (by kernel_rfl) (by kernel_rfl)
  by_cases h0 : (planLongs a keep pinned).2 = 0
  · obtain ⟨L, hL⟩ : ∃ L, (planLongs a keep pinned).1 = L := ⟨_, rfl⟩
    have hal : a.length ≤ 256 := (walkSpots_zero (walkCheck_spots (planLongs_zero h0).1).1).1
    have hok := planLongs_ok h0
    rw [hL] at hok
    obtain ⟨k1, k2, k3, k4⟩ := hok
    obtain ⟨T, hT⟩ : ∃ T, slidGo pinned keep L 0 = T := ⟨_, rfl⟩
    have HV : Hid (planGaps a keep pinned = (gapAdd (gapsGo T L [] 0).1 (gapsGo T L [] 0).2 (a.length : Int), 0)) := by show _ = _; rw [planGaps, if_pos h0, hL, hT]
    have hTl : T.length = keep.length := by rw [← hT]; exact slidGo_len keep L 0 k1
    have hTb := slidGo_bound (pinned := pinned) keep L 0 (by omega) k3 k4
    rw [hT] at hTb
    have HSL : Hid (∀ W A' c', Rd eInt W D keep → Rd eInt W A' L → Rd eInt W E pinned → Calls Try.prog 128 #[.slice D keep.length d, .slice A' L.length c', .slice E pinned.length f] W (OwnRet eInt 3 W T)) := fun W A' c' h1 h2 h3 => by
      have := planSlid_any D A' E d c' f keep L pinned W h1 h2 h3 hpm k1 k2 k3 k4
      rw [hT] at this; exact this
    rw [HV.out]
    rw [h0, hL] at HQ
    have HB : Hid (T.length = keep.length ∧ keep.length ≤ 256 ∧ L.length = keep.length ∧ (∀ y ∈ T, 0 ≤ y ∧ y ≤ 300000) ∧ (∀ x ∈ L, 0 ≤ x ∧ x ≤ 256)) := ⟨hTl, k2, k1, fun y hy => by have := hTb y hy; omega, k4⟩
    clear h0 hL HV hT hTl hTb k1 k2 k3 k4
    unfold Enters at heg
    go_enter Try.func95, Try.ntmps95
    go_wp2_with (first
      | (go_at_call 127; refine HQ.out.mono ?_; rintro e w1 ⟨v, rfl, hown, hb1⟩
         have hrd := hown.rd
         obtain ⟨A', c', rfl, _, _, hrd⟩ := hrd
         have hbb : Below w.heap.size w ((w1.alloc (.cells #[.slice none 0 0] 166)).alloc (.cells #[.int .i64 0] 3)) := (hb1.alloc hb1.size _).alloc (Nat.le_trans hb1.size (alloc_le _ _)) _)
      | (go_at_call 128; refine (HSL.out _ A' c' (hq.below hbb) ((hrd.alloc _).alloc _) (hr.below hbb)).mono ?_; rintro e w2 ⟨v2, rfl, hown2, hb2⟩
         have hrd2 := hown2.rd
         obtain ⟨A2, c2, rfl, _, _, hrd2⟩ := hrd2))
    have hs2 : w1.heap.size + 2 ≤ w2.heap.size := Nat.le_trans (by simp) hb2.size
    have hG0 : GapsIs w2 w2.heap.size (w1.heap.size + 1) w1.heap.size 0 [] := ⟨by omega, by omega, .slice none 0 0, heap_below (by rw [← heap_alloc_size w1]; exact heap_alloc_new (w1.alloc _) _) hb2, heap_below (heap_alloc_keep (heap_alloc_new w1 _)) hb2, Own.nil⟩
    have hA2 : ∀ q, A2 = some q → ¬ (q.block = w1.heap.size + 1 ∨ q.block = w1.heap.size ∨ w2.heap.size ≤ q.block) := fun q h => by
      subst h
      have h1 := (hown2.lt q.block rfl).1
      have h2 := (hown2.lt q.block rfl).2
      simp at h1
      omega
    have hAL : ∀ q, A' = some q → ¬ (q.block = w1.heap.size + 1 ∨ q.block = w1.heap.size ∨ w2.heap.size ≤ q.block) := fun q h => by
      subst h
      have h1 := (hown.lt q.block rfl).2
      omega
    have hrdL := hrd.below (((Below.refl _ _).alloc (Nat.le_refl _) _).alloc (alloc_le _ _) _ |>.trans (hb2.mono (Nat.le_trans (alloc_le _ _) (alloc_le _ _))))
    have hb02 : Below w.heap.size w w2 := hbb.trans (hb2.mono hbb.size)
    have hm2 : T.length ≤ 256 := by rw [HB.out.1]; exact HB.out.2.1
    go_loopw [31] (fun i wr => ∃ (k : Nat) (R : List Run) (e : Int), k ≤ T.length ∧ i = .int .i64 k ∧ Hid (gapsGo T L [] 0 = gapsGo (T.drop k) (L.drop k) R e) ∧ R.length ≤ k ∧ 0 ≤ e ∧ e ≤ 1000000 ∧ GapsIs wr w2.heap.size (w1.heap.size + 1) w1.heap.size e R ∧ GrownS (fun i => i = w1.heap.size + 1 ∨ i = w1.heap.size ∨ w2.heap.size ≤ i) w2 wr) (fun i _ => T.length - (intOf i).toNat)
    case atStart => exact ⟨0, [], 0, by omega, rfl, by simp [Hid], by simp, by omega, by omega, hG0, GrownS.refl _ _⟩
    case round =>
      obtain ⟨k, R, e, hk, rfl, hGo, hRk, he1, he2, hI, hG⟩ := hrel
      by_cases hlt : k < T.length
      · obtain ⟨y, hy⟩ : ∃ y, T[k]? = some y := ⟨T[k], List.getElem?_eq_getElem hlt⟩
        obtain ⟨x, hx⟩ : ∃ x, L[k]? = some x := ⟨L[k]'(by rw [HB.out.2.2.1, ← HB.out.1]; exact hlt), List.getElem?_eq_getElem _⟩
        have hyb := HB.out.2.2.2.1 y (List.mem_of_getElem? hy)
        have hxb := HB.out.2.2.2.2 x (List.mem_of_getElem? hx)
        have HS := Lib.hid (gapsGo_at hy hx R e)
        have HADD := Lib.hid (gapsAdd' wr w2.heap.size (w1.heap.size + 1) w1.heap.size e y R hI (by omega) hG.size ⟨he1, he2⟩ ⟨hyb.1, by omega⟩)
        have hlen := gapAdd_len (R := R) (e := e) (n := y)
        have HX := Lib.hid hx
        obtain ⟨b5, off5, rfl, hlt5, cy⟩ := (hrd2.keepS hG hA2).int hy
        clear hy hx
        have hk0 : (0 : Int) ≤ (k : Int) := by omega
        have hk1 : (k : Int) < (L.length : Int) := by rw [HB.out.2.2.1, ← HB.out.1]; omega
        go_wp2_with fail
        refine HADD.out.mono ?_
        rintro e5 w5 ⟨rfl, hI5, hG5⟩
        have hG25 := hG.trans (hG5.weak (fun g hg _ => hg))
        obtain ⟨b6, off6, rfl, hlt6, cx⟩ := (hrdL.keepS hG25 hAL).int HX.out
        have hI5' := hI5
        obtain ⟨j1, j2, v5, p1, p2, p3⟩ := hI5'
        have f1 : w5.frozen? ⟨w1.heap.size + 1, 0, none⟩ = false := own_free p1
        have d1 := bcells p1 0
        clear HADD
        go_wp2_with fail
        go_roundw
        case rel =>
          refine ⟨k + 1, _, y + x, by omega, by go_num, by show _ = _; rw [hGo.out, HS.out], by omega, by omega, by omega, ⟨j1, j2, v5, box_set p1, ?_, p3.box p1 (by decide) 0 _⟩, hG25.setCell (.inl (.inl rfl)) _⟩
          rw [Below.heap_setCell _ _ _ _ (by simp)]; exact p2
        case measure => simp [intOf]; omega
      · have HE : Hid (gapsGo T L [] 0 = (R, e)) := by show _ = _; rw [hGo.out, gapsGo_end hlt]
        have HADD := Lib.hid (gapsAdd' wr w2.heap.size (w1.heap.size + 1) w1.heap.size e (a.length : Int) R hI (by omega) hG.size ⟨he1, he2⟩ ⟨by omega, by omega⟩)
        go_wp2_with fail
        refine HADD.out.mono ?_
        rintro e5 w5 ⟨rfl, hI5, hG5⟩
        have hG25 := hG.trans (hG5.weak (fun g hg _ => hg))
        obtain ⟨j1, j2, v5, p1, p2, p3⟩ := hI5
        have d2 := bcells p2 0
        obtain ⟨A6, c6, rfl, _, _, _⟩ := p3.rd
        go_wp2_with fail
        go_ret2
        exact ⟨_, rfl, by rw [HE.out]; exact p3.mono hb02.size, hb02.trans (hG25.toBelow hb02.size (fun g hg => by have := hb1.size; omega))⟩
  · have HV : Hid (planGaps a keep pinned = ([], (planLongs a keep pinned).2)) := by show _ = _; rw [planGaps, if_neg h0]
    obtain ⟨r, hr'⟩ : ∃ r, (planLongs a keep pinned).2 = r := ⟨_, rfl⟩
    rw [HV.out]
    rw [hr'] at HQ h0 ⊢
    have z : (r != 0) = true := by simp [h0]
    clear h0 hr' HV heg
    go_enter Try.func95, Try.ntmps95
    go_wp2_with (go_at_call 127; refine HQ.out.mono ?_; rintro e w1 ⟨v, rfl, hown, hb1⟩)
    go_ret2
    exact ⟨_, rfl, Own.nil, hb1⟩
end Go.Proofs.Ythkenhbpimddpaa
namespace Go.Proofs.Ythkenhbpimddpaa
open Go.RowKit

def Apart (s t : Spot) : Prop := s.at_ + s.head.len ≤ t.at_
theorem spotsFrom_pair {a : List Nat} {k : Nat} {l : List Spot} (h : spotsFrom a k = some l) : l.Pairwise Apart := by
  induction k using spotsFrom.induct (a := a) generalizing l with
  | case1 k hk hs => rw [spotsFrom_no hk hs] at h; cases h
  | case2 k hk s hs ih =>
    rw [spotsFrom_yes hk hs] at h
    simp only [Option.map_eq_some_iff] at h
    obtain ⟨l', hl', rfl⟩ := h
    rw [List.pairwise_cons]
    refine ⟨fun t ht => ?_, ih hl'⟩
    have h1 := (spotsFrom_all hl' t ht).2
    have h2 := (spotAt_ok hs).1
    unfold Apart
    omega
  | case3 k hk => rw [spotsFrom_end hk] at h; cases h; exact List.Pairwise.nil
theorem walkSpots_pair {a : List Nat} (h : (walkSpots a).2 = 0) : (walkSpots a).1.Pairwise Apart := spotsFrom_pair (walkSpots_zero h).2
theorem apart_or {l : List Spot} (hp : l.Pairwise Apart) {s t : Spot} (hs : s ∈ l) (ht : t ∈ l) : s = t ∨ Apart s t ∨ Apart t s := by
  induction l with
  | nil => cases hs
  | cons x l ih =>
    rw [List.pairwise_cons] at hp
    rcases List.mem_cons.1 hs with hs | hs <;> rcases List.mem_cons.1 ht with ht | ht
    · exact .inl (hs.trans ht.symm)
    · exact .inr (.inl (hs ▸ hp.1 t ht))
    · exact .inr (.inr (ht ▸ hp.1 s hs))
    · exact ih hp.2 hs ht
theorem spot_eq {l : List Spot} (hp : l.Pairwise Apart) {s t : Spot} (hs : s ∈ l) (ht : t ∈ l) (h : s.at_ = t.at_) : s = t := by
  have h1 := s.head.len_pos
  have h2 := t.head.len_pos
  rcases apart_or hp hs ht with h3 | h3 | h3
  · exact h3
  · unfold Apart at h3; omega
  · unfold Apart at h3; omega
theorem spot_lt {l : List Spot} (hp : l.Pairwise Apart) {s t : Spot} (hs : s ∈ l) (ht : t ∈ l) (h : s.at_ < t.at_) : s.at_ + s.head.len ≤ t.at_ := by
  have h2 := t.head.len_pos
  rcases apart_or hp hs ht with h3 | h3 | h3
  · subst h3; omega
  · exact h3
  · unfold Apart at h3; omega
/-- an object that is there, found by whatever asks for its word -/
theorem find_spotOf {a : List Nat} {l : List Spot} {n : Int} (hall : ∀ s ∈ l, SpotOk a s) (hp : l.Pairwise Apart) (h : (headsF l n).isSome = true) (p : Spot → Bool) (h1 : p (spotOf l n) = true) (h2 : ∀ s, p s = true → (s.at_ : Int) = n) : l.find? p = some (spotOf l n) := by
  obtain ⟨hm, _, he, _, _⟩ := spotOf_ok hall h
  cases hf : l.find? p with
  | none =>
    rw [List.find?_eq_none] at hf
    exact absurd h1 (hf _ hm)
  | some s =>
    have h3 := List.find?_some hf
    have h4 := List.mem_of_find?_eq_some hf
    have h5 := h2 s h3
    rw [spot_eq hp h4 hm (by omega)]
theorem longOf_spot {a : List Nat} {l : List Spot} {n : Int} (hall : ∀ s ∈ l, SpotOk a s) (hp : l.Pairwise Apart) (h : (headsF l n).isSome = true) : longOf l n = some ((spotOf l n).head.len : Int) := by
  obtain ⟨_, _, he, _, hf⟩ := spotOf_ok hall h
  unfold longOf
  rw [find_spotOf hall hp h (liveAt n) (by simp [liveAt, he, hf]) (fun s hs => by simp [liveAt] at hs; exact hs.1)]
  rfl
theorem longOf_known {l : List Spot} {n : Int} (h : (longOf l n).isSome = true) : (headsF l n).isSome = true := by
  unfold longOf at h
  cases hf : l.find? (liveAt n) with
  | none => rw [hf] at h; cases h
  | some s =>
    have h1 := List.find?_some hf
    have h2 := List.mem_of_find?_eq_some hf
    simp [liveAt] at h1
    rw [← h1.1]; exact headsGo_mem h2 h1.2
theorem longsGo_known {l : List Spot} : ∀ {keep L : List Int}, longsGo l keep = some L → known (headsF l) keep = true
  | [], _, _ => rfl
  | n :: ns, L, h => by
    rw [longsGo] at h
    cases h1 : longOf l n with
    | none => rw [h1] at h; cases h
    | some x =>
      rw [h1] at h
      simp only [Option.map_eq_some_iff] at h
      obtain ⟨L', h2, _⟩ := h
      have h3 := longsGo_known h2
      unfold known at h3 ⊢
      rw [List.all_cons, Bool.and_eq_true]
      exact ⟨longOf_known (by rw [h1]; rfl), h3⟩
theorem longsGo_spots {a : List Nat} {l : List Spot} (hall : ∀ s ∈ l, SpotOk a s) (hp : l.Pairwise Apart) : ∀ {keep : List Int}, known (headsF l) keep = true → longsGo l keep = some (keep.map fun n => ((spotOf l n).head.len : Int))
  | [], _ => rfl
  | n :: ns, h => by
    unfold known at h
    rw [List.all_cons, Bool.and_eq_true] at h
    rw [longsGo, longOf_spot hall hp h.1, longsGo_spots hall hp (show known (headsF l) ns = true from h.2)]
    rfl

/-- stretches, one behind the other, from e on and up to n -/
def Fits : Int → List Int → List Int → Int → Prop
  | e, m :: ns, x :: xs, n => e ≤ m ∧ 0 < x ∧ Fits (m + x) ns xs n
  | e, [], [], n => e ≤ n
  | _, _, _, _ => False
theorem Fits.len : ∀ {e : Int} {ns xs : List Int} {n : Int}, Fits e ns xs n → xs.length = ns.length
  | _, [], [], _, _ => rfl
  | _, _ :: _, [], _, h => h.elim
  | _, [], _ :: _, _, h => h.elim
  | _, _ :: ns, _ :: xs, _, h => by simp [Fits.len h.2.2]
theorem Fits.le : ∀ {e : Int} {ns xs : List Int} {n : Int}, Fits e ns xs n → e ≤ n
  | _, [], [], _, h => h
  | _, _ :: _, [], _, h => h.elim
  | _, [], _ :: _, _, h => h.elim
  | _, _ :: ns, _ :: xs, _, h => by have := Fits.le h.2.2; have := h.1; have := h.2.1; omega
theorem Fits.at_ : ∀ {e : Int} {ns xs : List Int} {n : Int}, Fits e ns xs n → ∀ {i : Nat} {m x : Int}, ns[i]? = some m → xs[i]? = some x → e ≤ m ∧ 0 < x ∧ m + x ≤ n
  | _, [], _, _, _, i, m, x, h1, _ => by simp at h1
  | _, _ :: _, [], _, h, _, _, _, _, _ => h.elim
  | e, m' :: ns, x' :: xs, n, h, i, m, x, h1, h2 => by
    cases i with
    | zero =>
      simp at h1 h2
      subst h1; subst h2
      exact ⟨h.1, h.2.1, Fits.le h.2.2⟩
    | succ i =>
      simp at h1 h2
      have h3 := Fits.at_ h.2.2 h1 h2
      have h4 := h.1
      have h5 := h.2.1
      exact ⟨by omega, h3.2.1, h3.2.2⟩
theorem Fits.pair : ∀ {e : Int} {ns xs : List Int} {n : Int}, Fits e ns xs n → ∀ {i j : Nat} {m x m2 x2 : Int}, i < j → ns[i]? = some m → xs[i]? = some x → ns[j]? = some m2 → xs[j]? = some x2 → m + x ≤ m2
  | _, [], _, _, _, i, j, m, x, m2, x2, _, h1, _, _, _ => by simp at h1
  | _, _ :: _, [], _, h, _, _, _, _, _, _, _, _, _, _, _ => h.elim
  | e, m' :: ns, x' :: xs, n, h, i, j, m, x, m2, x2, hij, h1, h2, h3, h4 => by
    obtain ⟨j, rfl⟩ : ∃ k, j = k + 1 := ⟨j - 1, by omega⟩
    simp at h3 h4
    cases i with
    | zero =>
      simp at h1 h2
      subst h1; subst h2
      exact (Fits.at_ h.2.2 h3 h4).1
    | succ i =>
      simp at h1 h2
      exact Fits.pair h.2.2 (by omega) h1 h2 h3 h4
theorem Fits.slid {pinned : List Int} : ∀ {e0 e : Int} {ns xs : List Int} {n : Int}, Fits e0 ns xs n → e ≤ e0 → Fits e (slidGo pinned ns xs e) xs n ∧ ∀ (i : Nat) (m t : Int), ns[i]? = some m → (slidGo pinned ns xs e)[i]? = some t → t ≤ m
  | e0, e, [], [], n, h, he => ⟨show e ≤ n by have : e0 ≤ n := h; omega, fun i m t h1 _ => by simp at h1⟩
  | _, _, _ :: _, [], _, h, _ => h.elim
  | _, _, [], _ :: _, _, h, _ => h.elim
  | e0, e, m :: ns, x :: xs, n, h, he => by
    obtain ⟨h1, h2, h3⟩ := h
    rw [slidGo]
    obtain ⟨t, ht⟩ : ∃ t, (if hasI pinned m = true then m else e) = t := ⟨_, rfl⟩
    rw [ht]
    have hb : e ≤ t ∧ t ≤ m := by rw [← ht]; split <;> omega
    obtain ⟨k1, k2⟩ := Fits.slid (pinned := pinned) h3 (e := t + x) (by omega)
    refine ⟨⟨hb.1, h2, k1⟩, fun i m' t' h4 h5 => ?_⟩
    cases i with
    | zero => simp at h4 h5; omega
    | succ i =>
      simp at h4 h5
      exact k2 i m' t' h4 h5
theorem fits_keep {a : List Nat} {l : List Spot} (hall : ∀ s ∈ l, SpotOk a s) (hp : l.Pairwise Apart) : ∀ {keep : List Int} {e : Int}, keep.Pairwise (· < ·) → known (headsF l) keep = true → e ≤ (a.length : Int) → (∀ n ∈ keep, e ≤ n) → Fits e keep (keep.map fun n => ((spotOf l n).head.len : Int)) (a.length : Int)
  | [], e, _, _, he, _ => he
  | n :: ns, e, hs, hk, he, hl => by
    rw [List.pairwise_cons] at hs
    unfold known at hk
    rw [List.all_cons, Bool.and_eq_true] at hk
    obtain ⟨hm, hok, hat, _, _⟩ := spotOf_ok hall hk.1
    have h1 := (spotOf l n).head.len_pos
    have h2 := hok.fits
    refine ⟨hl n (List.mem_cons_self ..), by simp only; omega, fits_keep hall hp hs.2 hk.2 (by simp only; omega) (fun m hm' => ?_)⟩
    simp only
    have h3 := hs.1 m hm'
    have h4 : (headsF l m).isSome = true := by
      have := hk.2
      rw [List.all_eq_true] at this
      exact this m hm'
    obtain ⟨hm2, _, hat2, _, _⟩ := spotOf_ok hall h4
    have := spot_lt hp hm hm2 (by omega)
    omega
def RunOk (n : Int) (r : Run) : Prop := 0 ≤ r.at_ ∧ 1 ≤ r.long ∧ r.at_ + r.long ≤ n
theorem gapAdd_ok {R : List Run} {e t n : Int} (hR : ∀ r ∈ R, RunOk n r) (he : 0 ≤ e) (ht : t ≤ n) : ∀ r ∈ gapAdd R e t, RunOk n r := by
  unfold gapAdd
  split
  · intro r hr
    rcases List.mem_append.1 hr with hr | hr
    · exact hR r hr
    · simp at hr
      subst hr
      exact ⟨he, by simp only; omega, by simp only; omega⟩
  · exact hR
theorem gapsGo_ok : ∀ {e : Int} {T L : List Int} {n : Int} {R : List Run}, Fits e T L n → 0 ≤ e → (∀ r ∈ R, RunOk n r) → (∀ r ∈ (gapsGo T L R e).1, RunOk n r) ∧ 0 ≤ (gapsGo T L R e).2 ∧ (gapsGo T L R e).2 ≤ n
  | e, [], [], n, R, h, he, hR => ⟨hR, he, h⟩
  | _, _ :: _, [], _, _, h, _, _ => h.elim
  | _, [], _ :: _, _, _, h, _, _ => h.elim
  | e, t :: T, x :: L, n, R, h, he, hR => by
    rw [gapsGo]
    have h1 := h.1
    have h2 := h.2.1
    have h3 := Fits.le h.2.2
    exact gapsGo_ok h.2.2 (by omega) (gapAdd_ok hR he (by omega))
theorem gapsGo_grow : ∀ {e : Int} {T L : List Int} {R : List Run}, (gapsGo T L R e).1.length ≤ R.length + T.length
  | e, [], L, R => by simp [gapsGo]
  | e, t :: T, [], R => by simp [gapsGo]
  | e, t :: T, x :: L, R => by
    rw [gapsGo]
    have h1 := gapsGo_grow (e := t + x) (T := T) (L := L) (R := gapAdd R e t)
    have h2 := gapAdd_len (R := R) (e := e) (n := t)
    simp only [List.length_cons]
    omega

/-- what is known of a plan that is right -/
structure PlanOk (a : List Nat) (l : List Spot) (keep pinned L T : List Int) : Prop where
  spots : (walkSpots a).1 = l
  check : (walkCheck a).2 = 0
  all : ∀ s ∈ l, SpotOk a s
  pair : l.Pairwise Apart
  names : allNamed a (placesF l) l = true
  rises : keep.Pairwise (· < ·)
  knows : known (headsF l) keep = true
  longs : L = keep.map fun n => ((spotOf l n).head.len : Int)
  fits : Fits 0 keep L (a.length : Int)
  slid : T = slidGo pinned keep L 0
  fits' : Fits 0 T L (a.length : Int)
  down : ∀ (i : Nat) (m t : Int), keep[i]? = some m → T[i]? = some t → t ≤ m
  small : a.length ≤ 256
theorem planTo_ok {a : List Nat} {keep pinned : List Int} (h : (planTo a keep pinned).2 = 0) : (planLongs a keep pinned).2 = 0 ∧ PlanOk a (walkSpots a).1 keep pinned (planLongs a keep pinned).1 (planTo a keep pinned).1 := by
  have h0 : (planLongs a keep pinned).2 = 0 := by
    unfold planTo at h
    split at h
    · assumption
    · exact h
  have hT : (planTo a keep pinned).1 = slidGo pinned keep (planLongs a keep pinned).1 0 := by rw [planTo, if_pos h0]
  obtain ⟨hc, hk, _, hl, _⟩ := planLongs_zero h0
  obtain ⟨hs, _, hn⟩ := walkCheck_spots hc
  have hall := walkSpots_all hs
  have hp := walkSpots_pair hs
  have hkn := longsGo_known hl
  have hL : (planLongs a keep pinned).1 = keep.map fun n => ((spotOf (walkSpots a).1 n).head.len : Int) := by
    rw [longsGo_spots hall hp hkn] at hl
    injection hl with hl
    exact hl.symm
  have hf : Fits 0 keep (planLongs a keep pinned).1 (a.length : Int) := by
    rw [hL]
    refine fits_keep hall hp (rises_pair hk) hkn (by omega) (fun n hn' => ?_)
    unfold known at hkn
    rw [List.all_eq_true] at hkn
    have := (spotOf_ok hall (hkn n hn')).2.2.1
    omega
  have hf' := hf.slid (pinned := pinned) (e := 0) (Int.le_refl _)
  rw [← hT] at hf'
  exact ⟨h0, rfl, hc, hall, hp, hn, rises_pair hk, hkn, hL, hf, hT, hf'.1, hf'.2, (walkSpots_zero hs).1⟩
end Go.Proofs.Ythkenhbpimddpaa
namespace Go.Proofs.Ythkenhbpimddpaa
open Go.RowKit

section
variable {α : Type} {L : El α} {w : World} {P : Program} {e : Nat}
/-- make of a slice, as long as its room -/
theorem run_make_El {t bytes : Nat} (T : Ty L P t e bytes) (n : Nat) (hb : n * bytes ≤ 281474976710656) (h63 : n ≤ maxLen) :
    (Instr.makeSlice t (.int .i64 (n : Int)) (.int .i64 (n : Int))).run P w = .ok (.slice (some ⟨w.heap.size, 0, none⟩) n n) (w.alloc (.cells (L.flat (List.replicate n L.zero)).toArray e)) := by
  obtain ⟨ht, i, z, hi, hz, hk, hby, hzc⟩ := T
  subst hby
  have h63' : (n : Int) ≤ 9223372036854775807 := by have h := h63; simp [maxLen] at h; omega
  have hb' : (i.bytes : Int) * (n : Int) ≤ 281474976710656 := by
    have h : ((i.bytes * n : Nat) : Int) ≤ 281474976710656 := by rw [Nat.mul_comm]; omega
    rwa [Int.natCast_mul] at h
  have hr := run_make (P := P) w t e i z ht hi hz .i64 .i64 n n (by omega) (by omega) hb' h63'
  rw [hr]
  simp only [Int.toNat_natCast]
  have hs : z.cells.size = i.size := by rw [hzc, hk]; simp [L.len]
  have : madeCells z.cells (n * i.size) = Builtin.zeroCells z.cells n := by rw [Builtin.zeroCells, madeCells, hs]
  rw [this, El.flat_replicate _ hzc]
theorem own_of_block {g B n : Nat} {zs : List α} (hg : w.heap[g]? = some (.cells (L.flat zs).toArray e (0, 0))) (hB : B ≤ g) (hm : n ≤ maxLen) (hn : zs.length = n) : Own L e w B (.slice (some ⟨g, 0, none⟩) n n) zs := by
  subst hn
  exact .inr ⟨g, [], by simp, hB, by simpa using hm, by simpa using hg⟩
theorem splice_len {zs cs : List α} {t : Nat} (h : t + cs.length ≤ zs.length) : (splice zs t cs).length = zs.length := by
  simp [splice]; omega
theorem splice_get {zs cs : List α} {t i : Nat} (h : t ≤ zs.length) (hi : i < cs.length) : (splice zs t cs)[t + i]? = cs[i]? := by
  rw [splice, List.getElem?_append_right (by simp; omega), List.getElem?_append_left (by simp; omega)]
  congr 1
  simp; omega
theorem splice_set {zs cs : List α} {t i : Nat} {x : α} (h : t ≤ zs.length) (hi : i < cs.length) : (splice zs t cs).set (t + i) x = splice zs t (cs.set i x) := by
  rw [splice, splice, List.set_append_right _ _ (by simp; omega)]
  have : t + i - (zs.take t).length = i := by simp; omega
  rw [this, List.set_append_left _ _ hi, List.length_set]
theorem splice_splice {zs cs ds : List α} {t : Nat} (h : t + cs.length ≤ zs.length) (hl : ds.length = cs.length) : splice (splice zs t cs) t ds = splice zs t ds := by
  have h1 : (splice zs t cs).take t = zs.take t := by rw [splice, List.take_append_of_le_length (by simp; omega), List.take_of_length_le (by simp; omega)]
  have h2 : (splice zs t cs).drop (t + cs.length) = zs.drop (t + cs.length) := by
    rw [splice, List.drop_append, List.drop_append]
    simp only [List.length_take]
    rw [List.drop_of_length_le (by simp; omega), List.drop_of_length_le (by omega), Nat.min_eq_left (by omega)]
    simp
  rw [splice, hl, h1, h2, splice, hl]
end

theorem cell_far {w : World} {b o b' o' : Nat} {v : Value} (h : b ≠ b') : (w.setCell ⟨b, o, none⟩ v).cell? ⟨b', o', none⟩ = w.cell? ⟨b', o', none⟩ := World.cell?_of_block (w := w) (Below.heap_setCell w ⟨b, o, none⟩ v b' (fun e => h e.symm))
theorem own_u64 {w : World} {g e i x : Nat} {zs : List Nat} (hg : w.heap[g]? = some (.cells (eU64.flat zs).toArray e (0, 0))) (hx : zs[i]? = some x) : w.cell? ⟨g, i, none⟩ = some (.int .u64 (x : Int)) := by
  have := own_cell (j := 0) hg hx rfl
  simpa [eU64] using this
theorem store_u64 {w : World} {g e i x : Nat} {zs : List Nat} (hg : w.heap[g]? = some (.cells (eU64.flat zs).toArray e (0, 0))) (hi : i < zs.length) : (w.setCell ⟨g, i, none⟩ (.int .u64 (x : Int))).heap[g]? = some (.cells (eU64.flat (zs.set i x)).toArray e (0, 0)) := by
  have := heap_store_El (L := eU64) (j := 0) (x' := x) (u := .int .u64 (x : Int)) hg (List.getElem?_eq_getElem hi) (by decide) rfl
  simpa [eU64] using this
theorem own_int {w : World} {g e i : Nat} {x : Int} {zs : List Int} (hg : w.heap[g]? = some (.cells (eInt.flat zs).toArray e (0, 0))) (hx : zs[i]? = some x) : w.cell? ⟨g, i, none⟩ = some (.int .i64 x) := by
  have := own_cell (j := 0) hg hx rfl
  simpa [eInt] using this
theorem store_int {w : World} {g e i : Nat} {x : Int} {zs : List Int} (hg : w.heap[g]? = some (.cells (eInt.flat zs).toArray e (0, 0))) (hi : i < zs.length) : (w.setCell ⟨g, i, none⟩ (.int .i64 x)).heap[g]? = some (.cells (eInt.flat (zs.set i x)).toArray e (0, 0)) := by
  have := heap_store_El (L := eInt) (j := 0) (x' := x) (u := .int .i64 x) hg (List.getElem?_eq_getElem hi) (by decide) rfl
  simpa [eInt] using this

def encU (v : Nat) : Value := .int .u64 (v : Int)
theorem zeroU64 (w : World) : (zeroValue 25).run Try.prog w = .ok (.int .u64 0) w := by kernel_rfl

/-- where each word goes that is named, and 1 -/
def nowGo : List Int → List Int → (Int → Option Nat) → (Int → Option Nat)
  | n :: ns, t :: ts, f => nowGo ns ts (fput f (n + 1) (t.toNat + 1))
  | _, _, f => f
def nowF (keep to : List Int) : Int → Option Nat := nowGo keep to (fput (fun _ => none) 0 0)
theorem nowGo_at {ns ts : List Int} {k : Nat} {n t : Int} (hn : ns[k]? = some n) (ht : ts[k]? = some t) (f : Int → Option Nat) : nowGo (ns.drop k) (ts.drop k) f = nowGo (ns.drop (k + 1)) (ts.drop (k + 1)) (fput f (n + 1) (t.toNat + 1)) := by
  obtain ⟨h1, rfl⟩ := List.getElem?_eq_some_iff.1 hn
  obtain ⟨h2, rfl⟩ := List.getElem?_eq_some_iff.1 ht
  rw [List.drop_eq_getElem_cons h1, List.drop_eq_getElem_cons h2, nowGo]
theorem nowGo_end {ns ts : List Int} {k : Nat} (hn : ¬ k < ns.length) (f : Int → Option Nat) : nowGo (ns.drop k) (ts.drop k) f = f := by
  rw [List.drop_of_length_le (by omega)]
  simp [nowGo]
/-- the Refs, told anew -/
def mapRefs (f : Int → Option Nat) : List Nat → Option (List Nat)
  | [] => some []
  | v :: vs => match f (v : Int) with
    | none => none
    | some x => (mapRefs f vs).map (x :: ·)
theorem mapRefs_some {f : Int → Option Nat} {vs : List Nat} {k v x : Nat} (h : vs[k]? = some v) (hx : f (v : Int) = some x) : mapRefs f (vs.drop k) = (mapRefs f (vs.drop (k + 1))).map (x :: ·) := by
  obtain ⟨hk, rfl⟩ := List.getElem?_eq_some_iff.1 h
  rw [List.drop_eq_getElem_cons hk, mapRefs, hx]
theorem mapRefs_none {f : Int → Option Nat} {vs : List Nat} {k v : Nat} (h : vs[k]? = some v) (hx : f (v : Int) = none) : mapRefs f (vs.drop k) = none := by
  obtain ⟨hk, rfl⟩ := List.getElem?_eq_some_iff.1 h
  rw [List.drop_eq_getElem_cons hk, mapRefs, hx]
theorem mapRefs_len {f : Int → Option Nat} : ∀ {vs D : List Nat}, mapRefs f vs = some D → D.length = vs.length
  | [], D, h => by rw [mapRefs] at h; cases h; rfl
  | v :: vs, D, h => by
    rw [mapRefs] at h
    cases hv : f (v : Int) with
    | none => rw [hv] at h; cases h
    | some x =>
      rw [hv] at h
      simp only [Option.map_eq_some_iff] at h
      obtain ⟨D', h', rfl⟩ := h
      simp [mapRefs_len h']
theorem row_step {D rs bd : List Nat} {hd v x : Nat} {j : Nat} (hD : D.length = j) (hv : rs[j]? = some v) : (hd :: (D ++ rs.drop j ++ bd)).set (1 + j) x = hd :: (D ++ [x] ++ rs.drop (j + 1) ++ bd) ∧ (hd :: (D ++ rs.drop j ++ bd))[1 + j]? = some v := by
  obtain ⟨hj, rfl⟩ := List.getElem?_eq_some_iff.1 hv
  subst hD
  rw [List.drop_eq_getElem_cons hj, Nat.add_comm 1]
  obtain ⟨v, hv⟩ : ∃ v, rs[D.length] = v := ⟨_, rfl⟩
  obtain ⟨q, hq⟩ : ∃ q, rs.drop (D.length + 1) = q := ⟨_, rfl⟩
  rw [hv, hq]
  refine ⟨?_, ?_⟩
  · rw [List.set_cons_succ, List.append_assoc, List.set_append_right _ _ (Nat.le_refl _)]
    simp
  · simp
/-- an object's words where it goes to -/
def rowOf (a : List Nat) (f : Int → Option Nat) (s : Spot) : Option (List Nat) := (mapRefs f (refsOf a s)).map fun D => a.getD s.at_ 0 :: (D ++ bodyOf a s)
def slideGo (a : List Nat) (l : List Spot) (f : Int → Option Nat) : List Int → List Int → List Nat → Option (List Nat)
  | n :: ns, t :: ts, out => match rowOf a f (spotOf l n) with
    | none => none
    | some row => slideGo a l f ns ts (splice out t.toNat row)
  | _, _, out => some out
theorem slideGo_some {a : List Nat} {l : List Spot} {f : Int → Option Nat} {ns ts : List Int} {k : Nat} {n t : Int} {out row : List Nat} (hn : ns[k]? = some n) (ht : ts[k]? = some t) (hr : rowOf a f (spotOf l n) = some row) : slideGo a l f (ns.drop k) (ts.drop k) out = slideGo a l f (ns.drop (k + 1)) (ts.drop (k + 1)) (splice out t.toNat row) := by
  obtain ⟨h1, rfl⟩ := List.getElem?_eq_some_iff.1 hn
  obtain ⟨h2, rfl⟩ := List.getElem?_eq_some_iff.1 ht
  rw [List.drop_eq_getElem_cons h1, List.drop_eq_getElem_cons h2, slideGo, hr]
theorem slideGo_none {a : List Nat} {l : List Spot} {f : Int → Option Nat} {ns ts : List Int} {k : Nat} {n t : Int} {out : List Nat} (hn : ns[k]? = some n) (ht : ts[k]? = some t) (hr : rowOf a f (spotOf l n) = none) : slideGo a l f (ns.drop k) (ts.drop k) out = none := by
  obtain ⟨h1, rfl⟩ := List.getElem?_eq_some_iff.1 hn
  obtain ⟨h2, rfl⟩ := List.getElem?_eq_some_iff.1 ht
  rw [List.drop_eq_getElem_cons h1, List.drop_eq_getElem_cons h2, slideGo, hr]
theorem slideGo_end {a : List Nat} {l : List Spot} {f : Int → Option Nat} {ns ts : List Int} {k : Nat} {out : List Nat} (hn : ¬ k < ns.length) : slideGo a l f (ns.drop k) (ts.drop k) out = some out := by
  rw [List.drop_of_length_le (by omega)]
  simp [slideGo]
theorem row_words {a : List Nat} {s : Spot} (h : SpotOk a s) : (a.drop s.at_).take s.head.len = a.getD s.at_ 0 :: (refsOf a s ++ bodyOf a s) := by
  have h1 := h.lt
  have h2 := h.fits
  unfold Head.len at h2 ⊢
  rw [List.drop_eq_getElem_cons h1, show 1 + s.head.refs.toNat + s.head.body.toNat = (s.head.refs.toNat + s.head.body.toNat) + 1 from by omega, List.take_succ_cons]
  congr 1
  · simp [h1]
  · unfold refsOf bodyOf
    rw [List.take_add, List.drop_drop]
theorem refsOf_length {a : List Nat} {s : Spot} (h : SpotOk a s) : (refsOf a s).length = s.head.refs.toNat := by
  have h2 := h.fits
  unfold Head.len at h2
  simp [refsOf]; omega
theorem bodyOf_length {a : List Nat} {s : Spot} (h : SpotOk a s) : (bodyOf a s).length = s.head.body.toNat := by
  have h2 := h.fits
  unfold Head.len at h2
  simp [bodyOf]; omega
def gapWord (n : Int) : Nat := (headWordV ⟨0, n - 1, 0, true⟩).toNat
theorem gapWord_eq {n : Int} (h1 : 1 ≤ n) (h2 : n ≤ 256) : headWordV ⟨0, n - 1, 0, true⟩ = (gapWord n : Int) := by
  have hc : headCheck ⟨0, n - 1, 0, true⟩ = 0 := headCheck_mk (by simp) (by simp only; omega) (by simp) (by simp) (by simp only; omega) (by simp)
  have hv : headWordV ⟨0, n - 1, 0, true⟩ = headNat ⟨0, n - 1, 0, true⟩ := by rw [headWordV, if_pos hc]
  unfold gapWord
  rw [hv]
  have : 0 ≤ headNat ⟨0, n - 1, 0, true⟩ := by simp only [headNat]; simp only [if_true]; omega
  omega
def layGaps (R : List Run) (out : List Nat) : List Nat := R.foldl (fun o r => o.set r.at_.toNat (gapWord r.long)) out
theorem layGaps_at {R : List Run} {k : Nat} {r : Run} (h : R[k]? = some r) (out : List Nat) : layGaps (R.take (k + 1)) out = (layGaps (R.take k) out).set r.at_.toNat (gapWord r.long) := by
  rw [List.take_add_one, h, layGaps, layGaps, List.foldl_append]; rfl
theorem layGaps_len (R : List Run) (out : List Nat) : (layGaps R out).length = out.length := by
  induction R generalizing out with
  | nil => rfl
  | cons r R ih => rw [layGaps, List.foldl_cons]; exact (ih _).trans (by simp)
theorem slideGo_len {a : List Nat} {l : List Spot} {f : Int → Option Nat} (hall : ∀ s ∈ l, SpotOk a s) : ∀ {ns ts L : List Int} {e : Int} {out o : List Nat}, known (headsF l) ns = true → L = ns.map (fun n => ((spotOf l n).head.len : Int)) → Fits e ts L (a.length : Int) → 0 ≤ e → out.length = a.length → slideGo a l f ns ts out = some o → o.length = a.length
  | [], ts, L, e, out, o, _, _, _, _, ho, h => by rw [slideGo] at h; cases h; exact ho; simp
  | n :: ns, [], L, e, out, o, _, _, _, _, ho, h => by rw [slideGo] at h; cases h; exact ho; simp
  | n :: ns, t :: ts, L, e, out, o, hk, hL, hf, he, ho, h => by
    rw [slideGo] at h
    cases hr : rowOf a f (spotOf l n) with
    | none => rw [hr] at h; cases h
    | some row =>
      rw [hr] at h
      subst hL
      unfold known at hk
      rw [List.all_cons, Bool.and_eq_true] at hk
      obtain ⟨_, hok, _, _, _⟩ := spotOf_ok hall hk.1
      have hrl : row.length = (spotOf l n).head.len := by
        unfold rowOf at hr
        simp only [Option.map_eq_some_iff] at hr
        obtain ⟨D, hD, rfl⟩ := hr
        simp [mapRefs_len hD, refsOf_length hok, bodyOf_length hok, Head.len]; omega
      have h1 := hf.1
      have h2 := hf.2.2.le
      have h3 := hf.2.2
      simp only at h2
      simp only at h3
      exact slideGo_len hall hk.2 rfl h3 (by omega) (by rw [splice_len (by omega)]; exact ho) h

/-- Slide: the arena, where each went, the error -/
def slideSlide (a : List Nat) (keep pinned : List Int) : List Nat × List Int × Int :=
  if (planTo a keep pinned).2 ≠ 0 then ([], [], (planTo a keep pinned).2)
  else match slideGo a (walkSpots a).1 (nowF keep (planTo a keep pinned).1) keep (planTo a keep pinned).1 (List.replicate a.length 0) with
    | none => ([], [], 8)
    | some out => (layGaps (planGaps a keep pinned).1 out, (planTo a keep pinned).1, 0)
theorem slideSlide_e {a : List Nat} {keep pinned : List Int} (h : ¬ (planTo a keep pinned).2 = 0) : slideSlide a keep pinned = ([], [], (planTo a keep pinned).2) := by rw [slideSlide, if_pos h]
theorem slideSlide_h {a : List Nat} {keep pinned : List Int} (h : (planTo a keep pinned).2 = 0) (h' : slideGo a (walkSpots a).1 (nowF keep (planTo a keep pinned).1) keep (planTo a keep pinned).1 (List.replicate a.length 0) = none) : slideSlide a keep pinned = ([], [], 8) := by rw [slideSlide, if_neg (by simp [h]), h']
theorem slideSlide_ok {a : List Nat} {keep pinned : List Int} {out : List Nat} (h : (planTo a keep pinned).2 = 0) (h' : slideGo a (walkSpots a).1 (nowF keep (planTo a keep pinned).1) keep (planTo a keep pinned).1 (List.replicate a.length 0) = some out) : slideSlide a keep pinned = (layGaps (planGaps a keep pinned).1 out, (planTo a keep pinned).1, 0) := by rw [slideSlide, if_neg (by simp [h]), h']
/-- At a word where an object begins -/
theorem walkAt_spot {a : List Nat} {n : Int} (hc : (walkCheck a).2 = 0) (h : (headsF (walkSpots a).1 n).isSome = true) : walkAt a n = (objOf a (placesF (walkSpots a).1) (spotOf (walkSpots a).1 n), 0) := by
  obtain ⟨hs, h1, _⟩ := walkCheck_spots hc
  have hall := walkSpots_all hs
  have hp := walkSpots_pair hs
  obtain ⟨_, _, he, _, _⟩ := spotOf_ok hall h
  have hf := find_spotOf hall hp h (fun s => (s.at_ : Int) == n) (by simpa using he) (fun s hs => by simpa using hs)
  have := walkAt_ok (n := n) hc (by rw [h1]; exact hf)
  rw [h1] at this
  exact this
theorem planGaps_ok {a : List Nat} {keep pinned : List Int} (h : (planLongs a keep pinned).2 = 0) (hf : Fits 0 (slidGo pinned keep (planLongs a keep pinned).1 0) (planLongs a keep pinned).1 (a.length : Int)) : (planGaps a keep pinned).2 = 0 ∧ (∀ r ∈ (planGaps a keep pinned).1, RunOk (a.length : Int) r) ∧ (planGaps a keep pinned).1.length ≤ keep.length + 1 := by
  have hV : planGaps a keep pinned = (gapAdd (gapsGo (slidGo pinned keep (planLongs a keep pinned).1 0) (planLongs a keep pinned).1 [] 0).1 (gapsGo (slidGo pinned keep (planLongs a keep pinned).1 0) (planLongs a keep pinned).1 [] 0).2 (a.length : Int), 0) := by rw [planGaps, if_pos h]
  rw [hV]
  obtain ⟨h1, h2, h3⟩ := gapsGo_ok (R := []) hf (Int.le_refl _) (fun r hr => by cases hr)
  refine ⟨rfl, gapAdd_ok h1 h2 (Int.le_refl _), ?_⟩
  have h4 := gapsGo_grow (e := 0) (T := slidGo pinned keep (planLongs a keep pinned).1 0) (L := (planLongs a keep pinned).1) (R := [])
  rw [slidGo_len _ _ _ (planLongs_ok h).1] at h4
  have h5 := gapAdd_len (R := (gapsGo (slidGo pinned keep (planLongs a keep pinned).1 0) (planLongs a keep pinned).1 [] 0).1) (e := (gapsGo (slidGo pinned keep (planLongs a keep pinned).1 0) (planLongs a keep pinned).1 [] 0).2) (n := (a.length : Int))
  simp only [List.length_nil] at h4
  simp only
  omega
end Go.Proofs.Ythkenhbpimddpaa
