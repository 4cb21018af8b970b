/- slices.IndexFunc, slices.ContainsFunc at a predicate that is known by a contract. -/
import Derived.Test.YthkenhbpimddpaaCl
import Derived.Test.YthkenhbpimddpaaW6
namespace Go.Proofs.Ythkenhbpimddpaa
open Go.RowKit

def idxI {α : Type} (p : α → Bool) (xs : List α) : Int := match xs.findIdx? p with | some i => (i : Int) | none => -1
theorem idxI_some {α : Type} {p : α → Bool} {xs : List α} {i : Nat} (h : xs.findIdx? p = some i) : idxI p xs = i := by simp [idxI, h]
theorem idxI_none {α : Type} {p : α → Bool} {xs : List α} (h : xs.findIdx? p = none) : idxI p xs = -1 := by simp [idxI, h]
theorem idxI_cases {α : Type} (p : α → Bool) (xs : List α) : (idxI p xs = -1 ∧ ∀ x ∈ xs, p x = false) ∨ ∃ (i : Nat) (x : α), idxI p xs = (i : Int) ∧ xs[i]? = some x ∧ p x = true ∧ ∀ (j : Nat) (y : α), j < i → xs[j]? = some y → p y = false := by
  cases h : xs.findIdx? p with
  | none => exact .inl ⟨idxI_none h, by simpa using h⟩
  | some i =>
    obtain ⟨hi, hp, hb⟩ := List.findIdx?_eq_some_iff_getElem.1 h
    refine .inr ⟨i, xs[i], idxI_some h, List.getElem?_eq_getElem hi, hp, fun j y hj hy => ?_⟩
    have := hb j hj
    obtain ⟨hj', rfl⟩ := List.getElem?_eq_some_iff.1 hy
    simpa using this
theorem findIdx?_at {α : Type} {p : α → Bool} {xs : List α} {k : Nat} {x : α} (h0 : ∀ j y, j < k → xs[j]? = some y → p y = false) (hx : xs[k]? = some x) (hp : p x = true) : idxI p xs = k := by
  apply idxI_some
  obtain ⟨hk, rfl⟩ := List.getElem?_eq_some_iff.1 hx
  rw [List.findIdx?_eq_some_iff_getElem]
  exact ⟨hk, hp, fun j hj => by simp [h0 j xs[j] hj (List.getElem?_eq_getElem (by omega))]⟩
theorem findIdx?_no {α : Type} {p : α → Bool} {xs : List α} {k : Nat} (h0 : ∀ j y, j < k → xs[j]? = some y → p y = false) (hk : ¬ k < xs.length) : idxI p xs = -1 := by
  apply idxI_none
  rw [List.findIdx?_eq_none_iff]
  intro x hx
  obtain ⟨j, hj, rfl⟩ := List.getElem_of_mem hx
  exact h0 j _ (by omega) (List.getElem?_eq_getElem hj)

set_option maxRecDepth 100000 in
set_option maxHeartbeats 1000000 in
theorem indexFuncHands (A : Option Addr) (c : Nat) (xs : List Slot) (w : World) (hr : Rd eSlot w A xs) (hm : xs.length ≤ maxLen) (g : Nat) (lb : Array Value) (p : Slot → Bool) (eg : Enters Try.prog g)
    (hp : ∀ x ∈ xs, ∀ W, Below w.heap.size w W → Calls Try.prog g (#[.agg #[.int .i64 x.gen, .bool x.open_, .int .i64 x.at_]] ++ lb) W (Ret (.bool (p x)) W)) :
    Calls Try.prog 44 #[.slice A xs.length c, .func (.func g) #[] lb] w (Ret (.int .i64 (idxI p xs)) w) := by
  unfold maxLen at hm
  have HP := Lib.hid hp
  clear hp
  unfold Enters at eg
  go_enter Try.func44, Try.ntmps44
  go_wp2
  go_loopw [8] (fun i wr => ∃ k : Nat, k ≤ xs.length ∧ i = .int .i64 k ∧ Hid (∀ j y, j < k → xs[j]? = some y → p y = false) ∧ Below w.heap.size w wr) (fun i _ => xs.length - (intOf i).toNat)
  case atStart => exact ⟨0, by omega, rfl, fun j y h => absurd h (by omega), Below.refl _ _⟩
  case round =>
    obtain ⟨k, hk, rfl, h0, hb⟩ := hrel
    by_cases hlt : k < xs.length
    · obtain ⟨x, hx⟩ : ∃ x, xs[k]? = some x := ⟨xs[k], List.getElem?_eq_getElem hlt⟩
      obtain ⟨b, off, rfl, hlt2, c0, c1, c2⟩ := (hr.below hb).slot hx
      have HX := Lib.hid hx
      clear hx
      cases hpx : p x
      · go_wp2_with fail
        refine (HP.out x (List.mem_of_getElem? HX.out) _ hb).mono ?_
        rw [hpx]
        rintro e w1 ⟨rfl, hb1⟩
        have H1 : Hid (∀ j y, j < k + 1 → xs[j]? = some y → p y = false) := fun j y hj hy => by
          rcases Nat.lt_succ_iff_lt_or_eq.1 hj with hj | rfl
          · exact h0.out j y hj hy
          · rw [HX.out] at hy; injection hy with hy; subst hy; exact hpx
        clear hpx
        go_wp2_with fail
        go_roundw
        case rel => exact ⟨k + 1, by omega, by go_num, H1, hb.trans (hb1.mono hb.size)⟩
        case measure => simp [intOf]; omega
      · go_wp2_with fail
        refine (HP.out x (List.mem_of_getElem? HX.out) _ hb).mono ?_
        rw [hpx]
        rintro e w1 ⟨rfl, hb1⟩
        have H1 := Lib.hid (findIdx?_at h0.out HX.out hpx)
        clear hpx
        go_wp2_with fail
        go_ret
        exact ⟨by rw [H1.out]; rfl, hb.trans (hb1.mono hb.size)⟩
    · have H1 := Lib.hid (findIdx?_no h0.out hlt)
      go_wp2_with fail
      go_ret
      exact ⟨by rw [H1.out]; rfl, hb⟩

set_option maxRecDepth 100000 in
set_option maxHeartbeats 1000000 in
theorem indexFuncInt (A : Option Addr) (c : Nat) (xs : List Int) (w : World) (hr : Rd eInt w A xs) (hm : xs.length ≤ maxLen) (g : Nat) (lb : Array Value) (p : Int → Bool) (eg : Enters Try.prog g)
    (hp : ∀ x ∈ xs, ∀ W, Below w.heap.size w W → Calls Try.prog g (#[.int .i64 x] ++ lb) W (Ret (.bool (p x)) W)) :
    Calls Try.prog 144 #[.slice A xs.length c, .func (.func g) #[] lb] w (Ret (.int .i64 (idxI p xs)) w) := by
  unfold maxLen at hm
  have HP := Lib.hid hp
  clear hp
  unfold Enters at eg
  go_enter Try.func144, Try.ntmps144
  go_wp2
  go_loopw [8] (fun i wr => ∃ k : Nat, k ≤ xs.length ∧ i = .int .i64 k ∧ Hid (∀ j y, j < k → xs[j]? = some y → p y = false) ∧ Below w.heap.size w wr) (fun i _ => xs.length - (intOf i).toNat)
  case atStart => exact ⟨0, by omega, rfl, fun j y h => absurd h (by omega), Below.refl _ _⟩
  case round =>
    obtain ⟨k, hk, rfl, h0, hb⟩ := hrel
    by_cases hlt : k < xs.length
    · obtain ⟨x, hx⟩ : ∃ x, xs[k]? = some x := ⟨xs[k], List.getElem?_eq_getElem hlt⟩
      obtain ⟨b, off, rfl, hlt2, c0⟩ := (hr.below hb).int hx
      have HX := Lib.hid hx
      clear hx
      cases hpx : p x
      · go_wp2_with fail
        refine (HP.out x (List.mem_of_getElem? HX.out) _ hb).mono ?_
        rw [hpx]
        rintro e w1 ⟨rfl, hb1⟩
        have H1 : Hid (∀ j y, j < k + 1 → xs[j]? = some y → p y = false) := fun j y hj hy => by
          rcases Nat.lt_succ_iff_lt_or_eq.1 hj with hj | rfl
          · exact h0.out j y hj hy
          · rw [HX.out] at hy; injection hy with hy; subst hy; exact hpx
        clear hpx
        go_wp2_with fail
        go_roundw
        case rel => exact ⟨k + 1, by omega, by go_num, H1, hb.trans (hb1.mono hb.size)⟩
        case measure => simp [intOf]; omega
      · go_wp2_with fail
        refine (HP.out x (List.mem_of_getElem? HX.out) _ hb).mono ?_
        rw [hpx]
        rintro e w1 ⟨rfl, hb1⟩
        have H1 := Lib.hid (findIdx?_at h0.out HX.out hpx)
        clear hpx
        go_wp2_with fail
        go_ret
        exact ⟨by rw [H1.out]; rfl, hb.trans (hb1.mono hb.size)⟩
    · have H1 := Lib.hid (findIdx?_no h0.out hlt)
      go_wp2_with fail
      go_ret
      exact ⟨by rw [H1.out]; rfl, hb⟩

end Go.Proofs.Ythkenhbpimddpaa
