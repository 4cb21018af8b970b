/- Words for memory: element types, slices that read as lists, rows of a call's own. No program in sight. -/
import Derived.WalkKit
import Derived.WalkSpells
import Derived.WalkLawsBesides
import Derived.Deep.QuietTactic
import Derived.BigQuiet
import Derived.Lib.Hide
import Derived.KernelRfl
namespace Go.Proofs.Ythkenhbpimddpaa
open Go.RowKit

/-- How an element of a slice is laid in cells. -/
structure El (α : Type) where
  k : Nat
  enc : α → List Value
  zero : α
  len : ∀ x, (enc x).length = k
  pos : 0 < k
  one : ∀ x, ∀ u ∈ enc x, u.oneCell' = true

def El.flat {α : Type} (L : El α) (xs : List α) : List Value := xs.flatMap L.enc

section
variable {α : Type} {L : El α} {w w' : World} {xs ys : List α} {A : Option Addr} {B B' e : Nat} {v : Value}

theorem El.flat_nil : L.flat [] = [] := rfl
theorem El.flat_cons (x : α) (xs : List α) : L.flat (x :: xs) = L.enc x ++ L.flat xs := by simp [El.flat]
theorem El.flat_append (xs ys : List α) : L.flat (xs ++ ys) = L.flat xs ++ L.flat ys := by simp [El.flat]
theorem El.length_flat (xs : List α) : (L.flat xs).length = xs.length * L.k := by
  induction xs with
  | nil => simp [El.flat]
  | cons x xs ih => rw [El.flat_cons, List.length_append, ih, L.len, List.length_cons, Nat.add_mul]; omega
theorem El.flat_one {u : Value} (xs : List α) (h : u ∈ L.flat xs) : u.oneCell' = true := by
  simp only [El.flat, List.mem_flatMap] at h
  obtain ⟨x, _, hx⟩ := h
  exact L.one x u hx
theorem El.flat_at (xs : List α) (i j : Nat) (x : α) (hx : xs[i]? = some x) (hj : j < L.k) : (L.flat xs)[i * L.k + j]? = (L.enc x)[j]? := by
  induction xs generalizing i with
  | nil => simp at hx
  | cons y ys ih =>
    rw [El.flat_cons]
    cases i with
    | zero =>
      simp only [List.getElem?_cons_zero, Option.some.injEq] at hx
      subst hx
      rw [List.getElem?_append_left (by rw [L.len]; omega)]
      simp
    | succ i =>
      simp only [List.getElem?_cons_succ] at hx
      rw [List.getElem?_append_right (by rw [L.len, Nat.add_mul]; omega), L.len]
      rw [← ih i hx]
      congr 1
      rw [Nat.add_mul]; omega
theorem El.flat_split (xs : List α) (m : Nat) (u : Value) (h : (L.flat xs)[m]? = some u) : ∃ i j x, m = i * L.k + j ∧ j < L.k ∧ xs[i]? = some x ∧ (L.enc x)[j]? = some u := by
  have hp := L.pos
  have hm : m < (L.flat xs).length := (List.getElem?_eq_some_iff.1 h).1
  rw [El.length_flat] at hm
  have hd : m = m / L.k * L.k + m % L.k := by rw [Nat.mul_comm]; exact (Nat.div_add_mod m L.k).symm
  have hi : m / L.k < xs.length := Nat.div_lt_of_lt_mul (by rw [Nat.mul_comm]; exact hm)
  have hx : xs[m / L.k]? = some xs[m / L.k] := List.getElem?_eq_getElem hi
  refine ⟨m / L.k, m % L.k, xs[m / L.k], hd, Nat.mod_lt _ hp, hx, ?_⟩
  rw [← El.flat_at xs _ _ _ hx (Nat.mod_lt _ hp), ← hd, h]

/-- A slice's address leads to the elements. -/
def Rd (L : El α) (w : World) (A : Option Addr) (xs : List α) : Prop :=
  ∀ i x, xs[i]? = some x → ∃ b off, A = some ⟨b, off, none⟩ ∧ b < w.heap.size ∧ ∀ j u, (L.enc x)[j]? = some u → w.cell? ⟨b, off + (i * L.k + j), none⟩ = some u

theorem Rd.nil : Rd L w A [] := fun i x h => by simp at h
theorem Rd.keep (h : Rd L w A xs) (hs : w.heap.size ≤ w'.heap.size) (hc : ∀ b o u, b < w.heap.size → (∃ o', A = some ⟨b, o', none⟩) → w.cell? ⟨b, o, none⟩ = some u → w'.cell? ⟨b, o, none⟩ = some u) : Rd L w' A xs := by
  intro i x hx
  obtain ⟨b, off, rfl, hlt, hh⟩ := h i x hx
  exact ⟨b, off, rfl, Nat.lt_of_lt_of_le hlt hs, fun j u hu => hc b _ u hlt ⟨_, rfl⟩ (hh j u hu)⟩
theorem Rd.below (h : Rd L w A xs) (hb : Below w.heap.size w w') : Rd L w' A xs :=
  h.keep hb.size fun b o _ hlt _ hu => (hb.cell (p := ⟨b, o, none⟩) hlt).trans hu
theorem Rd.drewN (h : Rd L w A xs) (n : Nat) : Rd L (w.drewN n) A xs := h
theorem Rd.drew (h : Rd L w A xs) : Rd L w.drew A xs := h
theorem Rd.alloc (h : Rd L w A xs) (o : Obj) : Rd L (w.alloc o) A xs := h.below ((Below.refl _ _).alloc (Nat.le_refl _) o)
/-- in one block, at an address -/
theorem Rd.at_ (h : Rd L w A xs) {i : Nat} {x : α} (hx : xs[i]? = some x) : ∃ b off, A = some ⟨b, off, none⟩ ∧ b < w.heap.size ∧ ∀ i x, xs[i]? = some x → ∀ j u, (L.enc x)[j]? = some u → w.cell? ⟨b, off + (i * L.k + j), none⟩ = some u := by
  obtain ⟨b, off, rfl, hlt, _⟩ := h i x hx
  refine ⟨b, off, rfl, hlt, fun i' x' hx' => ?_⟩
  obtain ⟨b', off', he, _, hc⟩ := h i' x' hx'
  injection he with he
  injection he with h1 h2
  subst h1; subst h2
  exact hc
theorem Rd.flat_ (h : Rd L w A xs) (hne : 0 < xs.length) : ∃ b off, A = some ⟨b, off, none⟩ ∧ b < w.heap.size ∧ ∀ m u, (L.flat xs)[m]? = some u → w.cell? ⟨b, off + m, none⟩ = some u := by
  obtain ⟨b, off, hA, hlt, hc⟩ := h.at_ (i := 0) (x := xs[0]) (List.getElem?_eq_getElem hne)
  refine ⟨b, off, hA, hlt, fun m u hu => ?_⟩
  obtain ⟨i, j, x, rfl, _, hx, hj⟩ := El.flat_split xs m u hu
  exact hc i x hx j u hj
theorem Rd.take (h : Rd L w A xs) (n : Nat) : Rd L w A (xs.take n) := fun i x hx => by
  rw [List.getElem?_take] at hx
  split at hx
  · exact h i x hx
  · cases hx
theorem Rd.drop (h : Rd L w A xs) (n : Nat) (A' : Option Addr) (hA : ∀ b off, A = some ⟨b, off, none⟩ → n < xs.length → A' = some ⟨b, off + n * L.k, none⟩) : Rd L w A' (xs.drop n) := fun i x hx => by
  rw [List.getElem?_drop] at hx
  have hlt : n + i < xs.length := (List.getElem?_eq_some_iff.1 hx).1
  obtain ⟨b, off, hA0, hb, hc⟩ := h (n + i) x hx
  refine ⟨b, _, hA b off hA0 (by omega), hb, fun j u hu => ?_⟩
  rw [← hc j u hu]
  congr 2
  rw [Nat.add_mul]; omega

/-- A row of the call's own: from block B on, all its cells known, its spare room too. -/
def Own (L : El α) (e : TypeId) (w : World) (B : Nat) (v : Value) (xs : List α) : Prop :=
  (v = .slice none 0 0 ∧ xs = []) ∨
  ∃ g ys, v = .slice (some ⟨g, 0, none⟩) xs.length (xs.length + ys.length) ∧ B ≤ g ∧ xs.length + ys.length ≤ maxLen ∧ w.heap[g]? = some (.cells (L.flat (xs ++ ys)).toArray e (0, 0))

theorem Own.nil : Own L e w B (.slice none 0 0) [] := .inl ⟨rfl, rfl⟩
theorem Own.lt (h : Own L e w B v xs) : ∀ k, v.ownBlock = some k → B ≤ k ∧ k < w.heap.size := by
  intro k hk
  rcases h with ⟨rfl, _⟩ | ⟨g, ys, rfl, hb, _, hg⟩
  · simp [Value.ownBlock] at hk
  · simp [Value.ownBlock] at hk
    subst hk
    exact ⟨hb, (Array.getElem?_eq_some_iff.1 hg).1⟩
theorem Own.mono (h : Own L e w B v xs) (hB : B' ≤ B) : Own L e w B' v xs := by
  rcases h with h | ⟨g, ys, hv, hb, r⟩
  · exact .inl h
  · exact .inr ⟨g, ys, hv, Nat.le_trans hB hb, r⟩
theorem Own.keep (h : Own L e w B v xs) (hk : ∀ g, v.ownBlock = some g → w'.heap[g]? = w.heap[g]?) : Own L e w' B v xs := by
  rcases h with h | ⟨g, ys, rfl, hb, hm, hg⟩
  · exact .inl h
  · exact .inr ⟨g, ys, rfl, hb, hm, (hk g rfl).trans hg⟩
theorem Own.below (h : Own L e w B v xs) (hb : Below w.heap.size w w') : Own L e w' B v xs := h.keep fun g hg => hb.block g (h.lt g hg).2
theorem Own.drewN (h : Own L e w B v xs) (n : Nat) : Own L e (w.drewN n) B v xs := h
theorem Own.drew (h : Own L e w B v xs) : Own L e w.drew B v xs := h
theorem Own.alloc (h : Own L e w B v xs) (o : Obj) : Own L e (w.alloc o) B v xs := h.below ((Below.refl _ _).alloc (Nat.le_refl _) o)
theorem Own.grown {row : Option Nat} (h : Own L e w B v xs) (hg : w.grownBy w' row) (hne : v.ownBlock = none ∨ v.ownBlock ≠ row) : Own L e w' B v xs :=
  h.keep fun g he => hg.block g (h.lt g he).2 (by rw [← he]; rcases hne with hn | hn; · rw [hn] at he; cases he
                                                  · exact hn)
/-- an own row read -/
theorem Own.rd (h : Own L e w B v xs) : ∃ A c, v = .slice A xs.length c ∧ xs.length ≤ c ∧ c ≤ maxLen ∧ Rd L w A xs := by
  rcases h with ⟨rfl, rfl⟩ | ⟨g, ys, rfl, hb, hm, hg⟩
  · exact ⟨none, 0, rfl, Nat.le_refl _, by simp [maxLen], Rd.nil⟩
  · refine ⟨some ⟨g, 0, none⟩, xs.length + ys.length, rfl, by omega, hm, fun i x hx => ⟨g, 0, rfl, (Array.getElem?_eq_some_iff.1 hg).1, fun j u hu => ?_⟩⟩
    have hj : j < L.k := by rw [← L.len x]; exact (List.getElem?_eq_some_iff.1 hu).1
    rw [cell_of_row w g _ _ _ _ hg, Nat.zero_add]
    simp only [List.getElem?_toArray]
    rw [El.flat_at _ i j x _ hj, hu]
    rw [List.getElem?_append_left (List.getElem?_eq_some_iff.1 hx).1]; exact hx
end
end Go.Proofs.Ythkenhbpimddpaa
