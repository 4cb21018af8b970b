/- Rows of a call's own, all their room counted up: what stays. -/
import Derived.Test.YthkenhbpimddpaaCl
import Derived.Test.YthkenhbpimddpaaW6
namespace Go.Proofs.Ythkenhbpimddpaa
open Go.RowKit

/-- a block that holds elements still holds as many -/
def Held {α : Type} (L : El α) (e : Nat) (w w' : World) : Prop :=
  ∀ (g : Nat) (zs : List α), w.heap[g]? = some (.cells (L.flat zs).toArray e (0, 0)) → ∃ zs' : List α, zs'.length = zs.length ∧ w'.heap[g]? = some (.cells (L.flat zs').toArray e (0, 0))
section
variable {α β : Type} {L : El α} {M : El β} {w w' w'' : World} {e e' B : Nat} {A : Option Addr} {c : Nat}
theorem Held.refl : Held L e w w := fun _ zs h => ⟨zs, rfl, h⟩
theorem Held.trans (h : Held L e w w') (k : Held L e w' w'') : Held L e w w'' := fun g zs hg => by
  obtain ⟨zs', hl, hg'⟩ := h g zs hg
  obtain ⟨zs2, hl2, hg2⟩ := k g zs' hg'
  exact ⟨zs2, hl2.trans hl, hg2⟩
theorem Held.drewN (h : Held L e w w') (n : Nat) : Held L e w (w'.drewN n) := h
theorem Held.same {g i j : Nat} {x x' : α} {zs : List α} {u : Value} (hg : w.heap[g]? = some (.cells (L.flat zs).toArray e (0, 0))) (hx : zs[i]? = some x) (hj : j < L.k) (he : L.enc x' = (L.enc x).set j u) :
    Held L e w (w.setCell ⟨g, i * L.k + j, none⟩ u) := fun g' zs' hg' => by
  by_cases h : g' = g
  · subst h
    have hst := heap_store_El hg hx hj he
    refine ⟨zs.set i x', ?_, hst⟩
    rw [hg] at hg'
    injection hg' with h1
    injection h1 with h1
    have h2 : (L.flat zs).length = (L.flat zs').length := by
      have := congrArg Array.size h1
      simpa using this
    rw [El.length_flat, El.length_flat] at h2
    rw [List.length_set]
    exact Nat.eq_of_mul_eq_mul_right L.pos h2
  · exact ⟨zs', rfl, by rw [Below.heap_setCell _ _ _ _ h]; exact hg'⟩
theorem Held.other {g o : Nat} {cs : Array Value} {fr : Nat × Nat} {u : Value} (hg : w.heap[g]? = some (.cells cs e' fr)) (hne : e' ≠ e) : Held L e w (w.setCell ⟨g, o, none⟩ u) := fun g' zs' hg' => by
  refine ⟨zs', rfl, ?_⟩
  rw [Below.heap_setCell _ _ _ _ (by
    rintro rfl
    rw [hg] at hg'
    injection hg' with h1
    injection h1 with _ h2
    exact hne h2)]
  exact hg'

/-- a slice's room: none, or a row of the call's own, known whole -/
def Room (L : El α) (e : Nat) (w : World) (B : Nat) (A : Option Addr) (c : Nat) : Prop :=
  c = 0 ∨ ∃ g zs, A = some ⟨g, 0, none⟩ ∧ c = zs.length ∧ B ≤ g ∧ w.heap[g]? = some (.cells (L.flat zs).toArray e (0, 0))
theorem Own.room {v : Value} {xs : List α} (h : Own L e w B v xs) : ∃ A c, v = .slice A xs.length c ∧ xs.length ≤ c ∧ c ≤ maxLen ∧ Room L e w B A c := by
  rcases h with ⟨rfl, rfl⟩ | ⟨g, ys, rfl, hb, hm, hg⟩
  · exact ⟨none, 0, rfl, Nat.le_refl _, by simp [maxLen], .inl rfl⟩
  · exact ⟨_, _, rfl, by omega, hm, .inr ⟨g, xs ++ ys, rfl, by simp, hb, hg⟩⟩
theorem Room.held (h : Room L e w B A c) (hh : Held L e w w') : Room L e w' B A c := by
  rcases h with h | ⟨g, zs, hA, hc, hB, hg⟩
  · exact .inl h
  · obtain ⟨zs', hl, hg'⟩ := hh g zs hg
    exact .inr ⟨g, zs', hA, hc.trans hl.symm, hB, hg'⟩
theorem Room.below (h : Room L e w B A c) (hb : Below w.heap.size w w') : Room L e w' B A c := by
  rcases h with h | ⟨g, zs, hA, hc, hB, hg⟩
  · exact .inl h
  · exact .inr ⟨g, zs, hA, hc, hB, heap_below hg hb⟩
theorem Room.mono {B' : Nat} (h : Room L e w B A c) (hB' : B' ≤ B) : Room L e w B' A c := by
  rcases h with h | ⟨g, zs, hA, hc, hB, hg⟩
  · exact .inl h
  · exact .inr ⟨g, zs, hA, hc, Nat.le_trans hB' hB, hg⟩
theorem Room.drewN (h : Room L e w B A c) (n : Nat) : Room L e (w.drewN n) B A c := h
end
end Go.Proofs.Ythkenhbpimddpaa
