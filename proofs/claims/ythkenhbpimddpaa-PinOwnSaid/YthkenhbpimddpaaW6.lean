/- Words for memory, more: a store into an own row. -/
import Derived.Test.YthkenhbpimddpaaW5
namespace Go.Proofs.Ythkenhbpimddpaa
open Go.RowKit

section
variable {α : Type} {L : El α} {w w' : World} {xs ys zs news : List α} {A : Option Addr} {B B' e : Nat} {v : Value} {P : Program}

theorem El.flat_set (zs : List α) (i j : Nat) (x x' : α) (u : Value) (hx : zs[i]? = some x) (hj : j < L.k) (he : L.enc x' = (L.enc x).set j u) : L.flat (zs.set i x') = (L.flat zs).set (i * L.k + j) u := by
  induction zs generalizing i with
  | nil => simp at hx
  | cons y ys ih =>
    cases i with
    | zero =>
      simp only [List.getElem?_cons_zero, Option.some.injEq] at hx
      subst hx
      rw [List.set_cons_zero, El.flat_cons, El.flat_cons, he, List.set_append_left _ _ (by rw [L.len]; omega)]
      simp
    | succ i =>
      simp only [List.getElem?_cons_succ] at hx
      rw [List.set_cons_succ, El.flat_cons, El.flat_cons, ih i hx, List.set_append_right _ _ (by rw [L.len, Nat.add_mul]; omega), L.len]
      congr 2
      rw [Nat.add_mul]; omega

theorem heap_store_El {g i j : Nat} {x x' : α} {u : Value} (hg : w.heap[g]? = some (.cells (L.flat zs).toArray e (0, 0))) (hx : zs[i]? = some x) (hj : j < L.k) (he : L.enc x' = (L.enc x).set j u) :
    (w.setCell ⟨g, i * L.k + j, none⟩ u).heap[g]? = some (.cells (L.flat (zs.set i x')).toArray e (0, 0)) := by
  simp only [World.setCell, Array.getElem?_modify, if_true, hg, Option.map_some]
  rw [El.flat_set zs i j x x' u hx hj he]
  simp
theorem grown_store {a : World} {row : Option Nat} (h : a.grownBy w row) {p : Addr} (hp : row = some p.block ∨ a.heap.size ≤ p.block) (u : Value) : a.grownBy (w.setCell p u) row :=
  ⟨h.os, h.tape, h.output, by simpa [World.setCell] using h.size, fun i hi hne => (Below.heap_setCell w p u i (by
    rintro rfl
    rcases hp with hp | hp
    · exact hne hp.symm
    · omega)).trans (h.block i hi hne)⟩
/-- the cells of an own row, for the walk -/
theorem own_cell {g i j : Nat} {x : α} {u : Value} (hg : w.heap[g]? = some (.cells (L.flat zs).toArray e (0, 0))) (hx : zs[i]? = some x) (hu : (L.enc x)[j]? = some u) : w.cell? ⟨g, i * L.k + j, none⟩ = some u := by
  have hj : j < L.k := by rw [← L.len x]; exact (List.getElem?_eq_some_iff.1 hu).1
  rw [cell_of_row w g _ _ _ _ hg]
  simp only [List.getElem?_toArray]
  rw [El.flat_at _ i j x hx hj, hu]
theorem Own.form (h : Own L e w B v xs) (h0 : 0 < xs.length) : ∃ g ys, v = .slice (some ⟨g, 0, none⟩) xs.length (xs.length + ys.length) ∧ B ≤ g ∧ xs.length + ys.length ≤ maxLen ∧ w.heap[g]? = some (.cells (L.flat (xs ++ ys)).toArray e (0, 0)) := by
  rcases h with ⟨_, rfl⟩ | h
  · simp at h0
  · exact h
theorem set_append_left' (xs ys : List α) (i : Nat) (x : α) (h : i < xs.length) : (xs ++ ys).set i x = xs.set i x ++ ys := List.set_append_left _ _ h
/-- results: a row of the call's own and plain values -/
def OwnRet (L : El α) (e : Nat) (w : World) (xs : List α) (en : Ending) (w' : World) : Prop :=
  ∃ v, en = .returned v ∧ Own L e w' w.heap.size v xs ∧ Below w.heap.size w w'
def OwnRet1 (L : El α) (e : Nat) (w : World) (xs : List α) (r1 : Value) (en : Ending) (w' : World) : Prop :=
  ∃ v, en = .returned (.tuple #[v, r1]) ∧ Own L e w' w.heap.size v xs ∧ Below w.heap.size w w'
def OwnRet2 (L : El α) (e : Nat) (w : World) (xs : List α) (r1 r2 : Value) (en : Ending) (w' : World) : Prop :=
  ∃ v, en = .returned (.tuple #[v, r1, r2]) ∧ Own L e w' w.heap.size v xs ∧ Below w.heap.size w w'
/-- a function value that is entered -/
def Enters (P : Program) (g : Nat) : Prop := ∀ args w, (callFunc g args).run P w = .ok (.enter g args) w
theorem enters {f : FuncId} {fn : Func} (hf : P.funcs[f]? = some fn) (hname : (fn.name == "runtime.NumGoroutine") = false) (hb : fn.body.isSome = true) : Enters P f := by
  intro args w
  obtain ⟨c, hc⟩ := Option.isSome_iff_exists.1 hb
  have h1 : fn.name ≠ "runtime.NumGoroutine" := by simpa using hname
  simp [callFunc, hf, h1, hc]
theorem bcell {W W1 : World} (hb : Below W.heap.size W W1) : (∀ b o, b < W.heap.size → W1.cell? ⟨b, o, none⟩ = W.cell? ⟨b, o, none⟩) ∧ (∀ b o, b < W.heap.size → W1.frozen? ⟨b, o, none⟩ = W.frozen? ⟨b, o, none⟩) :=
  ⟨fun b o h => hb.cell (p := ⟨b, o, none⟩) h, fun b o h => hb.frozen (p := ⟨b, o, none⟩) h⟩
/-- a block of another type is written: the row stays -/
theorem Own.box {t g : Nat} {cs : Array Value} {fr : Nat × Nat} (h : Own L e w B v xs) (hg : w.heap[g]? = some (.cells cs t fr)) (hne : t ≠ e) (o : Nat) (u : Value) : Own L e (w.setCell ⟨g, o, none⟩ u) B v xs := by
  rcases h with h | ⟨g', ys, hv, hb, hm, hg'⟩
  · exact .inl h
  · refine .inr ⟨g', ys, hv, hb, hm, ?_⟩
    rw [Below.heap_setCell _ _ _ _ (by
      rintro rfl
      rw [hg] at hg'
      injection hg' with h1
      injection h1 with _ h2
      exact hne h2)]
    exact hg'
theorem box_other {t t' g g' o : Nat} {cs cs' : Array Value} {fr fr' : Nat × Nat} {u : Value} (h : w.heap[g]? = some (.cells cs t fr)) (h' : w.heap[g']? = some (.cells cs' t' fr')) (hne : t ≠ t') : (w.setCell ⟨g', o, none⟩ u).heap[g]? = some (.cells cs t fr) := by
  rw [Below.heap_setCell _ _ _ _ (by
    rintro rfl
    rw [h'] at h
    injection h with h1
    injection h1 with _ h2
    exact hne h2.symm)]
  exact h
theorem box_set {t g : Nat} {v0 u : Value} (h : w.heap[g]? = some (.cells #[v0] t (0, 0))) : (w.setCell ⟨g, 0, none⟩ u).heap[g]? = some (.cells #[u] t (0, 0)) := by
  simp [World.setCell, Array.getElem?_modify, h]
theorem box_cell {t g : Nat} {v0 : Value} (h : w.heap[g]? = some (.cells #[v0] t (0, 0))) : w.cell? ⟨g, 0, none⟩ = some v0 := by
  simp [World.cell?, h]
theorem heap_below {g : Nat} {o : Obj} (h : w.heap[g]? = some o) (hb : Below w.heap.size w w') : w'.heap[g]? = some o := by
  rw [hb.block g (Array.getElem?_eq_some_iff.1 h).1]; exact h
theorem heap_alloc_keep {g : Nat} {o o' : Obj} (h : w.heap[g]? = some o) : (w.alloc o').heap[g]? = some o := by
  rw [Below.heap_alloc _ _ _ (Array.getElem?_eq_some_iff.1 h).1]; exact h
theorem own_free {g o : Nat} {cs : Array Value} (hg : w.heap[g]? = some (.cells cs e (0, 0))) : w.frozen? ⟨g, o, none⟩ = false := by
  simp [World.frozen?, hg]
end
end Go.Proofs.Ythkenhbpimddpaa
