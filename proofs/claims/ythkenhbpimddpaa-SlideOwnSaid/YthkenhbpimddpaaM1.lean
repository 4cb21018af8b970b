/- Laws and walks that the claim's proof uses, one behind the other:
  Words for memory: element types, slices that read as lists, rows of a call's own. No program in sight.
  Words for memory, more: append to an own row; what a walk wants of an own row.
  Words for memory, more: the laws at an operation of a walk.
  Words for memory, more: copy; append of a made slice; slices.overlaps.
  Words for memory, more: copy, clear and append of a made slice at an operation of a walk; parts of an own row.
  Words for memory, more: a store into an own row.
  Bits of uint64 as sums.
  Package head: what its functions compute, in plain Lean.
  slices.Clone at the element types of this program.
  Package head: the walks.
  Package head: Long, Read, Word: the walks.
  Package head: Word.
  A map of the call's own whose keys are numbers of one kind: it answers as a function. No program in sight.
  Spots: how they lie in cells.
  slices.IndexFunc, slices.ContainsFunc at a predicate that is known by a contract. -/
import Derived.WalkKit
import Derived.WalkSpells
import Derived.WalkLawsBesides
import Derived.Deep.QuietTactic
import Derived.BigQuiet
import Derived.Lib.Hide
import Derived.KernelRfl
import Derived.Laws.AppendOwn
import Derived.Lib.AppendZeros
import Derived.Lib.Overlaps
import Derived.Laws.Externs
import Derived.Laws.CopyRow
import Derived.Laws.CopyOwn
import Derived.Deep.RegionLaw
import Derived.Laws.BitsAllLaws
import Derived.Test.YthkenhbpimddpaaProg
import Derived.Maps.Keyed
namespace Go.Proofs.Ythkenhbpimddpaa
open Go.RowKit

/-- How an element of a slice is laid in cells. -/
structure El (α : Type) where
  k : Nat
  enc : α → List Value
  zero : α
  len : ∀ x, (enc x).length = k
  pos : 0 < k
  one : ∀ x, ∀ u ∈ enc x, u.oneCell' = true

def El.flat {α : Type} (L : El α) (xs : List α) : List Value := xs.flatMap L.enc

section
variable {α : Type} {L : El α} {w w' : World} {xs ys : List α} {A : Option Addr} {B B' e : Nat} {v : Value}

theorem El.flat_nil : L.flat [] = [] := rfl
theorem El.flat_cons (x : α) (xs : List α) : L.flat (x :: xs) = L.enc x ++ L.flat xs := by simp [El.flat]
theorem El.flat_append (xs ys : List α) : L.flat (xs ++ ys) = L.flat xs ++ L.flat ys := by simp [El.flat]
theorem El.length_flat (xs : List α) : (L.flat xs).length = xs.length * L.k := by
  induction xs with
  | nil => simp [El.flat]
  | cons x xs ih => rw [El.flat_cons, List.length_append, ih, L.len, List.length_cons, Nat.add_mul]; omega
theorem El.flat_one {u : Value} (xs : List α) (h : u ∈ L.flat xs) : u.oneCell' = true := by
  simp only [El.flat, List.mem_flatMap] at h
  obtain ⟨x, _, hx⟩ := h
  exact L.one x u hx
theorem El.flat_at (xs : List α) (i j : Nat) (x : α) (hx : xs[i]? = some x) (hj : j < L.k) : (L.flat xs)[i * L.k + j]? = (L.enc x)[j]? := by
  induction xs generalizing i with
  | nil => simp at hx
  | cons y ys ih =>
    rw [El.flat_cons]
    cases i with
    | zero =>
      simp only [List.getElem?_cons_zero, Option.some.injEq] at hx
      subst hx
      rw [List.getElem?_append_left (by rw [L.len]; omega)]
      simp
    | succ i =>
      simp only [List.getElem?_cons_succ] at hx
      rw [List.getElem?_append_right (by rw [L.len, Nat.add_mul]; omega), L.len]
      rw [← ih i hx]
      congr 1
      rw [Nat.add_mul]; omega
theorem El.flat_split (xs : List α) (m : Nat) (u : Value) (h : (L.flat xs)[m]? = some u) : ∃ i j x, m = i * L.k + j ∧ j < L.k ∧ xs[i]? = some x ∧ (L.enc x)[j]? = some u := by
  have hp := L.pos
  have hm : m < (L.flat xs).length := (List.getElem?_eq_some_iff.1 h).1
  rw [El.length_flat] at hm
  have hd : m = m / L.k * L.k + m % L.k := by rw [Nat.mul_comm]; exact (Nat.div_add_mod m L.k).symm
  have hi : m / L.k < xs.length := Nat.div_lt_of_lt_mul (by rw [Nat.mul_comm]; exact hm)
  have hx : xs[m / L.k]? = some xs[m / L.k] := List.getElem?_eq_getElem hi
  refine ⟨m / L.k, m % L.k, xs[m / L.k], hd, Nat.mod_lt _ hp, hx, ?_⟩
  rw [← El.flat_at xs _ _ _ hx (Nat.mod_lt _ hp), ← hd, h]

/-- A slice's address leads to the elements. -/
def Rd (L : El α) (w : World) (A : Option Addr) (xs : List α) : Prop :=
  ∀ i x, xs[i]? = some x → ∃ b off, A = some ⟨b, off, none⟩ ∧ b < w.heap.size ∧ ∀ j u, (L.enc x)[j]? = some u → w.cell? ⟨b, off + (i * L.k + j), none⟩ = some u

theorem Rd.nil : Rd L w A [] := fun i x h => by simp at h
theorem Rd.keep (h : Rd L w A xs) (hs : w.heap.size ≤ w'.heap.size) (hc : ∀ b o u, b < w.heap.size → (∃ o', A = some ⟨b, o', none⟩) → w.cell? ⟨b, o, none⟩ = some u → w'.cell? ⟨b, o, none⟩ = some u) : Rd L w' A xs := by
  intro i x hx
  obtain ⟨b, off, rfl, hlt, hh⟩ := h i x hx
  exact ⟨b, off, rfl, Nat.lt_of_lt_of_le hlt hs, fun j u hu => hc b _ u hlt ⟨_, rfl⟩ (hh j u hu)⟩
theorem Rd.below (h : Rd L w A xs) (hb : Below w.heap.size w w') : Rd L w' A xs :=
  h.keep hb.size fun b o _ hlt _ hu => (hb.cell (p := ⟨b, o, none⟩) hlt).trans hu
theorem Rd.drewN (h : Rd L w A xs) (n : Nat) : Rd L (w.drewN n) A xs := h
theorem Rd.drew (h : Rd L w A xs) : Rd L w.drew A xs := h
theorem Rd.alloc (h : Rd L w A xs) (o : Obj) : Rd L (w.alloc o) A xs := h.below ((Below.refl _ _).alloc (Nat.le_refl _) o)
/-- in one block, at an address -/
theorem Rd.at_ (h : Rd L w A xs) {i : Nat} {x : α} (hx : xs[i]? = some x) : ∃ b off, A = some ⟨b, off, none⟩ ∧ b < w.heap.size ∧ ∀ i x, xs[i]? = some x → ∀ j u, (L.enc x)[j]? = some u → w.cell? ⟨b, off + (i * L.k + j), none⟩ = some u := by
  obtain ⟨b, off, rfl, hlt, _⟩ := h i x hx
  refine ⟨b, off, rfl, hlt, fun i' x' hx' => ?_⟩
  obtain ⟨b', off', he, _, hc⟩ := h i' x' hx'
  injection he with he
  injection he with h1 h2
  subst h1; subst h2
  exact hc
theorem Rd.flat_ (h : Rd L w A xs) (hne : 0 < xs.length) : ∃ b off, A = some ⟨b, off, none⟩ ∧ b < w.heap.size ∧ ∀ m u, (L.flat xs)[m]? = some u → w.cell? ⟨b, off + m, none⟩ = some u := by
  obtain ⟨b, off, hA, hlt, hc⟩ := h.at_ (i := 0) (x := xs[0]) (List.getElem?_eq_getElem hne)
  refine ⟨b, off, hA, hlt, fun m u hu => ?_⟩
  obtain ⟨i, j, x, rfl, _, hx, hj⟩ := El.flat_split xs m u hu
  exact hc i x hx j u hj
theorem Rd.take (h : Rd L w A xs) (n : Nat) : Rd L w A (xs.take n) := fun i x hx => by
  rw [List.getElem?_take] at hx
  split at hx
  · exact h i x hx
  · cases hx
theorem Rd.drop (h : Rd L w A xs) (n : Nat) (A' : Option Addr) (hA : ∀ b off, A = some ⟨b, off, none⟩ → n < xs.length → A' = some ⟨b, off + n * L.k, none⟩) : Rd L w A' (xs.drop n) := fun i x hx => by
  rw [List.getElem?_drop] at hx
  have hlt : n + i < xs.length := (List.getElem?_eq_some_iff.1 hx).1
  obtain ⟨b, off, hA0, hb, hc⟩ := h (n + i) x hx
  refine ⟨b, _, hA b off hA0 (by omega), hb, fun j u hu => ?_⟩
  rw [← hc j u hu]
  congr 2
  rw [Nat.add_mul]; omega

/-- A row of the call's own: from block B on, all its cells known, its spare room too. -/
def Own (L : El α) (e : TypeId) (w : World) (B : Nat) (v : Value) (xs : List α) : Prop :=
  (v = .slice none 0 0 ∧ xs = []) ∨
  ∃ g ys, v = .slice (some ⟨g, 0, none⟩) xs.length (xs.length + ys.length) ∧ B ≤ g ∧ xs.length + ys.length ≤ maxLen ∧ w.heap[g]? = some (.cells (L.flat (xs ++ ys)).toArray e (0, 0))

theorem Own.nil : Own L e w B (.slice none 0 0) [] := .inl ⟨rfl, rfl⟩
theorem Own.lt (h : Own L e w B v xs) : ∀ k, v.ownBlock = some k → B ≤ k ∧ k < w.heap.size := by
  intro k hk
  rcases h with ⟨rfl, _⟩ | ⟨g, ys, rfl, hb, _, hg⟩
  · simp [Value.ownBlock] at hk
  · simp [Value.ownBlock] at hk
    subst hk
    exact ⟨hb, (Array.getElem?_eq_some_iff.1 hg).1⟩
theorem Own.mono (h : Own L e w B v xs) (hB : B' ≤ B) : Own L e w B' v xs := by
  rcases h with h | ⟨g, ys, hv, hb, r⟩
  · exact .inl h
  · exact .inr ⟨g, ys, hv, Nat.le_trans hB hb, r⟩
theorem Own.keep (h : Own L e w B v xs) (hk : ∀ g, v.ownBlock = some g → w'.heap[g]? = w.heap[g]?) : Own L e w' B v xs := by
  rcases h with h | ⟨g, ys, rfl, hb, hm, hg⟩
  · exact .inl h
  · exact .inr ⟨g, ys, rfl, hb, hm, (hk g rfl).trans hg⟩
theorem Own.below (h : Own L e w B v xs) (hb : Below w.heap.size w w') : Own L e w' B v xs := h.keep fun g hg => hb.block g (h.lt g hg).2
theorem Own.drewN (h : Own L e w B v xs) (n : Nat) : Own L e (w.drewN n) B v xs := h
theorem Own.drew (h : Own L e w B v xs) : Own L e w.drew B v xs := h
theorem Own.alloc (h : Own L e w B v xs) (o : Obj) : Own L e (w.alloc o) B v xs := h.below ((Below.refl _ _).alloc (Nat.le_refl _) o)
theorem Own.grown {row : Option Nat} (h : Own L e w B v xs) (hg : w.grownBy w' row) (hne : v.ownBlock = none ∨ v.ownBlock ≠ row) : Own L e w' B v xs :=
  h.keep fun g he => hg.block g (h.lt g he).2 (by rw [← he]; rcases hne with hn | hn; · rw [hn] at he; cases he
                                                  · exact hn)
/-- an own row read -/
theorem Own.rd (h : Own L e w B v xs) : ∃ A c, v = .slice A xs.length c ∧ xs.length ≤ c ∧ c ≤ maxLen ∧ Rd L w A xs := by
  rcases h with ⟨rfl, rfl⟩ | ⟨g, ys, rfl, hb, hm, hg⟩
  · exact ⟨none, 0, rfl, Nat.le_refl _, by simp [maxLen], Rd.nil⟩
  · refine ⟨some ⟨g, 0, none⟩, xs.length + ys.length, rfl, by omega, hm, fun i x hx => ⟨g, 0, rfl, (Array.getElem?_eq_some_iff.1 hg).1, fun j u hu => ?_⟩⟩
    have hj : j < L.k := by rw [← L.len x]; exact (List.getElem?_eq_some_iff.1 hu).1
    rw [cell_of_row w g _ _ _ _ hg, Nat.zero_add]
    simp only [List.getElem?_toArray]
    rw [El.flat_at _ i j x _ hj, hu]
    rw [List.getElem?_append_left (List.getElem?_eq_some_iff.1 hx).1]; exact hx
end
end Go.Proofs.Ythkenhbpimddpaa
namespace Go.Proofs.Ythkenhbpimddpaa
open Go.RowKit

section
variable {α : Type} {L : El α} {w w' : World} {xs ys news : List α} {A : Option Addr} {B B' e : Nat} {v : Value} {P : Program}

theorem El.flat_replicate (n : Nat) {z : Array Value} (hz : z = (L.enc L.zero).toArray) : Builtin.zeroCells z n = (L.flat (List.replicate n L.zero)).toArray := by
  have hk := L.len L.zero
  have hp := L.pos
  subst hz
  apply Array.ext'
  apply List.ext_getElem?
  intro m
  simp only [Builtin.zeroCells, List.size_toArray, hk]
  by_cases hm : m < n * L.k
  · have hi : m / L.k < n := Nat.div_lt_of_lt_mul (by rw [Nat.mul_comm]; exact hm)
    have hd : m = m / L.k * L.k + m % L.k := by rw [Nat.mul_comm]; exact (Nat.div_add_mod m L.k).symm
    have h1 := El.flat_at (L := L) (List.replicate n L.zero) (m / L.k) (m % L.k) L.zero (by simp [hi]) (Nat.mod_lt _ hp)
    rw [← hd] at h1
    have hl : m % L.k < (L.enc L.zero).length := by rw [hk]; exact Nat.mod_lt _ hp
    simp only [h1, Array.toList_map, List.getElem?_map, Array.getElem?_toList, Array.getElem?_range, hm, if_true, Option.map_some]
    rw [List.getElem?_eq_getElem hl, List.getElem!_toArray, List.getElem!_eq_getElem?_getD, List.getElem?_eq_getElem hl]
    rfl
  · have h1 : (L.flat (List.replicate n L.zero)).length ≤ m := by rw [El.length_flat, List.length_replicate]; omega
    rw [List.getElem?_eq_none h1]
    simp
    omega

/-- the type's row of the table, by this element -/
structure Ty (L : El α) (P : Program) (t e bytes : Nat) : Prop where
  slice : P.underlying t = some (.slice e)
  info : ∃ i z, P.info? e = some i ∧ i.zero = some z ∧ i.size = L.k ∧ i.bytes = bytes ∧ z.cells = (L.enc L.zero).toArray
theorem Ty.mk' {t e bytes : Nat} {z : Value} (h1 : P.underlying t = some (.slice e)) (h2 : (P.info? e).map (fun i => (i.zero, i.size, i.bytes)) = some (some z, L.k, bytes)) (h3 : z.cells = (L.enc L.zero).toArray) : Ty L P t e bytes := by
  obtain ⟨i, hi, hz, hs, hb⟩ := info_parts h2
  exact ⟨h1, i, z, hi, hz, hs, hb, h3⟩

theorem Own.made (hB : B ≤ w.heap.size) (ys : List α) (xs : List α) (hm : xs.length + ys.length ≤ maxLen) :
    Own L e (w.alloc (.cells (L.flat (xs ++ ys)).toArray e)) B (.slice (some ⟨w.heap.size, 0, none⟩) xs.length (xs.length + ys.length)) xs :=
  .inr ⟨w.heap.size, ys, rfl, hB, hm, heap_alloc_new w _⟩

theorem run_append_Own {t ty bytes : Nat} (T : Ty L P t e bytes) (hown : Own L e w B v xs) (hr : Rd L w A news) (c : Nat) (hB : B ≤ w.heap.size)
    (h63 : xs.length + news.length ≤ maxLen) (hbytes : (xs.length + news.length) * bytes ≤ 140737488355328) :
    ∃ v' w', (Builtin.append_ #[t, t] ty #[v, .slice A news.length c]).run P w = .ok v' w' ∧ Own L e w' B v' (xs ++ news) ∧ w.grownBy w' v.ownBlock ∧
      (v'.ownBlock = v.ownBlock ∨ v'.ownBlock = some w.heap.size) := by
  obtain ⟨ht, i, z, hi, hz, hk, hby, hzc⟩ := T
  subst hby
  have h63' : xs.length + news.length ≤ 9223372036854775807 := by simpa [maxLen] using h63
  by_cases hn : news.length = 0
  · have hn' : news = [] := List.eq_nil_of_length_eq_zero hn
    subst hn'
    refine ⟨v, w, ?_, by simpa using hown, World.grownBy.refl w _, .inl rfl⟩
    rcases hown with ⟨rfl, rfl⟩ | ⟨g, ys, rfl, hb, hm, hg⟩
    · cases A <;> simp [Builtin.append_, run_underlying ht, sizeOf, typeInfo, hi, Builtin.lenOf, Builtin.firstCells, loadCells, loadCellsFrom]
    · cases A <;> simp [Builtin.append_, run_underlying ht, sizeOf, typeInfo, hi, Builtin.lenOf, Builtin.firstCells, loadCells, loadCellsFrom, storeCells]
  · obtain ⟨b, off, rfl, hlt, hc⟩ := hr.flat_ (by omega)
    have hnews : ∀ j u, (L.flat news)[j]? = some u → w.cell? ((⟨b, off, none⟩ : Addr).add j) = some u := fun j u hu => by rw [Addr.add_lit]; exact hc j u hu
    have hl : (L.flat news).length = news.length * i.size := by rw [El.length_flat, hk]
    have grow : ∀ (old : Nat), old < xs.length + news.length → ∀ row : Option Nat,
        Own L e (w.drew.alloc (.cells ((L.flat xs).toArray ++ (L.flat news).toArray ++ Builtin.zeroCells z.cells (grownCap w (xs.length + news.length) old e - (xs.length + news.length))) e)) B
          (.slice (some ⟨w.heap.size, 0, none⟩) (xs.length + news.length) (grownCap w (xs.length + news.length) old e)) (xs ++ news) ∧
        w.grownBy (w.drew.alloc (.cells ((L.flat xs).toArray ++ (L.flat news).toArray ++ Builtin.zeroCells z.cells (grownCap w (xs.length + news.length) old e - (xs.length + news.length))) e)) row := by
      intro old ho row
      have hge := grownCap_ge w (xs.length + news.length) old e
      have hcm : grownCap w (xs.length + news.length) old e ≤ maxLen := grownCap_le_maxLen w (xs.length + news.length) old e h63
      refine ⟨.inr ⟨w.heap.size, List.replicate (grownCap w (xs.length + news.length) old e - (xs.length + news.length)) L.zero, ?_, hB, ?_, ?_⟩, ⟨rfl, rfl, rfl, by simp, fun k hk _ => Below.heap_alloc w.drew _ k hk⟩⟩
      · simp only [List.length_append, List.length_replicate]
        congr 1; omega
      · simp only [List.length_append, List.length_replicate]; omega
      · rw [El.flat_replicate _ hzc, El.flat_append, El.flat_append]
        simp only [List.append_toArray]
        exact heap_alloc_new w.drew _
    rcases hown with ⟨rfl, rfl⟩ | ⟨g, ys, rfl, hbg, hm, hg⟩
    · have hr := run_append_nil (P := P) w t ty e i z ht hi hz ⟨b, off, none⟩ news.length c (L.flat news) hl hnews (by omega) (by simp at h63'; omega) (by simp at hbytes; omega)
      have hgr := grow 0 (by omega) (Value.ownBlock (.slice none 0 0))
      simp only [List.length_nil, Nat.zero_add, List.nil_append, El.flat_nil, Array.empty_append] at hgr ⊢
      exact ⟨_, _, hr, hgr.1, hgr.2, .inr rfl⟩
    · by_cases hroom : xs.length + news.length ≤ xs.length + ys.length
      · have hfit : xs.length * i.size + (L.flat news).length ≤ (L.flat (xs ++ ys)).toArray.size := by
          simp only [List.size_toArray, El.length_flat, List.length_append, hk]
          rw [← Nat.add_mul]; exact Nat.mul_le_mul_right _ (by omega)
        have hr := run_append_room (P := P) w t ty e i ht hi g xs.length (xs.length + ys.length) _ hg ⟨b, off, none⟩ news.length c (L.flat news) hl hnews (fun u hu => El.flat_one _ hu) hroom hfit
        refine ⟨_, _, hr, .inr ⟨g, ys.drop news.length, ?_, hbg, ?_, ?_⟩, ⟨rfl, rfl, rfl, by simp [World.setRow], fun k _ hk => setRow_other w g k _ (fun e => hk (by simp [Value.ownBlock, e]))⟩, .inl rfl⟩
        · simp only [List.length_append, List.length_drop]
          congr 1; omega
        · simp only [List.length_append, List.length_drop]; omega
        · rw [setRow_heap w g _ _ e _ hg]
          congr 2
          have e1 : xs.length * i.size = (L.flat xs).length := by rw [El.length_flat, hk]
          have e2 : (L.flat (xs ++ ys)).drop (xs.length * i.size + (L.flat news).length) = L.flat (ys.drop news.length) := by
            rw [El.flat_append, e1, List.drop_append]
            simp only [List.drop_eq_nil_of_le (show (L.flat xs).length ≤ (L.flat xs).length + (L.flat news).length from by omega), List.nil_append, Nat.add_sub_cancel_left]
            conv => lhs; rw [← List.take_append_drop news.length ys, El.flat_append]
            rw [El.length_flat news]
            by_cases hle : news.length ≤ ys.length
            · rw [List.drop_left' (by rw [El.length_flat, List.length_take, Nat.min_eq_left hle])]
            · omega
          rw [e2, El.flat_append, El.flat_append, e1, El.flat_append, List.take_left]
      · have holds : ∀ j u, (L.flat xs)[j]? = some u → w.cell? ((⟨g, 0, none⟩ : Addr).add j) = some u := by
          intro j u hu
          rw [Addr.add_lit, cell_of_row w g _ _ _ _ hg]
          simp only [Nat.zero_add, List.getElem?_toArray]
          rw [El.flat_append, List.getElem?_append_left (List.getElem?_eq_some_iff.1 hu).1, hu]
        have hr := run_append_grow (P := P) w t ty e i z ht hi hz ⟨g, 0, none⟩ xs.length (xs.length + ys.length) (L.flat xs) (by rw [El.length_flat, hk]) holds ⟨b, off, none⟩ news.length c (L.flat news) hl hnews
          (by omega) (by omega) (growslice_fits (by omega) hbytes)
        have hgr := grow (xs.length + ys.length) (by omega) (some g)
        exact ⟨_, _, hr, hgr.1, hgr.2, .inr rfl⟩
end
end Go.Proofs.Ythkenhbpimddpaa
namespace Go.Proofs.Ythkenhbpimddpaa
open Go.RowKit

section
variable {α : Type} {L : El α} {w w' : World} {xs ys news : List α} {A : Option Addr} {B B' e : Nat} {v : Value} {P : Program}

theorem Rd.of_block {g : Nat} {fr : Nat × Nat} {cs : Array Value} (h : w.heap[g]? = some (.cells cs e fr)) (hc : cs = (L.flat xs).toArray) : Rd L w (some ⟨g, 0, none⟩) xs := by
  subst hc
  refine fun i x hx => ⟨g, 0, rfl, (Array.getElem?_eq_some_iff.1 h).1, fun j u hu => ?_⟩
  have hj : j < L.k := by rw [← L.len x]; exact (List.getElem?_eq_some_iff.1 hu).1
  rw [cell_of_row w g _ _ _ _ h, Nat.zero_add]
  simp only [List.getElem?_toArray]
  rw [El.flat_at _ i j x hx hj, hu]

theorem wp_append_Own {o : Oper} {a : Act} {K : Act → World → Prop} {Q : Exit → Act → World → Prop} (s x : Operand) {t bytes : Nat}
    (ho : o.op = .call { callee := .builtin .append, args := #[s, x], argTypes := #[t, t] })
    (T : Ty L P t e bytes) (hown : Own L e w B v xs) (hr : Rd L w A news) (hs : a.eval s = v) (n c : Nat) (hx : a.eval x = .slice A n c) (hn : n = news.length) (hB : B ≤ w.heap.size)
    (h63 : xs.length + news.length ≤ maxLen) (hbytes : (xs.length + news.length) * bytes ≤ 140737488355328)
    (h : ∀ v' w', Own L e w' B v' (xs ++ news) → w.grownBy w' v.ownBlock → (v'.ownBlock = v.ownBlock ∨ v'.ownBlock = some w.heap.size) → K (a.put o.dst v') w') : o.wp P a w K Q := by
  subst hn
  obtain ⟨v', w', hrun, h2, h3, h4⟩ := run_append_Own (ty := o.type) T hown hr c hB h63 hbytes
  unfold Oper.wp execOp
  simp only [ho, resolve, invoke, builtin, Sem.run_bind, Sem.run_pure, Result.andThen_ok, List.map_toArray, List.map_cons, List.map_nil, hs, hx, hrun]
  exact h v' w' h2 h3 h4

theorem wpList_append_Own {ops : Array Oper} {rest : List Oper} {o : Oper} {a : Act} {Q : Exit → Act → World → Prop} (hgd : o.guard = none) (s x : Operand) {t bytes : Nat}
    (ho : o.op = .call { callee := .builtin .append, args := #[s, x], argTypes := #[t, t] })
    (T : Ty L P t e bytes) (hown : Own L e w B v xs) (hr : Rd L w A news) (hs : a.eval s = v) (n c : Nat) (hx : a.eval x = .slice A n c) (hn : n = news.length) (hB : B ≤ w.heap.size)
    (h63 : xs.length + news.length ≤ maxLen) (hbytes : (xs.length + news.length) * bytes ≤ 140737488355328)
    (h : ∀ v' w', Own L e w' B v' (xs ++ news) → w.grownBy w' v.ownBlock → (v'.ownBlock = v.ownBlock ∨ v'.ownBlock = some w.heap.size) → wpList P ops Q rest (a.put o.dst v') w') : wpList P ops Q (o :: rest) a w :=
  wpList_plain hgd fun _ hK => wp_append_Own s x ho T hown hr hs n c hx hn hB h63 hbytes fun v' w' h2 h3 h4 => hK _ _ (h v' w' h2 h3 h4)

theorem step_append_Own {ops : Array Oper} {o : Oper} {a : Act} {K : Act → World → Prop} {Q : Exit → Act → World → Prop} {E : Prop} (hgd : o.guard = none) (s x : Operand) {t bytes : Nat}
    (ho : o.op = .call { callee := .builtin .append, args := #[s, x], argTypes := #[t, t] })
    (T : Ty L P t e bytes) (hown : Own L e w B v xs) (hr : Rd L w A news) (hs : a.eval s = v) (n c : Nat) (hx : a.eval x = .slice A n c) (hn : n = news.length) (hB : B ≤ w.heap.size)
    (h63 : xs.length + news.length ≤ maxLen) (hbytes : (xs.length + news.length) * bytes ≤ 140737488355328)
    (h : ∀ v' w', Own L e w' B v' (xs ++ news) → w.grownBy w' v.ownBlock → (v'.ownBlock = v.ownBlock ∨ v'.ownBlock = some w.heap.size) → K (a.put o.dst v') w') :
    if Region.wanted o (yielded ops a.tmps) = true then Oper.wp P o a w K Q else E := by
  have hw : Region.wanted o (yielded ops a.tmps) = true := by simp [Region.wanted, hgd]
  rw [if_pos hw]
  exact wp_append_Own s x ho T hown hr hs n c hx hn hB h63 hbytes h
end

/-- posts, behind names: the walk's simp does not open them -/
def Quiet (v : Value) (w : World) (e : Ending) (w' : World) : Prop := e = .returned v ∧ ∃ n, w' = w.drewN n
/-- a value, and below a block number nothing has turned -/
def Ret (v : Value) (w : World) (e : Ending) (w' : World) : Prop := e = .returned v ∧ Below w.heap.size w w'
def RetP (R : Value → World → Prop) (w : World) (e : Ending) (w' : World) : Prop := ∃ v, e = .returned v ∧ R v w' ∧ Below w.heap.size w w'
theorem bdrewN {B : Nat} {a w : World} (h : Below B a w) (n : Nat) : Below B a (w.drewN n) := ⟨h.os, h.tape, h.output, h.size, h.block⟩
theorem Quiet.ret {v : Value} {w : World} {e : Ending} {w' : World} (h : Quiet v w e w') : Ret v w e w' := by
  obtain ⟨rfl, n, rfl⟩ := h
  exact ⟨rfl, bdrewN (Below.refl _ _) n⟩
def sameL {α : Type} [DecidableEq α] (p q : List α) : Bool := decide (p = q)
theorem take_succ_eq {α : Type} {p q : List α} {k : Nat} {x y : α} (h : p.take k = q.take k) (hx : p[k]? = some x) (hy : q[k]? = some y) (hxy : x = y) : p.take (k + 1) = q.take (k + 1) := by
  rw [List.take_add_one, List.take_add_one, h, hx, hy, hxy]
theorem sameL_yes {α : Type} [DecidableEq α] {p q : List α} {k : Nat} (h : p.take k = q.take k) (hl : p.length = q.length) (hk : ¬ k < p.length) : sameL p q = true := by
  rw [List.take_of_length_le (by omega), List.take_of_length_le (by omega)] at h
  simp [sameL, h]
theorem sameL_no {α : Type} [DecidableEq α] {p q : List α} {k : Nat} {x y : α} (hx : p[k]? = some x) (hy : q[k]? = some y) (hxy : ¬ x = y) : sameL p q = false := by
  simp only [sameL, decide_eq_false_iff_not]
  intro h; subst h
  exact hxy (Option.some.inj (hx.symm.trans hy))
theorem sameL_len {α : Type} [DecidableEq α] {p q : List α} (h : ¬ p.length = q.length) : sameL p q = false := by
  simp only [sameL, decide_eq_false_iff_not]
  intro h'; exact h (by rw [h'])

/-! ### The data -/
structure Pin where
  at_ : Int
  many : Int
deriving DecidableEq, Inhabited
structure Slot where
  gen : Int
  open_ : Bool
  at_ : Int
deriving DecidableEq, Inhabited
def ePin : El Pin := { k := 2, enc := fun p => [.int .i64 p.at_, .int .i64 p.many], zero := ⟨0, 0⟩, len := fun _ => rfl, pos := by omega, one := fun x u h => by simp at h; rcases h with rfl | rfl <;> rfl }
def eSlot : El Slot := { k := 3, enc := fun s => [.int .i64 s.gen, .bool s.open_, .int .i64 s.at_], zero := ⟨0, false, 0⟩, len := fun _ => rfl, pos := by omega, one := fun x u h => by simp at h; rcases h with rfl | rfl | rfl <;> rfl }
def eInt : El Int := { k := 1, enc := fun n => [.int .i64 n], zero := 0, len := fun _ => rfl, pos := by omega, one := fun x u h => by simp at h; subst h; rfl }
def eU64 : El Nat := { k := 1, enc := fun n => [.int .u64 (n : Int)], zero := 0, len := fun _ => rfl, pos := by omega, one := fun x u h => by simp at h; subst h; rfl }
theorem Rd.int {w : World} {A : Option Addr} {l : List Int} (h : Rd eInt w A l) {k : Nat} {x : Int} (hx : l[k]? = some x) : ∃ b off, A = some ⟨b, off, none⟩ ∧ b < w.heap.size ∧ w.cell? ⟨b, off + k, none⟩ = some (.int .i64 x) := by
  obtain ⟨b, off, hA, hb, hc⟩ := h k x hx
  exact ⟨b, off, hA, hb, by simpa [eInt] using hc 0 _ rfl⟩
theorem Rd.u64 {w : World} {A : Option Addr} {l : List Nat} (h : Rd eU64 w A l) {k : Nat} {x : Nat} (hx : l[k]? = some x) : ∃ b off, A = some ⟨b, off, none⟩ ∧ b < w.heap.size ∧ w.cell? ⟨b, off + k, none⟩ = some (.int .u64 (x : Int)) := by
  obtain ⟨b, off, hA, hb, hc⟩ := h k x hx
  exact ⟨b, off, hA, hb, by simpa [eU64] using hc 0 _ rfl⟩
theorem Rd.pin {w : World} {A : Option Addr} {l : List Pin} (h : Rd ePin w A l) {k : Nat} {x : Pin} (hx : l[k]? = some x) : ∃ b off, A = some ⟨b, off, none⟩ ∧ b < w.heap.size ∧ w.cell? ⟨b, off + k * 2, none⟩ = some (.int .i64 x.at_) ∧ w.cell? ⟨b, off + k * 2 + 1, none⟩ = some (.int .i64 x.many) := by
  obtain ⟨b, off, hA, hb, hc⟩ := h k x hx
  exact ⟨b, off, hA, hb, hc 0 _ rfl, hc 1 _ rfl⟩
theorem Rd.slot {w : World} {A : Option Addr} {l : List Slot} (h : Rd eSlot w A l) {k : Nat} {x : Slot} (hx : l[k]? = some x) : ∃ b off, A = some ⟨b, off, none⟩ ∧ b < w.heap.size ∧ w.cell? ⟨b, off + k * 3, none⟩ = some (.int .i64 x.gen) ∧ w.cell? ⟨b, off + k * 3 + 1, none⟩ = some (.bool x.open_) ∧ w.cell? ⟨b, off + k * 3 + 2, none⟩ = some (.int .i64 x.at_) := by
  obtain ⟨b, off, hA, hb, hc⟩ := h k x hx
  exact ⟨b, off, hA, hb, hc 0 _ rfl, hc 1 _ rfl, hc 2 _ rfl⟩
def Pin.val (p : Pin) : Value := .agg #[.int .i64 p.at_, .int .i64 p.many]
def Slot.val (s : Slot) : Value := .agg #[.int .i64 s.gen, .bool s.open_, .int .i64 s.at_]
end Go.Proofs.Ythkenhbpimddpaa
namespace Go.Proofs.Ythkenhbpimddpaa
open Go.RowKit

section
variable {α : Type} {L : El α} {w w' : World} {xs ys zs news : List α} {A : Option Addr} {B B' e : Nat} {v : Value} {P : Program}

theorem El.flat_take (xs : List α) (n : Nat) : L.flat (xs.take n) = (L.flat xs).take (n * L.k) := by
  induction xs generalizing n with
  | nil => simp [El.flat]
  | cons x xs ih =>
    cases n with
    | zero => simp [El.flat]
    | succ n =>
      rw [List.take_succ_cons, El.flat_cons, El.flat_cons, ih, show (n + 1) * L.k = (L.enc x).length + n * L.k from by rw [L.len, Nat.add_mul]; omega, List.take_length_add_append]
theorem El.flat_drop (xs : List α) (n : Nat) : L.flat (xs.drop n) = (L.flat xs).drop (n * L.k) := by
  induction xs generalizing n with
  | nil => simp [El.flat]
  | cons x xs ih =>
    cases n with
    | zero => simp
    | succ n =>
      rw [List.drop_succ_cons, El.flat_cons, ih, show (n + 1) * L.k = (L.enc x).length + n * L.k from by rw [L.len, Nat.add_mul]; omega, List.drop_length_add_append]
theorem El.flat_splice (zs cs : List α) (d : Nat) : L.flat (splice zs d cs) = splice (L.flat zs) (d * L.k) (L.flat cs) := by
  simp only [splice, El.flat_append, El.flat_take, El.flat_drop, El.length_flat, Nat.add_mul]

/-- copy into a row that is known whole -/
theorem run_copy_El {t t' ty bytes g d dl dc c n m : Nat} (T : Ty L P t e bytes) (hg : w.heap[g]? = some (.cells (L.flat zs).toArray e (0, 0))) (hr : Rd L w A xs) (hn : n = xs.length)
    (dp : Option Addr) (hm : m = Nat.min n dl) (hpos : 0 < m → dp = some ⟨g, d * L.k, none⟩) (hfit : d + m ≤ zs.length) :
    ∃ w', (Builtin.copy_ #[t, t'] ty #[.slice dp dl dc, .slice A n c]).run P w = .ok (goInt m) w' ∧
      w'.heap[g]? = some (.cells (L.flat (splice zs d (xs.take m))).toArray e (0, 0)) ∧ w.grownBy w' (some g) ∧ w'.heap.size = w.heap.size := by
  obtain ⟨ht, i, z, hi, hz, hk, hby, hzc⟩ := T
  have hle : m ≤ xs.length := by rw [← hn, hm]; exact Nat.min_le_left _ _
  by_cases h0 : m = 0
  · subst h0
    refine ⟨w, ?_, by simpa [splice] using hg, World.grownBy.refl w _, rfl⟩
    cases A with
    | none => cases dp <;> simp [Builtin.copy_, run_underlying ht, Builtin.lenOf, Builtin.firstCells, sizeOf, typeInfo, hi, ← hm, storeCells]
    | some a => cases dp <;> simp [Builtin.copy_, run_underlying ht, Builtin.lenOf, Builtin.firstCells, sizeOf, typeInfo, hi, ← hm, loadCells, loadCellsFrom, storeCells]
  · have hx0 : 0 < xs.length := by omega
    obtain ⟨b, off, rfl, hlt, hc⟩ := hr.flat_ hx0
    obtain rfl := hpos (by omega)
    have hl := run_firstCells_some (P := P) w i.size m ⟨b, off, none⟩ n c (L.flat (xs.take m)) (by rw [El.length_flat, List.length_take, hk, Nat.min_eq_left hle])
      (fun j u hu => by
        rw [Addr.add_lit]
        refine hc j u ?_
        rw [El.flat_take, List.getElem?_take] at hu
        split at hu
        · exact hu
        · cases hu)
    have hlen : (L.flat (xs.take m)).length = m * L.k := by rw [El.length_flat, List.length_take, Nat.min_eq_left hle]
    have hst := run_storeCells_at P g (d * L.k) e (L.flat (xs.take m)) 0 _ w hg (by
        simp only [List.size_toArray, hlen, El.length_flat]
        rw [Nat.add_zero, ← Nat.add_mul]; exact Nat.mul_le_mul_right _ hfit) (fun u hu => El.flat_one _ hu)
    have hcell := setRow_heap w g (L.flat zs).toArray (L.flat (splice zs d (xs.take m))).toArray e (0, 0) hg
    refine ⟨_, ?_, hcell, ⟨rfl, rfl, rfl, by simp [World.setRow], fun k _ hk => setRow_other w g k _ (fun e => hk (by rw [e]))⟩, by simp [World.setRow]⟩
    have heq : ((L.flat zs).toArray.toList.take (d * L.k + 0) ++ L.flat (xs.take m) ++ (L.flat zs).toArray.toList.drop (d * L.k + 0 + (L.flat (xs.take m)).length)).toArray = (L.flat (splice zs d (xs.take m))).toArray := by
      rw [El.flat_splice, splice]
      simp only [Nat.add_zero, List.append_assoc]
    rw [heq] at hst
    generalize w.setRow g (L.flat (splice zs d (xs.take m))).toArray = w2 at hst ⊢
    generalize L.flat (xs.take m) = cs at hl hst
    simp [Builtin.copy_, run_underlying ht, Builtin.lenOf, sizeOf, typeInfo, hi, ← hm, hl, hst]

/-- append of a made slice, where it must grow -/
theorem run_append_zeros_El {t tn ty bytes : Nat} (T : Ty L P t e bytes) {k kn : IntKind} (htn : P.underlying tn = some (.int kn)) (hr : Rd L w A xs) (n m c : Nat) (hn : n = xs.length) (hgr : c < n + m) (hB : B ≤ w.heap.size)
    (h63 : n + m ≤ maxLen) (hb1 : m * bytes ≤ 281474976710656) (hfit : Builtin.nextslicecap (n + m) c * bytes ≤ 281474976710656) :
    ∃ v' w' , (Builtin.append_ #[t, tn] ty #[.slice A n c, .int k m]).run P w = .ok v' w' ∧ Own L e w' B v' (xs ++ List.replicate m L.zero) ∧ w.grownBy w' none ∧ v'.ownBlock = some w.heap.size ∧
      (∃ cap, v' = .slice (some ⟨w.heap.size, 0, none⟩) (n + m) cap) := by
  obtain ⟨ht, i, z, hi, hz, hk, hby, hzc⟩ := T
  subst hby
  subst hn
  have hp := L.pos
  have h63' : xs.length + m ≤ 9223372036854775807 := by simpa [maxLen] using h63
  have hw : IntKind.i64.wrap (m : Int) = m := by rw [IntKind.wrap_i64]; omega
  have hn : ¬ (xs.length + m ≤ c) := by omega
  have e63 : ¬ (9223372036854775807 < ((xs.length : Int) + (m : Int))) := by omega
  have e48 : ¬ (281474976710656 < Builtin.nextslicecap (xs.length + m) c * i.bytes) := by omega
  have e48i : ¬ (281474976710656 < (m : Int) * (i.bytes : Int)) := by
    have : ((m * i.bytes : Nat) : Int) ≤ 281474976710656 := by omega
    rw [Int.natCast_mul] at this; omega
  have hge := grownCap_ge w (xs.length + m) c e
  have hcm : grownCap w (xs.length + m) c e ≤ maxLen := grownCap_le_maxLen w (xs.length + m) c e h63
  have hold : (Builtin.firstCells i.size xs.length (.slice A xs.length c)).run P w.drew = .ok (L.flat xs).toArray w.drew := by
    by_cases h0 : xs.length = 0
    · have : xs = [] := List.eq_nil_of_length_eq_zero h0
      subst this
      cases A <;> simp [Builtin.firstCells, loadCells, loadCellsFrom, El.flat]
    · obtain ⟨b, off, rfl, hlt, hc⟩ := hr.flat_ (by omega)
      exact run_firstCells_some (P := P) w.drew i.size xs.length ⟨b, off, none⟩ xs.length c (L.flat xs) (by rw [El.length_flat, hk]) (fun j u hu => by rw [Addr.add_lit]; simpa using hc j u hu)
  have hzc' : (if m * i.size = 0 then #[] else Builtin.zeroCells z.cells m) = (L.flat (List.replicate m L.zero)).toArray := by
    by_cases h0 : m = 0
    · subst h0; simp [El.flat]
    · have : ¬ m * i.size = 0 := by rw [hk]; exact Nat.mul_ne_zero h0 (by omega)
      rw [if_neg this, El.flat_replicate _ hzc]
  refine ⟨.slice (some ⟨w.heap.size, 0, none⟩) (xs.length + m) (grownCap w (xs.length + m) c e),
    w.drew.alloc (.cells ((L.flat xs).toArray ++ (L.flat (List.replicate m L.zero)).toArray ++ Builtin.zeroCells z.cells (grownCap w (xs.length + m) c e - (xs.length + m))) e), ?_, ?_, ⟨rfl, rfl, rfl, by simp, fun k hk _ => Below.heap_alloc w.drew _ k hk⟩, rfl, _, rfl⟩
  · have hneg : ¬ ((m : Int) < 0) := by omega
    rw [← hzc']
    by_cases h0 : m * i.size = 0
    · simp [Builtin.append_, run_underlying ht, run_underlying htn, sizeOf, typeInfo, zeroValue, hi, hz, asInt, asIntOf, hw, hn, hneg, e63, e48, e48i, Question.forced, hold, newRow, grownCap, h0]
    · simp [Builtin.append_, run_underlying ht, run_underlying htn, sizeOf, typeInfo, zeroValue, hi, hz, asInt, asIntOf, hw, hn, hneg, e63, e48, e48i, Question.forced, hold, newRow, grownCap, h0]
  · refine .inr ⟨w.heap.size, List.replicate (grownCap w (xs.length + m) c e - (xs.length + m)) L.zero, ?_, hB, ?_, ?_⟩
    · simp only [List.length_append, List.length_replicate]
      congr 1; omega
    · simp only [List.length_append, List.length_replicate]; omega
    · rw [El.flat_replicate _ hzc, El.flat_append, El.flat_append]
      simp only [List.append_toArray]
      exact heap_alloc_new w.drew _
end
end Go.Proofs.Ythkenhbpimddpaa
namespace Go.Proofs.Ythkenhbpimddpaa
open Go.RowKit

section
variable {α : Type} {L : El α} {w w' : World} {xs ys zs news : List α} {A : Option Addr} {B B' e : Nat} {v : Value} {P : Program}

theorem wp_copy_El {o : Oper} {a : Act} {K : Act → World → Prop} {Q : Exit → Act → World → Prop} (d s : Operand) {t t' bytes g d0 dl dc c n m : Nat}
    (ho : o.op = .call { callee := .builtin .copy, args := #[d, s], argTypes := #[t, t'] })
    (T : Ty L P t e bytes) (hg : w.heap[g]? = some (.cells (L.flat zs).toArray e (0, 0))) (hr : Rd L w A xs) (hn : n = xs.length)
    {dp : Option Addr} (hd : a.eval d = .slice dp dl dc) (hs : a.eval s = .slice A n c) (hm : m = Nat.min n dl) (hpos : 0 < m → dp = some ⟨g, d0 * L.k, none⟩) (hfit : d0 + m ≤ zs.length)
    (h : ∀ w', Hid (w'.heap[g]? = some (.cells (L.flat (splice zs d0 (xs.take m))).toArray e (0, 0))) → w.grownBy w' (some g) → Hid (w'.heap.size = w.heap.size) → K (a.put o.dst (goInt m)) w') : o.wp P a w K Q := by
  obtain ⟨w', hrun, h2, h3, h4⟩ := run_copy_El (ty := o.type) (t' := t') (dc := dc) (c := c) T hg hr hn dp hm hpos hfit
  unfold Oper.wp execOp
  simp only [ho, resolve, invoke, builtin, Sem.run_bind, Sem.run_pure, Result.andThen_ok, List.map_toArray, List.map_cons, List.map_nil, hs, hd, hrun]
  exact h w' h2 h3 h4
theorem wpList_copy_El {ops : Array Oper} {rest : List Oper} {o : Oper} {a : Act} {Q : Exit → Act → World → Prop} (hgd : o.guard = none) (d s : Operand) {t t' bytes g d0 dl dc c n m : Nat}
    (ho : o.op = .call { callee := .builtin .copy, args := #[d, s], argTypes := #[t, t'] })
    (T : Ty L P t e bytes) (hg : w.heap[g]? = some (.cells (L.flat zs).toArray e (0, 0))) (hr : Rd L w A xs) (hn : n = xs.length)
    {dp : Option Addr} (hd : a.eval d = .slice dp dl dc) (hs : a.eval s = .slice A n c) (hm : m = Nat.min n dl) (hpos : 0 < m → dp = some ⟨g, d0 * L.k, none⟩) (hfit : d0 + m ≤ zs.length)
    (h : ∀ w', Hid (w'.heap[g]? = some (.cells (L.flat (splice zs d0 (xs.take m))).toArray e (0, 0))) → w.grownBy w' (some g) → Hid (w'.heap.size = w.heap.size) → wpList P ops Q rest (a.put o.dst (goInt m)) w') : wpList P ops Q (o :: rest) a w :=
  wpList_plain hgd fun _ hK => wp_copy_El d s ho T hg hr hn hd hs hm hpos hfit fun w' h2 h3 h4 => hK _ _ (h w' h2 h3 h4)
theorem step_copy_El {ops : Array Oper} {o : Oper} {a : Act} {K : Act → World → Prop} {Q : Exit → Act → World → Prop} {E : Prop} (hgd : o.guard = none) (d s : Operand) {t t' bytes g d0 dl dc c n m : Nat}
    (ho : o.op = .call { callee := .builtin .copy, args := #[d, s], argTypes := #[t, t'] })
    (T : Ty L P t e bytes) (hg : w.heap[g]? = some (.cells (L.flat zs).toArray e (0, 0))) (hr : Rd L w A xs) (hn : n = xs.length)
    {dp : Option Addr} (hd : a.eval d = .slice dp dl dc) (hs : a.eval s = .slice A n c) (hm : m = Nat.min n dl) (hpos : 0 < m → dp = some ⟨g, d0 * L.k, none⟩) (hfit : d0 + m ≤ zs.length)
    (h : ∀ w', Hid (w'.heap[g]? = some (.cells (L.flat (splice zs d0 (xs.take m))).toArray e (0, 0))) → w.grownBy w' (some g) → Hid (w'.heap.size = w.heap.size) → K (a.put o.dst (goInt m)) w') :
    if Region.wanted o (yielded ops a.tmps) = true then Oper.wp P o a w K Q else E := by
  have hw : Region.wanted o (yielded ops a.tmps) = true := by simp [Region.wanted, hgd]
  rw [if_pos hw]
  exact wp_copy_El d s ho T hg hr hn hd hs hm hpos hfit h

theorem wp_appendz_El {o : Oper} {a : Act} {K : Act → World → Prop} {Q : Exit → Act → World → Prop} (s x : Operand) {t tn bytes : Nat}
    (ho : o.op = .call { callee := .builtin .append, args := #[s, x], argTypes := #[t, tn] })
    (T : Ty L P t e bytes) {k kn : IntKind} (htn : P.underlying tn = some (.int kn)) (hr : Rd L w A xs) {n m c : Nat} (hs : a.eval s = .slice A n c) (hx : a.eval x = .int k m) (hn : n = xs.length) (N H : Nat) (hN : n + m = N) (hH : w.heap.size = H) (hgr : c < N)
    (h63 : N ≤ maxLen) (hb1 : m * bytes ≤ 281474976710656) (hfit : Builtin.nextslicecap N c * bytes ≤ 281474976710656)
    (h : ∀ ys w', Hid (w'.heap[H]? = some (.cells (L.flat (xs ++ List.replicate m L.zero ++ ys)).toArray e (0, 0))) → Hid (N + ys.length ≤ maxLen) → w.grownBy w' none → K (a.put o.dst (.slice (some ⟨H, 0, none⟩) N (N + ys.length))) w') : o.wp P a w K Q := by
  subst hN
  subst hH
  obtain ⟨v', w', hrun, h2, h3, h4, cap, rfl⟩ := run_append_zeros_El (ty := o.type) (k := k) (B := w.heap.size) T htn hr n m c hn hgr (Nat.le_refl _) h63 hb1 hfit
  rcases h2 with ⟨h2, _⟩ | ⟨g, ys, h2, _, h5, h6⟩
  · cases h2
  · injection h2 with e1 _ e3
    injection e1 with e1
    injection e1 with e1
    subst e1
    have hl : (xs ++ List.replicate m L.zero).length = n + m := by simp [hn]
    rw [hl] at e3 h5
    subst e3
    unfold Oper.wp execOp
    simp only [ho, resolve, invoke, builtin, Sem.run_bind, Sem.run_pure, Result.andThen_ok, List.map_toArray, List.map_cons, List.map_nil, hs, hx, hrun]
    exact h ys w' h6 h5 h3
theorem wpList_appendz_El {ops : Array Oper} {rest : List Oper} {o : Oper} {a : Act} {Q : Exit → Act → World → Prop} (hgd : o.guard = none) (s x : Operand) {t tn bytes : Nat}
    (ho : o.op = .call { callee := .builtin .append, args := #[s, x], argTypes := #[t, tn] })
    (T : Ty L P t e bytes) {k kn : IntKind} (htn : P.underlying tn = some (.int kn)) (hr : Rd L w A xs) {n m c : Nat} (hs : a.eval s = .slice A n c) (hx : a.eval x = .int k m) (hn : n = xs.length) (N H : Nat) (hN : n + m = N) (hH : w.heap.size = H) (hgr : c < N)
    (h63 : N ≤ maxLen) (hb1 : m * bytes ≤ 281474976710656) (hfit : Builtin.nextslicecap N c * bytes ≤ 281474976710656)
    (h : ∀ ys w', Hid (w'.heap[H]? = some (.cells (L.flat (xs ++ List.replicate m L.zero ++ ys)).toArray e (0, 0))) → Hid (N + ys.length ≤ maxLen) → w.grownBy w' none → wpList P ops Q rest (a.put o.dst (.slice (some ⟨H, 0, none⟩) N (N + ys.length))) w') : wpList P ops Q (o :: rest) a w :=
  wpList_plain hgd fun _ hK => wp_appendz_El s x ho T htn hr hs hx hn N H hN hH hgr h63 hb1 hfit fun v' w' h2 h3 h4 => hK _ _ (h v' w' h2 h3 h4)

/-- clear of a part of an own row -/
theorem run_clear_El {t ty bytes g d n c : Nat} (T : Ty L P t e bytes) (hg : w.heap[g]? = some (.cells (L.flat zs).toArray e (0, 0))) (dp : Option Addr) (hpos : 0 < n → dp = some ⟨g, d * L.k, none⟩) (hfit : d + n ≤ zs.length) :
    ∃ w', (Builtin.clear_ #[t] ty #[.slice dp n c]).run P w = .ok (.tuple #[]) w' ∧
      w'.heap[g]? = some (.cells (L.flat (splice zs d (List.replicate n L.zero))).toArray e (0, 0)) ∧ w.grownBy w' (some g) ∧ w'.heap.size = w.heap.size := by
  obtain ⟨ht, i, z, hi, hz, hk, hby, hzc⟩ := T
  by_cases h0 : n = 0
  · subst h0
    refine ⟨w, ?_, by simpa [splice] using hg, World.grownBy.refl w _, rfl⟩
    cases dp <;> simp [Builtin.clear_, run_underlying ht]
  · obtain rfl := hpos (by omega)
    have hlen : (L.flat (List.replicate n L.zero)).length = n * L.k := by rw [El.length_flat, List.length_replicate]
    have hst := run_storeCells_at P g (d * L.k) e (L.flat (List.replicate n L.zero)) 0 _ w hg (by
        simp only [List.size_toArray, hlen, El.length_flat]
        rw [Nat.add_zero, ← Nat.add_mul]; exact Nat.mul_le_mul_right _ hfit) (fun u hu => El.flat_one _ hu)
    have hcell := setRow_heap w g (L.flat zs).toArray (L.flat (splice zs d (List.replicate n L.zero))).toArray e (0, 0) hg
    refine ⟨_, ?_, hcell, ⟨rfl, rfl, rfl, by simp [World.setRow], fun k _ hk => setRow_other w g k _ (fun e => hk (by rw [e]))⟩, by simp [World.setRow]⟩
    have heq : ((L.flat zs).toArray.toList.take (d * L.k + 0) ++ L.flat (List.replicate n L.zero) ++ (L.flat zs).toArray.toList.drop (d * L.k + 0 + (L.flat (List.replicate n L.zero)).length)).toArray = (L.flat (splice zs d (List.replicate n L.zero))).toArray := by
      rw [El.flat_splice, splice]
      simp only [Nat.add_zero, List.append_assoc]
    rw [heq] at hst
    generalize w.setRow g (L.flat (splice zs d (List.replicate n L.zero))).toArray = w2 at hst ⊢
    have hzz := El.flat_replicate (L := L) n hzc
    have hzl : (Builtin.zeroCells z.cells n).toList = L.flat (List.replicate n L.zero) := by rw [hzz]
    generalize L.flat (List.replicate n L.zero) = cs at hst hzl
    obtain ⟨n, rfl⟩ : ∃ k, n = k + 1 := ⟨n - 1, by omega⟩
    simp [Builtin.clear_, run_underlying ht, zeroValue, typeInfo, hi, hz, hzl, hst]
theorem wpList_clear_El {ops : Array Oper} {rest : List Oper} {o : Oper} {a : Act} {Q : Exit → Act → World → Prop} (hgd : o.guard = none) (d : Operand) {t bytes g d0 n c : Nat}
    (ho : o.op = .call { callee := .builtin .clear, args := #[d], argTypes := #[t] })
    (T : Ty L P t e bytes) (hg : w.heap[g]? = some (.cells (L.flat zs).toArray e (0, 0)))
    {dp : Option Addr} (hd : a.eval d = .slice dp n c) (hpos : 0 < n → dp = some ⟨g, d0 * L.k, none⟩) (hfit : d0 + n ≤ zs.length)
    (h : ∀ w', Hid (w'.heap[g]? = some (.cells (L.flat (splice zs d0 (List.replicate n L.zero))).toArray e (0, 0))) → w.grownBy w' (some g) → Hid (w'.heap.size = w.heap.size) → wpList P ops Q rest (a.put o.dst (.tuple #[])) w') : wpList P ops Q (o :: rest) a w :=
  wpList_plain hgd fun _ hK => by
    obtain ⟨w', hrun, h2, h3, h4⟩ := run_clear_El (ty := o.type) (c := c) T hg dp hpos hfit
    unfold Oper.wp execOp
    simp only [ho, resolve, invoke, builtin, Sem.run_bind, Sem.run_pure, Result.andThen_ok, List.map_toArray, List.map_cons, List.map_nil, hd, hrun]
    exact hK _ _ (h w' h2 h3 h4)

/-- the slices overlap not, where one lies in another block, all of it plain memory -/
theorem run_overlaps_El {tS tR bytes : Nat} (T : Ty L P tS e bytes) {a b : Addr} {la ca lb cb : Nat} (hne : a.block ≠ b.block) {csA csB : Array Value} {tA tB : TypeId}
    (ha : w.heap[a.block]? = some (.cells csA tA (0, 0))) (hb : w.heap[b.block]? = some (.cells csB tB (0, 0))) (hB : csB.size ≠ 0) :
    (Extern.SlicesOverlaps.overlaps #[tS, tS] #[tR] #[.slice (some a) la ca, .slice (some b) lb cb]).run P w = .ok (.bool false) w := by
  obtain ⟨ht, i, z, hi, hz, hk, hby, hzc⟩ := T
  exact Lib.run_overlaps_apart w tS tR e ht i.size (fun w => by simp [sizeOf, typeInfo, hi]) a b la ca lb cb hne tA tB csA.size csB.size (by simp [World.shape?, ha]) (by simp [World.shape?, hb]) hB (by simp [World.frozen?, ha]) (by simp [World.frozen?, ha])

/-- insert at a place -/
def insAt {α : Type} (xs : List α) (i : Nat) (x : α) : List α := xs.take i ++ x :: xs.drop i
theorem length_insAt (xs : List α) (i : Nat) (x : α) (hi : i ≤ xs.length) : (insAt xs i x).length = xs.length + 1 := by simp [insAt]; omega
end
end Go.Proofs.Ythkenhbpimddpaa
namespace Go.Proofs.Ythkenhbpimddpaa
open Go.RowKit

section
variable {α : Type} {L : El α} {w w' : World} {xs ys zs news : List α} {A : Option Addr} {B B' e : Nat} {v : Value} {P : Program}

theorem El.flat_set (zs : List α) (i j : Nat) (x x' : α) (u : Value) (hx : zs[i]? = some x) (hj : j < L.k) (he : L.enc x' = (L.enc x).set j u) : L.flat (zs.set i x') = (L.flat zs).set (i * L.k + j) u := by
  induction zs generalizing i with
  | nil => simp at hx
  | cons y ys ih =>
    cases i with
    | zero =>
      simp only [List.getElem?_cons_zero, Option.some.injEq] at hx
      subst hx
      rw [List.set_cons_zero, El.flat_cons, El.flat_cons, he, List.set_append_left _ _ (by rw [L.len]; omega)]
      simp
    | succ i =>
      simp only [List.getElem?_cons_succ] at hx
      rw [List.set_cons_succ, El.flat_cons, El.flat_cons, ih i hx, List.set_append_right _ _ (by rw [L.len, Nat.add_mul]; omega), L.len]
      congr 2
      rw [Nat.add_mul]; omega

theorem heap_store_El {g i j : Nat} {x x' : α} {u : Value} (hg : w.heap[g]? = some (.cells (L.flat zs).toArray e (0, 0))) (hx : zs[i]? = some x) (hj : j < L.k) (he : L.enc x' = (L.enc x).set j u) :
    (w.setCell ⟨g, i * L.k + j, none⟩ u).heap[g]? = some (.cells (L.flat (zs.set i x')).toArray e (0, 0)) := by
  simp only [World.setCell, Array.getElem?_modify, if_true, hg, Option.map_some]
  rw [El.flat_set zs i j x x' u hx hj he]
  simp
theorem grown_store {a : World} {row : Option Nat} (h : a.grownBy w row) {p : Addr} (hp : row = some p.block ∨ a.heap.size ≤ p.block) (u : Value) : a.grownBy (w.setCell p u) row :=
  ⟨h.os, h.tape, h.output, by simpa [World.setCell] using h.size, fun i hi hne => (Below.heap_setCell w p u i (by
    rintro rfl
    rcases hp with hp | hp
    · exact hne hp.symm
    · omega)).trans (h.block i hi hne)⟩
/-- the cells of an own row, for the walk -/
theorem own_cell {g i j : Nat} {x : α} {u : Value} (hg : w.heap[g]? = some (.cells (L.flat zs).toArray e (0, 0))) (hx : zs[i]? = some x) (hu : (L.enc x)[j]? = some u) : w.cell? ⟨g, i * L.k + j, none⟩ = some u := by
  have hj : j < L.k := by rw [← L.len x]; exact (List.getElem?_eq_some_iff.1 hu).1
  rw [cell_of_row w g _ _ _ _ hg]
  simp only [List.getElem?_toArray]
  rw [El.flat_at _ i j x hx hj, hu]
theorem Own.form (h : Own L e w B v xs) (h0 : 0 < xs.length) : ∃ g ys, v = .slice (some ⟨g, 0, none⟩) xs.length (xs.length + ys.length) ∧ B ≤ g ∧ xs.length + ys.length ≤ maxLen ∧ w.heap[g]? = some (.cells (L.flat (xs ++ ys)).toArray e (0, 0)) := by
  rcases h with ⟨_, rfl⟩ | h
  · simp at h0
  · exact h
theorem set_append_left' (xs ys : List α) (i : Nat) (x : α) (h : i < xs.length) : (xs ++ ys).set i x = xs.set i x ++ ys := List.set_append_left _ _ h
/-- results: a row of the call's own and plain values -/
def OwnRet (L : El α) (e : Nat) (w : World) (xs : List α) (en : Ending) (w' : World) : Prop :=
  ∃ v, en = .returned v ∧ Own L e w' w.heap.size v xs ∧ Below w.heap.size w w'
def OwnRet1 (L : El α) (e : Nat) (w : World) (xs : List α) (r1 : Value) (en : Ending) (w' : World) : Prop :=
  ∃ v, en = .returned (.tuple #[v, r1]) ∧ Own L e w' w.heap.size v xs ∧ Below w.heap.size w w'
def OwnRet2 (L : El α) (e : Nat) (w : World) (xs : List α) (r1 r2 : Value) (en : Ending) (w' : World) : Prop :=
  ∃ v, en = .returned (.tuple #[v, r1, r2]) ∧ Own L e w' w.heap.size v xs ∧ Below w.heap.size w w'
/-- a function value that is entered -/
def Enters (P : Program) (g : Nat) : Prop := ∀ args w, (callFunc g args).run P w = .ok (.enter g args) w
theorem enters {f : FuncId} {fn : Func} (hf : P.funcs[f]? = some fn) (hname : (fn.name == "runtime.NumGoroutine") = false) (hb : fn.body.isSome = true) : Enters P f := by
  intro args w
  obtain ⟨c, hc⟩ := Option.isSome_iff_exists.1 hb
  have h1 : fn.name ≠ "runtime.NumGoroutine" := by simpa using hname
  simp [callFunc, hf, h1, hc]
theorem bcell {W W1 : World} (hb : Below W.heap.size W W1) : (∀ b o, b < W.heap.size → W1.cell? ⟨b, o, none⟩ = W.cell? ⟨b, o, none⟩) ∧ (∀ b o, b < W.heap.size → W1.frozen? ⟨b, o, none⟩ = W.frozen? ⟨b, o, none⟩) :=
  ⟨fun b o h => hb.cell (p := ⟨b, o, none⟩) h, fun b o h => hb.frozen (p := ⟨b, o, none⟩) h⟩
/-- a block of another type is written: the row stays -/
theorem Own.box {t g : Nat} {cs : Array Value} {fr : Nat × Nat} (h : Own L e w B v xs) (hg : w.heap[g]? = some (.cells cs t fr)) (hne : t ≠ e) (o : Nat) (u : Value) : Own L e (w.setCell ⟨g, o, none⟩ u) B v xs := by
  rcases h with h | ⟨g', ys, hv, hb, hm, hg'⟩
  · exact .inl h
  · refine .inr ⟨g', ys, hv, hb, hm, ?_⟩
    rw [Below.heap_setCell _ _ _ _ (by
      rintro rfl
      rw [hg] at hg'
      injection hg' with h1
      injection h1 with _ h2
      exact hne h2)]
    exact hg'
theorem box_other {t t' g g' o : Nat} {cs cs' : Array Value} {fr fr' : Nat × Nat} {u : Value} (h : w.heap[g]? = some (.cells cs t fr)) (h' : w.heap[g']? = some (.cells cs' t' fr')) (hne : t ≠ t') : (w.setCell ⟨g', o, none⟩ u).heap[g]? = some (.cells cs t fr) := by
  rw [Below.heap_setCell _ _ _ _ (by
    rintro rfl
    rw [h'] at h
    injection h with h1
    injection h1 with _ h2
    exact hne h2.symm)]
  exact h
theorem box_set {t g : Nat} {v0 u : Value} (h : w.heap[g]? = some (.cells #[v0] t (0, 0))) : (w.setCell ⟨g, 0, none⟩ u).heap[g]? = some (.cells #[u] t (0, 0)) := by
  simp [World.setCell, Array.getElem?_modify, h]
theorem box_cell {t g : Nat} {v0 : Value} (h : w.heap[g]? = some (.cells #[v0] t (0, 0))) : w.cell? ⟨g, 0, none⟩ = some v0 := by
  simp [World.cell?, h]
theorem heap_below {g : Nat} {o : Obj} (h : w.heap[g]? = some o) (hb : Below w.heap.size w w') : w'.heap[g]? = some o := by
  rw [hb.block g (Array.getElem?_eq_some_iff.1 h).1]; exact h
theorem heap_alloc_keep {g : Nat} {o o' : Obj} (h : w.heap[g]? = some o) : (w.alloc o').heap[g]? = some o := by
  rw [Below.heap_alloc _ _ _ (Array.getElem?_eq_some_iff.1 h).1]; exact h
theorem own_free {g o : Nat} {cs : Array Value} (hg : w.heap[g]? = some (.cells cs e (0, 0))) : w.frozen? ⟨g, o, none⟩ = false := by
  simp [World.frozen?, hg]
end
end Go.Proofs.Ythkenhbpimddpaa
namespace Go.Proofs.Ythkenhbpimddpaa

theorem or16 (i n : Nat) (hi : i < 65536) (hn : n < 65536) : bits .or .u64 (i : Int) ((n : Int) * 65536) = (i : Int) + (n : Int) * 65536 := by
  have h := u64_or_nat i (n * 65536) (by omega) (by omega)
  rw [Int.natCast_mul] at h
  rw [show ((65536 : Nat) : Int) = 65536 from rfl] at h
  rw [h, Nat.or_comm, nat_join 16 (n * 65536) i (by rw [show (2 : Nat) ^ 16 = 65536 from rfl]; omega) (by rw [show (2 : Nat) ^ 16 = 65536 from rfl]; omega)]
  omega
theorem and16 (a : Nat) (ha : a < 18446744073709551616) : bits .and .u64 (a : Int) 65535 = ((a % 65536 : Nat) : Int) := by
  have h := u64_and_nat a 65535 ha (by omega)
  rw [show ((65535 : Nat) : Int) = 65535 from rfl] at h
  rw [h, show (65535 : Nat) = 2 ^ 16 - 1 from rfl, Nat.and_two_pow_sub_one_eq_mod]
end Go.Proofs.Ythkenhbpimddpaa
namespace Go.Proofs.Ythkenhbpimddpaa

structure Head where
  refs : Int
  body : Int
  tag : Int
  free : Bool
deriving DecidableEq, Inhabited
def Head.val (h : Head) : Value := .agg #[.int .i64 h.refs, .int .i64 h.body, .int .i64 h.tag, .bool h.free]
def Head.nil : Head := ⟨0, 0, 0, false⟩
def eHead : El Head := { k := 4, enc := fun h => [.int .i64 h.refs, .int .i64 h.body, .int .i64 h.tag, .bool h.free], zero := ⟨0, 0, 0, false⟩, len := fun _ => rfl, pos := by omega, one := fun x u h => by simp at h; rcases h with rfl | rfl | rfl | rfl <;> rfl }
def headLong (h : Head) : Int := 1 + h.refs + h.body
def headCheck (h : Head) : Int :=
  if h.refs < 0 ∨ h.body < 0 ∨ h.tag < 0 ∨ h.refs > 256 ∨ h.body > 256 ∨ h.tag > 65535 then 4
  else if h.free = true ∧ (h.refs > 0 ∨ h.tag > 0) then 3
  else if headLong h > 256 then 2 else 0
theorem headCheck_ok {h : Head} (hc : headCheck h = 0) : 0 ≤ h.refs ∧ 0 ≤ h.body ∧ 0 ≤ h.tag ∧ h.tag ≤ 65535 ∧ 1 + h.refs + h.body ≤ 256 ∧ (h.free = true → h.refs = 0 ∧ h.tag = 0) := by
  unfold headCheck headLong at hc
  split at hc
  · exact absurd hc (by decide)
  · split at hc
    · exact absurd hc (by decide)
    · rename_i h1 h2
      split at hc
      · exact absurd hc (by decide)
      · exact ⟨by omega, by omega, by omega, by omega, by omega, fun hf => by
          have h3 : ¬ (h.refs > 0 ∨ h.tag > 0) := fun h3 => h2 ⟨hf, h3⟩
          omega⟩
theorem headCheck_mk {h : Head} (h1 : 0 ≤ h.refs) (h2 : 0 ≤ h.body) (h3 : 0 ≤ h.tag) (h4 : h.tag ≤ 65535) (h5 : 1 + h.refs + h.body ≤ 256) (h6 : h.free = true → h.refs = 0 ∧ h.tag = 0) : headCheck h = 0 := by
  unfold headCheck headLong
  rw [if_neg (by omega), if_neg (by rintro ⟨hf, h⟩; have := h6 hf; omega), if_neg (by omega)]

/-- a word as a head, unchecked -/
def headOf (v : Nat) : Head := ⟨(v % 65536 : Nat), (v / 65536 % 65536 : Nat), (v / 4294967296 % 65536 : Nat), decide (v / 281474976710656 % 2 = 1)⟩
def headBad (v : Nat) : Bool := !(decide (v / 562949953421312 = 0) && decide (headCheck (headOf v) = 0))
def headRead (v : Nat) : Head × Int := if headBad v = true then (Head.nil, 3) else (headOf v, 0)
def headNat (h : Head) : Int := h.refs + h.body * 65536 + h.tag * 4294967296 + (if h.free = true then 281474976710656 else 0)
theorem headBad_no {v : Nat} (h : headBad v = false) : v / 562949953421312 = 0 ∧ headCheck (headOf v) = 0 := by simpa [headBad] using h
theorem headBad_mk {v : Nat} (h1 : v / 562949953421312 = 0) (h2 : headCheck (headOf v) = 0) : headBad v = false := by simp [headBad, h1, h2]
end Go.Proofs.Ythkenhbpimddpaa
namespace Go.Proofs.Ythkenhbpimddpaa
open Go.RowKit

theorem tyPin : Ty ePin Try.prog 22 29 16 := Ty.mk' (z := .agg #[.int .i64 0, .int .i64 0]) Try.underlying22 (by kernel_rfl) (by kernel_rfl)
theorem tySlot : Ty eSlot Try.prog 23 32 24 := Ty.mk' (z := .agg #[.int .i64 0, .bool false, .int .i64 0]) Try.underlying23 (by kernel_rfl) (by kernel_rfl)
theorem tyInt : Ty eInt Try.prog 47 3 8 := Ty.mk' (z := .int .i64 0) Try.underlying47 (by kernel_rfl) (by kernel_rfl)
theorem tyU64 : Ty eU64 Try.prog 46 25 8 := Ty.mk' (z := .int .u64 0) Try.underlying46 (by kernel_rfl) (by kernel_rfl)
theorem tyHands : Ty eSlot Try.prog 24 32 24 := Ty.mk' (z := .agg #[.int .i64 0, .bool false, .int .i64 0]) Try.underlying24 (by kernel_rfl) (by kernel_rfl)

set_option maxRecDepth 100000 in
set_option maxHeartbeats 400000 in
theorem clonePin (A : Option Addr) (c : Nat) (p : List Pin) (w : World) (hp : Rd ePin w A p) (hm : p.length * 16 ≤ 140737488355328) :
    Calls Try.prog 8 #[.slice A p.length c] w fun e w' => ∃ v, e = .returned v ∧ Own ePin 29 w' w.heap.size v p ∧ Below w.heap.size w w' := by
  have hnil := fun n => Lib.run_eql_slice_nil (P := Try.prog) w 22 29 A n c 0 0 Try.underlying22
  cases A with
  | none =>
    have h0 : p = [] := by
      cases p with
      | nil => rfl
      | cons x l => obtain ⟨b, off, h, _⟩ := hp 0 x rfl; cases h
    subst h0
    go_enter Try.func8, Try.ntmps8
    go_wp2
    go_ret
    exact ⟨_, rfl, Own.nil, Below.refl _ _⟩
  | some a =>
    have H1 : Own ePin 29 (w.alloc (.cells #[] 29)) w.heap.size (.slice (some ⟨w.heap.size, 0, none⟩) 0 0) [] := Own.made (L := ePin) (ys := []) (xs := []) (Nat.le_refl _) (by simp [maxLen])
    have H2 : ([] : List Pin).length + p.length ≤ maxLen := by simp [maxLen]; omega
    have H3 : (([] : List Pin).length + p.length) * 16 ≤ 140737488355328 := by simpa using hm
    have H4 : w.heap.size ≤ (w.alloc (.cells #[] 29)).heap.size := by simp
    go_enter Try.func8, Try.ntmps8
    go_wp2_with (at_builtin; go_loud (refine wpList_append_Own rfl (.tmp 5) (.tmp 6) rfl tyPin H1 (hp.alloc _) rfl p.length c rfl rfl H4 H2 H3 ?_); intro v' w' hown hgr hat)
    go_ret
    exact ⟨_, rfl, by simpa using hown, ((Below.refl _ _).alloc (Nat.le_refl _) _).grown hgr (by simp) (by simp [Value.ownBlock])⟩

set_option maxRecDepth 100000 in
set_option maxHeartbeats 400000 in
theorem cloneHands (A : Option Addr) (c : Nat) (p : List Slot) (w : World) (hp : Rd eSlot w A p) (hm : p.length * 24 ≤ 140737488355328) :
    Calls Try.prog 9 #[.slice A p.length c] w fun e w' => ∃ v, e = .returned v ∧ Own eSlot 32 w' w.heap.size v p ∧ Below w.heap.size w w' := by
  have hnil := fun n => Lib.run_eql_slice_nil (P := Try.prog) w 24 32 A n c 0 0 Try.underlying24
  cases A with
  | none =>
    have h0 : p = [] := by
      cases p with
      | nil => rfl
      | cons x l => obtain ⟨b, off, h, _⟩ := hp 0 x rfl; cases h
    subst h0
    go_enter Try.func9, Try.ntmps9
    go_wp2
    go_ret
    exact ⟨_, rfl, Own.nil, Below.refl _ _⟩
  | some a =>
    have H1 : Own eSlot 32 (w.alloc (.cells #[] 32)) w.heap.size (.slice (some ⟨w.heap.size, 0, none⟩) 0 0) [] := Own.made (L := eSlot) (ys := []) (xs := []) (Nat.le_refl _) (by simp [maxLen])
    have H2 : ([] : List Slot).length + p.length ≤ maxLen := by simp [maxLen]; omega
    have H3 : (([] : List Slot).length + p.length) * 24 ≤ 140737488355328 := by simpa using hm
    have H4 : w.heap.size ≤ (w.alloc (.cells #[] 32)).heap.size := by simp
    go_enter Try.func9, Try.ntmps9
    go_wp2_with (at_builtin; go_loud (refine wpList_append_Own rfl (.tmp 5) (.tmp 6) rfl tyHands H1 (hp.alloc _) rfl p.length c rfl rfl H4 H2 H3 ?_); intro v' w' hown hgr hat)
    go_ret
    exact ⟨_, rfl, by simpa using hown, ((Below.refl _ _).alloc (Nat.le_refl _) _).grown hgr (by simp) (by simp [Value.ownBlock])⟩

set_option maxRecDepth 100000 in
set_option maxHeartbeats 400000 in
theorem cloneInt (A : Option Addr) (c : Nat) (p : List Int) (w : World) (hp : Rd eInt w A p) (hm : p.length * 8 ≤ 140737488355328) :
    Calls Try.prog 26 #[.slice A p.length c] w fun e w' => ∃ v, e = .returned v ∧ Own eInt 3 w' w.heap.size v p ∧ Below w.heap.size w w' := by
  have hnil := fun n => Lib.run_eql_slice_nil (P := Try.prog) w 47 3 A n c 0 0 Try.underlying47
  cases A with
  | none =>
    have h0 : p = [] := by
      cases p with
      | nil => rfl
      | cons x l => obtain ⟨b, off, h, _⟩ := hp 0 x rfl; cases h
    subst h0
    go_enter Try.func26, Try.ntmps26
    go_wp2
    go_ret
    exact ⟨_, rfl, Own.nil, Below.refl _ _⟩
  | some a =>
    have H1 : Own eInt 3 (w.alloc (.cells #[] 3)) w.heap.size (.slice (some ⟨w.heap.size, 0, none⟩) 0 0) [] := Own.made (L := eInt) (ys := []) (xs := []) (Nat.le_refl _) (by simp [maxLen])
    have H2 : ([] : List Int).length + p.length ≤ maxLen := by simp [maxLen]; omega
    have H3 : (([] : List Int).length + p.length) * 8 ≤ 140737488355328 := by simpa using hm
    have H4 : w.heap.size ≤ (w.alloc (.cells #[] 3)).heap.size := by simp
    go_enter Try.func26, Try.ntmps26
    go_wp2_with (at_builtin; go_loud (refine wpList_append_Own rfl (.tmp 5) (.tmp 6) rfl tyInt H1 (hp.alloc _) rfl p.length c rfl rfl H4 H2 H3 ?_); intro v' w' hown hgr hat)
    go_ret
    exact ⟨_, rfl, by simpa using hown, ((Below.refl _ _).alloc (Nat.le_refl _) _).grown hgr (by simp) (by simp [Value.ownBlock])⟩

set_option maxRecDepth 100000 in
set_option maxHeartbeats 400000 in
theorem cloneU64 (A : Option Addr) (c : Nat) (p : List Nat) (w : World) (hp : Rd eU64 w A p) (hm : p.length * 8 ≤ 140737488355328) :
    Calls Try.prog 25 #[.slice A p.length c] w fun e w' => ∃ v, e = .returned v ∧ Own eU64 25 w' w.heap.size v p ∧ Below w.heap.size w w' := by
  have hnil := fun n => Lib.run_eql_slice_nil (P := Try.prog) w 46 25 A n c 0 0 Try.underlying46
  cases A with
  | none =>
    have h0 : p = [] := by
      cases p with
      | nil => rfl
      | cons x l => obtain ⟨b, off, h, _⟩ := hp 0 x rfl; cases h
    subst h0
    go_enter Try.func25, Try.ntmps25
    go_wp2
    go_ret
    exact ⟨_, rfl, Own.nil, Below.refl _ _⟩
  | some a =>
    have H1 : Own eU64 25 (w.alloc (.cells #[] 25)) w.heap.size (.slice (some ⟨w.heap.size, 0, none⟩) 0 0) [] := Own.made (L := eU64) (ys := []) (xs := []) (Nat.le_refl _) (by simp [maxLen])
    have H2 : ([] : List Nat).length + p.length ≤ maxLen := by simp [maxLen]; omega
    have H3 : (([] : List Nat).length + p.length) * 8 ≤ 140737488355328 := by simpa using hm
    have H4 : w.heap.size ≤ (w.alloc (.cells #[] 25)).heap.size := by simp
    go_enter Try.func25, Try.ntmps25
    go_wp2_with (at_builtin; go_loud (refine wpList_append_Own rfl (.tmp 5) (.tmp 6) rfl tyU64 H1 (hp.alloc _) rfl p.length c rfl rfl H4 H2 H3 ?_); intro v' w' hown hgr hat)
    go_ret
    exact ⟨_, rfl, by simpa using hown, ((Below.refl _ _).alloc (Nat.le_refl _) _).grown hgr (by simp) (by simp [Value.ownBlock])⟩

end Go.Proofs.Ythkenhbpimddpaa
namespace Go.Proofs.Ythkenhbpimddpaa
open Go.RowKit

set_option maxHeartbeats 1000000 in
theorem headLong0 (h : Head) (w : World) (h1 : 0 ≤ h.refs) (h2 : h.refs ≤ 256) (h3 : 0 ≤ h.body) (h4 : h.body ≤ 256) :
    Calls Try.prog 119 #[.agg #[.int .i64 h.refs, .int .i64 h.body, .int .i64 h.tag, .bool h.free]] w (Ret (.int .i64 (headLong h)) w) := by
  obtain ⟨r, b, t, f⟩ := h
  simp only at h1 h2 h3 h4 ⊢
  go_enter Try.func119, Try.ntmps119
  go_wp2
  go_ret
  exact ⟨rfl, (Below.refl _ _).alloc (Nat.le_refl _) _⟩

set_option maxRecDepth 100000 in
set_option maxHeartbeats 2000000 in
theorem headCheck_any (h : Head) (w : World) : Calls Try.prog 102 #[.agg #[.int .i64 h.refs, .int .i64 h.body, .int .i64 h.tag, .bool h.free]] w (Ret (.int .i64 (headCheck h)) w) := by
  obtain ⟨r, b, t, f⟩ := h
  simp only
  by_cases c0 : r < 0 ∨ b < 0 ∨ t < 0 ∨ r > 256 ∨ b > 256 ∨ t > 65535
  · have HC : Hid (headCheck ⟨r, b, t, f⟩ = 4) := by show _ = _; unfold headCheck; rw [if_pos c0]
    by_cases c1 : min (min r b) t < 0
    · clear c0
      go_enter Try.func102, Try.ntmps102
      go_wp2_with fail
      all_goals
        go_ret
        exact ⟨by rw [HC.out]; rfl, (Below.refl _ _).alloc (Nat.le_refl _) _⟩
    · by_cases c2 : 256 < max r b
      · have g1 : 0 ≤ r := by omega
        have g2 : 0 ≤ b := by omega
        have g3 : 0 ≤ t := by omega
        clear c0 c1
        go_enter Try.func102, Try.ntmps102
        go_wp2_with fail
        all_goals
          go_ret
          exact ⟨by rw [HC.out]; rfl, (Below.refl _ _).alloc (Nat.le_refl _) _⟩
      · have g1 : 0 ≤ r := by omega
        have g2 : 0 ≤ b := by omega
        have g4 : r ≤ 256 := by omega
        have g5 : b ≤ 256 := by omega
        have g6 : 65535 < t := by omega
        clear c0 c1 c2
        go_enter Try.func102, Try.ntmps102
        go_wp2_with fail
        all_goals
          go_ret
          exact ⟨by rw [HC.out]; rfl, (Below.refl _ _).alloc (Nat.le_refl _) _⟩
  · have g1 : 0 ≤ r := by omega
    have g2 : 0 ≤ b := by omega
    have g3 : 0 ≤ t := by omega
    have g4 : r ≤ 256 := by omega
    have g5 : b ≤ 256 := by omega
    have g6 : t ≤ 65535 := by omega
    by_cases c4 : f = true ∧ (r > 0 ∨ t > 0)
    · have HC : Hid (headCheck ⟨r, b, t, f⟩ = 3) := by show _ = _; unfold headCheck; rw [if_neg c0, if_pos c4]
      obtain ⟨rfl, c4⟩ := c4
      clear c0
      by_cases c5 : 0 < r
      · clear c4
        go_enter Try.func102, Try.ntmps102
        go_wp2_with fail
        all_goals
          go_ret
          exact ⟨by rw [HC.out]; rfl, (Below.refl _ _).alloc (Nat.le_refl _) _⟩
      · have c6 : 0 < t := by omega
        clear c4
        go_enter Try.func102, Try.ntmps102
        go_wp2_with fail
        all_goals
          go_ret
          exact ⟨by rw [HC.out]; rfl, (Below.refl _ _).alloc (Nat.le_refl _) _⟩
    · by_cases c7 : headLong ⟨r, b, t, f⟩ > 256
      · have HC : Hid (headCheck ⟨r, b, t, f⟩ = 2) := by show _ = _; unfold headCheck; rw [if_neg c0, if_neg c4, if_pos c7]
        have c8 : 256 < headLong ⟨r, b, t, f⟩ := c7
        clear c0 c7
        cases f
        · clear c4
          go_enter Try.func102, Try.ntmps102
          go_wp2_with (go_at_call 119; refine (headLong0 ⟨r, b, t, false⟩ _ g1 g4 g2 g5).mono ?_; rintro e w1 ⟨rfl, hb1⟩)
          all_goals
            go_ret
            exact ⟨by rw [HC.out]; rfl, ((Below.refl _ _).alloc (Nat.le_refl _) _).trans (hb1.mono (by simp))⟩
        · have c5 : r ≤ 0 := by simp at c4; omega
          have c6 : t ≤ 0 := by simp at c4; omega
          clear c4
          go_enter Try.func102, Try.ntmps102
          go_wp2_with (go_at_call 119; refine (headLong0 ⟨r, b, t, true⟩ _ g1 g4 g2 g5).mono ?_; rintro e w1 ⟨rfl, hb1⟩)
          all_goals
            go_ret
            exact ⟨by rw [HC.out]; rfl, ((Below.refl _ _).alloc (Nat.le_refl _) _).trans (hb1.mono (by simp))⟩
      · have HC : Hid (headCheck ⟨r, b, t, f⟩ = 0) := by show _ = _; unfold headCheck; rw [if_neg c0, if_neg c4, if_neg c7]
        have c8 : headLong ⟨r, b, t, f⟩ ≤ 256 := by omega
        clear c0 c7
        cases f
        · clear c4
          go_enter Try.func102, Try.ntmps102
          go_wp2_with (go_at_call 119; refine (headLong0 ⟨r, b, t, false⟩ _ g1 g4 g2 g5).mono ?_; rintro e w1 ⟨rfl, hb1⟩)
          all_goals
            go_ret
            exact ⟨by rw [HC.out]; rfl, ((Below.refl _ _).alloc (Nat.le_refl _) _).trans (hb1.mono (by simp))⟩
        · have c5 : r ≤ 0 := by simp at c4; omega
          have c6 : t ≤ 0 := by simp at c4; omega
          clear c4
          go_enter Try.func102, Try.ntmps102
          go_wp2_with (go_at_call 119; refine (headLong0 ⟨r, b, t, true⟩ _ g1 g4 g2 g5).mono ?_; rintro e w1 ⟨rfl, hb1⟩)
          all_goals
            go_ret
            exact ⟨by rw [HC.out]; rfl, ((Below.refl _ _).alloc (Nat.le_refl _) _).trans (hb1.mono (by simp))⟩
end Go.Proofs.Ythkenhbpimddpaa
namespace Go.Proofs.Ythkenhbpimddpaa
open Go.RowKit

theorem and16d (v d : Nat) (hv : v < 18446744073709551616) : bits .and .u64 ((v : Int) / (d : Int)) 65535 = ((v / d % 65536 : Nat) : Int) := by
  have h := and16 (v / d) (Nat.lt_of_le_of_lt (Nat.div_le_self _ _) hv)
  rw [← h]; congr 1
theorem and48 (v : Nat) (hv : v < 18446744073709551616) : (bits .and .u64 (v : Int) 281474976710656 != 0) = decide (v / 281474976710656 % 2 = 1) := by
  have h := u64_and_nat v 281474976710656 hv (by omega)
  rw [show ((281474976710656 : Nat) : Int) = 281474976710656 from rfl] at h
  rw [h]
  have h2 := nat_bit 48 v
  rw [show (2 : Nat) ^ 48 = 281474976710656 from rfl] at h2
  rw [h2]
  rcases Nat.mod_two_eq_zero_or_one (v / 281474976710656) with h3 | h3 <;> rw [h3] <;> simp

-- results of head.Read: a head in memory, an error
set_option maxRecDepth 100000 in
set_option maxHeartbeats 2000000 in
theorem headRead_any (v : Nat) (w : World) (hv : v < 18446744073709551616) : Calls Try.prog 132 #[.int .u64 v] w (Ret (.tuple #[(headRead v).1.val, .int .i64 (headRead v).2]) w) := by
  obtain ⟨r, hr⟩ : ∃ r, r = v % 65536 := ⟨_, rfl⟩
  obtain ⟨b, hb⟩ : ∃ b, b = v / 65536 % 65536 := ⟨_, rfl⟩
  obtain ⟨t, ht⟩ : ∃ t, t = v / 4294967296 % 65536 := ⟨_, rfl⟩
  obtain ⟨f, hf⟩ : ∃ f, f = decide (v / 281474976710656 % 2 = 1) := ⟨_, rfl⟩
  obtain ⟨q, hq⟩ : ∃ q, q = v / 562949953421312 := ⟨_, rfl⟩
  have e1 : bits .and .u64 (v : Int) 65535 = (r : Int) := by rw [and16 v hv, hr]
  have e2 : bits .and .u64 ((v : Int) / 65536) 65535 = (b : Int) := by rw [show (65536 : Int) = ((65536 : Nat) : Int) from rfl, and16d v 65536 hv, hb]
  have e3 : bits .and .u64 ((v : Int) / 4294967296) 65535 = (t : Int) := by rw [show (4294967296 : Int) = ((4294967296 : Nat) : Int) from rfl, and16d v 4294967296 hv, ht]
  have e4 : (bits .and .u64 (v : Int) 281474976710656 != 0) = f := by rw [and48 v hv, hf]
  have e5 : (v : Int) / 562949953421312 = (q : Int) := by rw [hq]; omega
  have l1 : r < 65536 := by omega
  have l2 : b < 65536 := by omega
  have l3 : t < 65536 := by omega
  have HO : Hid (headOf v = ⟨r, b, t, f⟩) := by show _ = _; rw [headOf, hr, hb, ht, hf]
  have HB : Hid (headBad v = !(decide (q = 0) && decide (headCheck ⟨r, b, t, f⟩ = 0))) := by show _ = _; rw [headBad, HO.out, hq]
  clear hr hb ht hf hq
  by_cases hq0 : q = 0
  · by_cases hc : headCheck ⟨r, b, t, f⟩ = 0
    · have HR : Hid (headRead v = (⟨r, b, t, f⟩, 0)) := by show _ = _; rw [headRead, HB.out, HO.out]; simp [hq0, hc]
      have z0 : ((q : Int) != 0) = false := by simp [hq0]
      have z1 : (headCheck ⟨r, b, t, f⟩ != 0) = false := by simp [hc]
      clear hq0 hc
      go_enter Try.func132, Try.ntmps132
      go_wp2_with (go_at_call 102; refine (headCheck_any ⟨r, b, t, f⟩ _).mono ?_; rintro e w1 ⟨rfl, hb1⟩; obtain ⟨hc1, hf1⟩ := bcell hb1)
      have hh : w1.heap[w.heap.size]? = some (.cells #[.int .i64 0, .int .i64 0, .int .i64 0, .bool false] 124 (0, 0)) := heap_below (heap_alloc_keep (heap_alloc_new w _)) hb1
      have k0 : w1.cell? ⟨w.heap.size, 0, none⟩ = some (.int .i64 0) := by rw [cell_of_row _ _ _ _ _ _ hh]; rfl
      have k1 : w1.cell? ⟨w.heap.size, 1, none⟩ = some (.int .i64 0) := by rw [cell_of_row _ _ _ _ _ _ hh]; rfl
      have k2 : w1.cell? ⟨w.heap.size, 2, none⟩ = some (.int .i64 0) := by rw [cell_of_row _ _ _ _ _ _ hh]; rfl
      have k3 : w1.cell? ⟨w.heap.size, 3, none⟩ = some (.bool false) := by rw [cell_of_row _ _ _ _ _ _ hh]; rfl
      refine bodyPost_ret (v := .tuple #[Head.val ⟨r, b, t, f⟩, .int .i64 0]) (by simp [results, Try.results132, go_sem, k0, k1, k2, k3, Head.val]) rfl ⟨by rw [HR.out], ?_⟩
      have hB2 : Below w.heap.size w w1 := (((Below.refl _ _).alloc (Nat.le_refl _) _).alloc (by simp) _).trans (hb1.mono (by simp; omega))
      exact (((hB2.setCell (p := ⟨w.heap.size, 0, none⟩) (by simp) _).setCell (p := ⟨w.heap.size, 1, none⟩) (by simp) _).setCell (p := ⟨w.heap.size, 2, none⟩) (by simp) _).setCell (p := ⟨w.heap.size, 3, none⟩) (by simp) _
    · have HR : Hid (headRead v = (Head.nil, 3)) := by show _ = _; rw [headRead, HB.out]; simp [hq0, hc]
      have z0 : ((q : Int) != 0) = false := by simp [hq0]
      have z1 : (headCheck ⟨r, b, t, f⟩ != 0) = true := by simp [hc]
      clear hq0 hc
      go_enter Try.func132, Try.ntmps132
      go_wp2_with (go_at_call 102; refine (headCheck_any ⟨r, b, t, f⟩ _).mono ?_; rintro e w1 ⟨rfl, hb1⟩; obtain ⟨hc1, hf1⟩ := bcell hb1)
      have hh : w1.heap[w.heap.size]? = some (.cells #[.int .i64 0, .int .i64 0, .int .i64 0, .bool false] 124 (0, 0)) := heap_below (heap_alloc_keep (heap_alloc_new w _)) hb1
      have k0 : w1.cell? ⟨w.heap.size, 0, none⟩ = some (.int .i64 0) := by rw [cell_of_row _ _ _ _ _ _ hh]; rfl
      have k1 : w1.cell? ⟨w.heap.size, 1, none⟩ = some (.int .i64 0) := by rw [cell_of_row _ _ _ _ _ _ hh]; rfl
      have k2 : w1.cell? ⟨w.heap.size, 2, none⟩ = some (.int .i64 0) := by rw [cell_of_row _ _ _ _ _ _ hh]; rfl
      have k3 : w1.cell? ⟨w.heap.size, 3, none⟩ = some (.bool false) := by rw [cell_of_row _ _ _ _ _ _ hh]; rfl
      refine bodyPost_ret (v := .tuple #[Head.val Head.nil, .int .i64 3]) (by simp [results, Try.results132, go_sem, k0, k1, k2, k3, Head.val, Head.nil]) rfl ⟨by rw [HR.out], ?_⟩
      have hB2 : Below w.heap.size w w1 := (((Below.refl _ _).alloc (Nat.le_refl _) _).alloc (by simp) _).trans (hb1.mono (by simp; omega))
      exact (((hB2.setCell (p := ⟨w.heap.size, 0, none⟩) (by simp) _).setCell (p := ⟨w.heap.size, 1, none⟩) (by simp) _).setCell (p := ⟨w.heap.size, 2, none⟩) (by simp) _).setCell (p := ⟨w.heap.size, 3, none⟩) (by simp) _
  · have HR : Hid (headRead v = (Head.nil, 3)) := by show _ = _; rw [headRead, HB.out]; simp [hq0]
    have z0 : ((q : Int) != 0) = true := by simp; omega
    clear hq0
    go_enter Try.func132, Try.ntmps132
    go_wp2_with fail
    refine bodyPost_ret (v := .tuple #[Head.val Head.nil, .int .i64 3]) (by simp [results, Try.results132, go_sem, Head.val, Head.nil]) rfl ⟨by rw [HR.out], ?_⟩
    exact ((Below.refl w.heap.size w).alloc (Nat.le_refl _) _).alloc (by simp) _

set_option maxRecDepth 100000 in
set_option maxHeartbeats 1000000 in
theorem headLong_any (h : Head) (w : World) : Calls Try.prog 81 #[.agg #[.int .i64 h.refs, .int .i64 h.body, .int .i64 h.tag, .bool h.free]] w
    (Ret (.tuple #[.int .i64 (if headCheck h = 0 then headLong h else 0), .int .i64 (headCheck h)]) w) := by
  by_cases hc : headCheck h = 0
  · obtain ⟨h1, h2, h3, h4, h5, h6⟩ := headCheck_ok hc
    rw [if_pos hc]
    have z : (headCheck h != 0) = false := by simp [hc]
    have HC := Lib.hid hc
    clear hc h6
    go_enter Try.func81, Try.ntmps81
    go_wp2_with (first
      | (go_at_call 102; refine (headCheck_any h _).mono ?_; rintro e w1 ⟨rfl, hb1⟩; obtain ⟨hc1, hf1⟩ := bcell hb1
         have hh : w1.heap[w.heap.size]? = some (.cells #[.int .i64 h.refs, .int .i64 h.body, .int .i64 h.tag, .bool h.free] 124 (0, 0)) := heap_below (heap_alloc_new w _) hb1
         have k0 : w1.cell? ⟨w.heap.size, 0, none⟩ = some (.int .i64 h.refs) := by rw [cell_of_row _ _ _ _ _ _ hh]; rfl
         have k1 : w1.cell? ⟨w.heap.size, 1, none⟩ = some (.int .i64 h.body) := by rw [cell_of_row _ _ _ _ _ _ hh]; rfl
         have k2 : w1.cell? ⟨w.heap.size, 2, none⟩ = some (.int .i64 h.tag) := by rw [cell_of_row _ _ _ _ _ _ hh]; rfl
         have k3 : w1.cell? ⟨w.heap.size, 3, none⟩ = some (.bool h.free) := by rw [cell_of_row _ _ _ _ _ _ hh]; rfl
         clear hc1 hf1 hh)
      | (go_at_call 119; refine (headLong0 h _ h1 (by omega) h2 (by omega)).mono ?_; rintro e w2 ⟨rfl, hb2⟩))
    go_ret2
    exact ⟨by rw [HC.out]; rfl, (((Below.refl w.heap.size w).alloc (Nat.le_refl _) _).trans (hb1.mono (by simp))).trans (hb2.mono (Nat.le_trans (by simp) hb1.size))⟩
  · rw [if_neg hc]
    have z : (headCheck h != 0) = true := by simp [hc]
    clear hc
    go_enter Try.func81, Try.ntmps81
    go_wp2_with (go_at_call 102; refine (headCheck_any h _).mono ?_; rintro e w1 ⟨rfl, hb1⟩)
    go_ret2
    exact ⟨rfl, ((Below.refl w.heap.size w).alloc (Nat.le_refl _) _).trans (hb1.mono (by simp))⟩
end Go.Proofs.Ythkenhbpimddpaa
namespace Go.Proofs.Ythkenhbpimddpaa
open Go.RowKit

theorem orAt (i n k : Nat) (hi : i < 2 ^ k) (hn : i + n * 2 ^ k < 18446744073709551616) : bits .or .u64 (i : Int) ((n : Int) * ((2 ^ k : Nat) : Int)) = (i : Int) + (n : Int) * ((2 ^ k : Nat) : Int) := by
  have h := u64_or_nat i (n * 2 ^ k) (by omega) (by omega)
  rw [Int.natCast_mul] at h
  rw [h, Nat.or_comm, nat_join k (n * 2 ^ k) i (Nat.mul_mod_left _ _) hi, Int.natCast_add, Int.natCast_mul]
  omega
def headWordV (h : Head) : Int := if headCheck h = 0 then headNat h else 0

set_option maxRecDepth 100000 in
set_option maxHeartbeats 1000000 in
theorem headWord_any (h : Head) (w : World) : Calls Try.prog 60 #[.agg #[.int .i64 h.refs, .int .i64 h.body, .int .i64 h.tag, .bool h.free]] w
    (Ret (.tuple #[.int .u64 (headWordV h), .int .i64 (headCheck h)]) w) := by
  by_cases hc : headCheck h = 0
  · obtain ⟨h1, h2, h3, h4, h5, h6⟩ := headCheck_ok hc
    have z : (headCheck h != 0) = false := by simp [hc]
    have HV : Hid (headWordV h = headNat h) := by show _ = _; rw [headWordV, if_pos hc]
    have HC := Lib.hid hc
    clear hc
    obtain ⟨r, b, t, f⟩ := h
    simp only at h1 h2 h3 h4 h5 h6
    obtain ⟨r, rfl⟩ := Int.eq_ofNat_of_zero_le h1
    obtain ⟨b, rfl⟩ := Int.eq_ofNat_of_zero_le h2
    obtain ⟨t, rfl⟩ := Int.eq_ofNat_of_zero_le h3
    have o1 : bits .or .u64 (r : Int) ((b : Int) * 65536) = (r : Int) + (b : Int) * 65536 := or16 r b (by omega) (by omega)
    have o2 : bits .or .u64 ((r : Int) + (b : Int) * 65536) ((t : Int) * 4294967296) = (r : Int) + (b : Int) * 65536 + (t : Int) * 4294967296 := by
      have h := orAt (r + b * 65536) t 32 (by omega) (by omega)
      rw [show ((2 ^ 32 : Nat) : Int) = 4294967296 from rfl] at h
      simpa using h
    have o3 : bits .or .u64 ((r : Int) + (b : Int) * 65536 + (t : Int) * 4294967296) 281474976710656 = (r : Int) + (b : Int) * 65536 + (t : Int) * 4294967296 + 281474976710656 := by
      have h := orAt (r + b * 65536 + t * 4294967296) 1 48 (by omega) (by omega)
      rw [show ((2 ^ 48 : Nat) : Int) = 281474976710656 from rfl] at h
      simpa using h
    cases f
    · have HN : Hid (headNat ⟨r, b, t, false⟩ = (r : Int) + (b : Int) * 65536 + (t : Int) * 4294967296) := by show _ = _; simp [headNat]
      clear h6 o3
      go_enter Try.func60, Try.ntmps60
      go_wp2_with (go_at_call 102; refine (headCheck_any ⟨r, b, t, false⟩ _).mono ?_; rintro e w1 ⟨rfl, hb1⟩; obtain ⟨hc1, hf1⟩ := bcell hb1
                   have hh : w1.heap[w.heap.size]? = some (.cells #[.int .i64 r, .int .i64 b, .int .i64 t, .bool false] 124 (0, 0)) := heap_below (heap_alloc_new w _) hb1
                   have k0 : w1.cell? ⟨w.heap.size, 0, none⟩ = some (.int .i64 r) := by rw [cell_of_row _ _ _ _ _ _ hh]; rfl
                   have k1 : w1.cell? ⟨w.heap.size, 1, none⟩ = some (.int .i64 b) := by rw [cell_of_row _ _ _ _ _ _ hh]; rfl
                   have k2 : w1.cell? ⟨w.heap.size, 2, none⟩ = some (.int .i64 t) := by rw [cell_of_row _ _ _ _ _ _ hh]; rfl
                   have k3 : w1.cell? ⟨w.heap.size, 3, none⟩ = some (.bool false) := by rw [cell_of_row _ _ _ _ _ _ hh]; rfl
                   clear hc1 hf1 hh)
      go_ret2
      exact ⟨by rw [HV.out, HN.out, HC.out]; rfl, ((Below.refl w.heap.size w).alloc (Nat.le_refl _) _).trans (hb1.mono (by simp))⟩
    · have HN : Hid (headNat ⟨r, b, t, true⟩ = (r : Int) + (b : Int) * 65536 + (t : Int) * 4294967296 + 281474976710656) := by show _ = _; simp [headNat]
      clear h6
      go_enter Try.func60, Try.ntmps60
      go_wp2_with (go_at_call 102; refine (headCheck_any ⟨r, b, t, true⟩ _).mono ?_; rintro e w1 ⟨rfl, hb1⟩; obtain ⟨hc1, hf1⟩ := bcell hb1
                   have hh : w1.heap[w.heap.size]? = some (.cells #[.int .i64 r, .int .i64 b, .int .i64 t, .bool true] 124 (0, 0)) := heap_below (heap_alloc_new w _) hb1
                   have k0 : w1.cell? ⟨w.heap.size, 0, none⟩ = some (.int .i64 r) := by rw [cell_of_row _ _ _ _ _ _ hh]; rfl
                   have k1 : w1.cell? ⟨w.heap.size, 1, none⟩ = some (.int .i64 b) := by rw [cell_of_row _ _ _ _ _ _ hh]; rfl
                   have k2 : w1.cell? ⟨w.heap.size, 2, none⟩ = some (.int .i64 t) := by rw [cell_of_row _ _ _ _ _ _ hh]; rfl
                   have k3 : w1.cell? ⟨w.heap.size, 3, none⟩ = some (.bool true) := by rw [cell_of_row _ _ _ _ _ _ hh]; rfl
                   clear hc1 hf1 hh)
      go_ret2
      exact ⟨by rw [HV.out, HN.out, HC.out]; rfl, ((Below.refl w.heap.size w).alloc (Nat.le_refl _) _).trans (hb1.mono (by simp))⟩
  · have z : (headCheck h != 0) = true := by simp [hc]
    have HV : Hid (headWordV h = 0) := by show _ = _; rw [headWordV, if_neg hc]
    clear hc
    go_enter Try.func60, Try.ntmps60
    go_wp2_with (go_at_call 102; refine (headCheck_any h _).mono ?_; rintro e w1 ⟨rfl, hb1⟩)
    go_ret2
    exact ⟨by rw [HV.out]; rfl, ((Below.refl w.heap.size w).alloc (Nat.le_refl _) _).trans (hb1.mono (by simp))⟩
end Go.Proofs.Ythkenhbpimddpaa
namespace Go.Proofs.Ythkenhbpimddpaa
open Go.RowKit
open Go.ChangeMaps (setBlock heap_setBlock_same heap_setBlock_other)

section
variable {β : Type}

def mget : List (Int × β) → Int → Option β
  | [], _ => none
  | (k', v') :: m, k => if k = k' then some v' else mget m k
def mput : List (Int × β) → Int → β → List (Int × β)
  | [], k, v => [(k, v)]
  | (k', v') :: m, k, v => if k = k' then (k, v) :: m else (k', v') :: mput m k v
theorem mget_mput (m : List (Int × β)) (k k' : Int) (v : β) : mget (mput m k v) k' = if k' = k then some v else mget m k' := by
  induction m with
  | nil => simp [mput, mget]
  | cons p m ih =>
    obtain ⟨k0, v0⟩ := p
    unfold mput
    split
    · rename_i h
      subst h
      simp only [mget]
      split <;> rfl
    · rename_i h
      simp only [mget]
      rw [ih]
      split
      · rename_i h2
        subst h2
        rw [if_neg (by omega)]
      · rfl

/-- entries that read as these -/
def EsIs (q : IntKind) (enc : β → Value) (es : List MapEntry) (m : List (Int × β)) : Prop :=
  es.map (fun e => (e.key, e.val)) = m.map (fun p => (Value.int q p.1, enc p.2))

theorem EsIs.cons {q : IntKind} {enc : β → Value} {x : MapEntry} {es : List MapEntry} {m : List (Int × β)} (h : EsIs q enc (x :: es) m) : ∃ k v m', m = (k, v) :: m' ∧ x.key = .int q k ∧ x.val = enc v ∧ EsIs q enc es m' := by
  cases m with
  | nil => simp [EsIs] at h
  | cons p m =>
    obtain ⟨k, v⟩ := p
    simp only [EsIs, List.map_cons, List.cons.injEq, Prod.mk.injEq] at h
    exact ⟨k, v, m, rfl, h.1.1, h.1.2, h.2⟩
theorem EsIs.mk {q : IntKind} {enc : β → Value} {x : MapEntry} {es : List MapEntry} {m : List (Int × β)} {k : Int} {v : β} (h1 : x.key = .int q k) (h2 : x.val = enc v) (h : EsIs q enc es m) : EsIs q enc (x :: es) ((k, v) :: m) := by
  simp only [EsIs, List.map_cons, h1, h2]
  rw [h]

theorem find_is (q : IntKind) (enc : β → Value) (es : List MapEntry) (m : List (Int × β)) (k : Int) (v : β) (i c : Nat) (h : EsIs q enc es m) :
    (Instr.findNow (.int q) (.int q k) es i = some none ∧ mget m k = none ∧ EsIs q enc (es ++ [⟨.int q k, enc v, c⟩]) (mput m k v)) ∨
    ∃ j v0, Instr.findNow (.int q) (.int q k) es i = some (some (i + j, enc v0)) ∧ mget m k = some v0 ∧ (∃ x, es[j]? = some x ∧ x.key = .int q k) ∧ EsIs q enc (es.modify j fun e => { e with key := .int q k, val := enc v }) (mput m k v) := by
  induction es generalizing m i with
  | nil =>
    cases m with
    | nil => exact .inl ⟨rfl, rfl, by simp [EsIs, mput]⟩
    | cons p m => simp [EsIs] at h
  | cons x es ih =>
    obtain ⟨k', v', m', rfl, hk, hv, h'⟩ := h.cons
    by_cases he : k = k'
    · subst he
      refine .inr ⟨0, v', ?_, by simp [mget], ⟨x, rfl, hk⟩, ?_⟩
      · simp [Instr.findNow, hk, hv, Instr.sameNow]
      · simp only [mput, if_true]
        exact EsIs.mk rfl rfl h'
    · have hn : Instr.sameNow (.int q) (.int q k) x.key = some false := by simp [hk, Instr.sameNow, he]
      rcases ih m' (i + 1) h' with ⟨h1, h2, h3⟩ | ⟨j, v0, h1, h2, h3, h4⟩
      · refine .inl ⟨by simp only [Instr.findNow, hn]; exact h1, by simp only [mget, if_neg he]; exact h2, ?_⟩
        simp only [mput, if_neg he]
        exact EsIs.mk hk hv h3
      · refine .inr ⟨j + 1, v0, by simp only [Instr.findNow, hn]; rw [h1]; simp; omega, by simp only [mget, if_neg he]; exact h2, h3, ?_⟩
        simp only [mput, if_neg he]
        exact EsIs.mk hk hv h4

/-- block b is a map that answers as f -/
def MapIs (q : IntKind) (enc : β → Value) (w : World) (b : Nat) (f : Int → Option β) : Prop :=
  ∃ es clock m, w.heap[b]? = some (.map es clock) ∧ EsIs q enc es.toList m ∧ ∀ k, f k = mget m k
def fput (f : Int → Option β) (k : Int) (v : β) : Int → Option β := fun k' => if k' = k then some v else f k'
theorem fput_same (f : Int → Option β) (k : Int) (v : β) : fput f k v k = some v := by simp [fput]
theorem fput_other (f : Int → Option β) {k k' : Int} (v : β) (h : ¬ k' = k) : fput f k v k' = f k' := by simp [fput, h]

variable {q : IntKind} {enc : β → Value} {w w' : World} {b : Nat} {f : Int → Option β} {P : Program}

theorem MapIs.lt (h : MapIs q enc w b f) : b < w.heap.size := by
  obtain ⟨es, clock, m, hb, _⟩ := h
  exact (Array.getElem?_eq_some_iff.1 hb).1
theorem MapIs.keep (h : MapIs q enc w b f) (hk : w'.heap[b]? = w.heap[b]?) : MapIs q enc w' b f := by
  obtain ⟨es, clock, m, hb, r⟩ := h
  exact ⟨es, clock, m, hk.trans hb, r⟩
theorem MapIs.below (h : MapIs q enc w b f) (hb : Below w.heap.size w w') : MapIs q enc w' b f := h.keep (hb.block b h.lt)
theorem MapIs.alloc (h : MapIs q enc w b f) (o : Obj) : MapIs q enc (w.alloc o) b f := h.below ((Below.refl _ _).alloc (Nat.le_refl _) o)
theorem MapIs.drewN (h : MapIs q enc w b f) (n : Nat) : MapIs q enc (w.drewN n) b f := h
theorem MapIs.drew (h : MapIs q enc w b f) : MapIs q enc w.drew b f := h
theorem MapIs.grown {row : Option Nat} (h : MapIs q enc w b f) (hg : w.grownBy w' row) (hne : row ≠ some b) : MapIs q enc w' b f :=
  h.keep (hg.block b h.lt fun e => hne e.symm)
/-- a cell of a row is written -/
theorem MapIs.setCell (h : MapIs q enc w b f) {p : Addr} (hp : p.block ≠ b) (u : Value) : MapIs q enc (w.setCell p u) b f :=
  h.keep (Below.heap_setCell _ _ _ _ (fun e => hp e.symm))
/-- a block of cells is no map -/
theorem MapIs.ne {g : Nat} {cs : Array Value} {t : Nat} {fr : Nat × Nat} (h : MapIs q enc w b f) (hg : w.heap[g]? = some (.cells cs t fr)) : g ≠ b := by
  rintro rfl
  obtain ⟨es, clock, m, hb, _⟩ := h
  rw [hb] at hg
  cases hg
theorem MapIs.new (w : World) : MapIs q enc (w.alloc (.map #[] 0)) w.heap.size (fun _ => none) :=
  ⟨#[], 0, [], by rw [heap_alloc_new], rfl, fun _ => rfl⟩
theorem Own.map_grown {α : Type} {L : El α} {e B : Nat} {v : Value} {xs : List α} (h : Own L e w B v xs) (hM : MapIs q enc w b f) (hg : w.grownBy w' (some b)) : Own L e w' B v xs := by
  refine h.grown hg (.inr fun hv => ?_)
  rcases h with ⟨rfl, _⟩ | ⟨g, ys, rfl, _, _, hgc⟩
  · cases hv
  · simp [Value.ownBlock] at hv
    exact hM.ne hgc hv

def lookV (c : Bool) (enc : β → Value) (z : Value) (r : Option β) : Value :=
  if c then .tuple #[(r.map enc).getD z, .bool r.isSome] else (r.map enc).getD z

theorem run_look {t kt e : TypeId} {z : Value} (c : Bool) (hM : MapIs q enc w b f) (ht : P.underlying t = some (.map kt e)) (hk : P.underlying kt = some (.int q)) (hz : (zeroValue e).run P w = .ok z w) (k : Int) :
    (Instr.lookup t (.map (some b)) (.int q k) c).run P w = .ok (lookV c enc z (f k)) w := by
  obtain ⟨es, clock, m, hb, hE, hf⟩ := hM
  have hch : (Instr.checkKey es.isEmpty 10000 kt (.int q k)).run P w = .ok () w := MapKept.run_checkKey hk (show MapKept.IsKey (.int q) (.int q k) from rfl) _ 9999
  rcases Classical.em (∃ v0, mget m k = some v0) with ⟨v0, h0⟩ | h0
  · rcases find_is q enc es.toList m k v0 0 0 hE with ⟨_, h2, _⟩ | ⟨j, v1, h1, h2, _, _⟩
    · rw [h0] at h2; cases h2
    · rw [h0] at h2
      cases h2
      have hfk : (Instr.findKey kt (.int q k) es.toList).run P w = .ok (some (0 + j, enc v0)) w := by simp [Instr.findKey, run_underlying hk, h1, Result.andThen]
      cases c <;> simp [Instr.lookup, run_underlying ht, MapKept.run_getObj_map hb, hch, hfk, Result.andThen, lookV, hf, h0]
  · have hno : mget m k = none := by
      cases h : mget m k with
      | none => rfl
      | some v => exact absurd ⟨v, h⟩ h0
    have hfk : (Instr.findKey kt (.int q k) es.toList).run P w = .ok none w := by
      have : Instr.findNow (.int q) (.int q k) es.toList 0 = some none := by
        clear hch
        have hE' := hE
        generalize es.toList = l at hE'
        generalize (0 : Nat) = i
        clear hE hf hb h0
        revert hE'
        induction l generalizing m i with
        | nil => intro _; rfl
        | cons x l ih =>
          intro hE'
          obtain ⟨k', v', m', rfl, hk', hv, h'⟩ := hE'.cons
          simp only [mget] at hno
          split at hno
          · cases hno
          · rename_i hne
            simp only [Instr.findNow, hk', Instr.sameNow, if_true, show (k == k') = false by simp [hne]]
            exact ih m' hno (i + 1) h'
      simp [Instr.findKey, run_underlying hk, this, Result.andThen]
    cases c <;> simp [Instr.lookup, run_underlying ht, MapKept.run_getObj_map hb, hch, hfk, hz, Result.andThen, lookV, hf, hno]

theorem run_makeMap (t : TypeId) (w : World) : (Instr.makeMap t none).run P w = .ok (.map (some w.heap.size)) (w.alloc (.map #[] 0)) := by
  simp [Instr.makeMap, Result.andThen]
theorem run_mput {t kt e : TypeId} (hM : MapIs q enc w b f) (ht : P.underlying t = some (.map kt e)) (hk : P.underlying kt = some (.int q)) (k : Int) (v : β) :
    ∃ w', (Instr.mapUpdate t (.map (some b)) (.int q k) (enc v)).run P w = .ok () w' ∧ MapIs q enc w' b (fput f k v) ∧ w.grownBy w' (some b) := by
  obtain ⟨es, clock, m, hb, hE, hf⟩ := hM
  have hch : (Instr.checkKey false 10000 kt (.int q k)).run P w = .ok () w := MapKept.run_checkKey hk (show MapKept.IsKey (.int q) (.int q k) from rfl) _ 9999
  have hg : ∀ o : Obj, w.grownBy (setBlock w b o) (some b) := fun o => ⟨rfl, rfl, rfl, by simp [setBlock], fun i _ hi => heap_setBlock_other hb _ (fun e => hi (by rw [e]))⟩
  have hstay : (Instr.keyThatStays (.int q k) (.int q k)).run P w = .ok (.int q k) w := MapKept.run_keyThatStays (d := .int q) rfl
  rcases find_is q enc es.toList m k v 0 clock hE with ⟨h1, h2, h3⟩ | ⟨j, v1, h1, h2, ⟨x, hx, hxk⟩, h3⟩
  · have hfk : (Instr.findKey kt (.int q k) es.toList).run P w = .ok none w := by simp [Instr.findKey, run_underlying hk, h1, Result.andThen]
    refine ⟨setBlock w b (.map (es.push ⟨.int q k, enc v, clock⟩) (clock + 1)), ?_, ⟨_, _, mput m k v, heap_setBlock_same hb _, by rw [Array.toList_push]; exact h3, fun k' => by rw [mget_mput, fput, hf]⟩, hg _⟩
    simp [Instr.mapUpdate, run_underlying ht, MapKept.run_getObj_map hb, hch, hfk, MapKept.run_setObj_map _ hb, Result.andThen, setBlock]
  · have hfk : (Instr.findKey kt (.int q k) es.toList).run P w = .ok (some (0 + j, enc v1)) w := by simp [Instr.findKey, run_underlying hk, h1, Result.andThen]
    have hj : es[j]? = some x := by simpa using hx
    refine ⟨setBlock w b (.map (es.modify j fun e => { e with key := .int q k, val := enc v }) clock), ?_, ⟨_, _, mput m k v, heap_setBlock_same hb _, by rw [Array.toList_modify]; exact h3, fun k' => by rw [mget_mput, fput, hf]⟩, hg _⟩
    simp [Instr.mapUpdate, run_underlying ht, MapKept.run_getObj_map hb, hch, hfk, hj, hxk, hstay, MapKept.run_setObj_map _ hb, Result.andThen, setBlock]

variable {ops : Array Oper} {rest : List Oper} {o : Oper} {a : Act} {Q : Exit → Act → World → Prop} {K : Act → World → Prop} {E : Prop}

theorem wp_look (m x : Operand) {t kt e : TypeId} (c : Bool) (ho : o.op = .lookup t m x c) (ht : P.underlying t = some (.map kt e)) (hk : P.underlying kt = some (.int q)) {z : Value} (hz : (zeroValue e).run P w = .ok z w)
    (hM : MapIs q enc w b f) (hm : a.eval m = .map (some b)) (k : Int) (hx : a.eval x = .int q k) (u : Value) (hu : lookV c enc z (f k) = u)
    (h : K (a.put o.dst u) w) : Oper.wp P o a w K Q := by
  unfold Oper.wp
  simp [execOp, ho, hm, hx, run_look c hM ht hk hz, hu, Result.andThen]
  exact h
theorem wpList_look (hgd : o.guard = none) (m x : Operand) {t kt e : TypeId} (c : Bool) (ho : o.op = .lookup t m x c) (ht : P.underlying t = some (.map kt e)) (hk : P.underlying kt = some (.int q)) {z : Value} (hz : (zeroValue e).run P w = .ok z w)
    (hM : MapIs q enc w b f) (hm : a.eval m = .map (some b)) (k : Int) (hx : a.eval x = .int q k) (u : Value) (hu : lookV c enc z (f k) = u)
    (h : wpList P ops Q rest (a.put o.dst u) w) : wpList P ops Q (o :: rest) a w :=
  wpList_plain hgd fun _ hK => wp_look m x c ho ht hk hz hM hm k hx u hu (hK _ _ h)
theorem step_look (hgd : o.guard = none) (m x : Operand) {t kt e : TypeId} (c : Bool) (ho : o.op = .lookup t m x c) (ht : P.underlying t = some (.map kt e)) (hk : P.underlying kt = some (.int q)) {z : Value} (hz : (zeroValue e).run P w = .ok z w)
    (hM : MapIs q enc w b f) (hm : a.eval m = .map (some b)) (k : Int) (hx : a.eval x = .int q k) (u : Value) (hu : lookV c enc z (f k) = u)
    (h : K (a.put o.dst u) w) : if Region.wanted o (yielded ops a.tmps) = true then Oper.wp P o a w K Q else E := by
  have hw : Region.wanted o (yielded ops a.tmps) = true := by simp [Region.wanted, hgd]
  rw [if_pos hw]
  exact wp_look m x c ho ht hk hz hM hm k hx u hu h
theorem wp_mput (m x v : Operand) {t kt e : TypeId} (ho : o.op = .mapUpdate t m x v ∨ o.op = .insert t m x v) (ht : P.underlying t = some (.map kt e)) (hk : P.underlying kt = some (.int q))
    (hM : MapIs q enc w b f) (hm : a.eval m = .map (some b)) (k : Int) (hx : a.eval x = .int q k) (y : β) (hv : a.eval v = enc y)
    (h : ∀ w', MapIs q enc w' b (fput f k y) → w.grownBy w' (some b) → K (a.put o.dst undef) w') : Oper.wp P o a w K Q := by
  obtain ⟨w', hrun, h1, h2⟩ := run_mput (P := P) hM ht hk k y
  unfold Oper.wp
  rcases ho with ho | ho
  · simp [execOp, ho, hm, hx, hv, hrun, Result.andThen]
    exact h w' h1 h2
  · simp [execOp, ho, hm, hx, hv, hrun, Result.andThen]
    exact h w' h1 h2
theorem wpList_mput (hgd : o.guard = none) (m x v : Operand) {t kt e : TypeId} (ho : o.op = .mapUpdate t m x v ∨ o.op = .insert t m x v) (ht : P.underlying t = some (.map kt e)) (hk : P.underlying kt = some (.int q))
    (hM : MapIs q enc w b f) (hm : a.eval m = .map (some b)) (k : Int) (hx : a.eval x = .int q k) (y : β) (hv : a.eval v = enc y)
    (h : ∀ w', MapIs q enc w' b (fput f k y) → w.grownBy w' (some b) → wpList P ops Q rest (a.put o.dst undef) w') : wpList P ops Q (o :: rest) a w :=
  wpList_plain hgd fun _ hK => wp_mput m x v ho ht hk hM hm k hx y hv fun w' h1 h2 => hK _ _ (h w' h1 h2)
theorem step_mput (hgd : o.guard = none) (m x v : Operand) {t kt e : TypeId} (ho : o.op = .mapUpdate t m x v ∨ o.op = .insert t m x v) (ht : P.underlying t = some (.map kt e)) (hk : P.underlying kt = some (.int q))
    (hM : MapIs q enc w b f) (hm : a.eval m = .map (some b)) (k : Int) (hx : a.eval x = .int q k) (y : β) (hv : a.eval v = enc y)
    (h : ∀ w', MapIs q enc w' b (fput f k y) → w.grownBy w' (some b) → K (a.put o.dst undef) w') : if Region.wanted o (yielded ops a.tmps) = true then Oper.wp P o a w K Q else E := by
  have hw : Region.wanted o (yielded ops a.tmps) = true := by simp [Region.wanted, hgd]
  rw [if_pos hw]
  exact wp_mput m x v ho ht hk hM hm k hx y hv h
end
end Go.Proofs.Ythkenhbpimddpaa
namespace Go.Proofs.Ythkenhbpimddpaa
open Go.RowKit

structure Spot where
  at_ : Nat
  head : Head
deriving DecidableEq, Inhabited
def eSpot : El Spot := { k := 5, enc := fun s => [.int .i64 (s.at_ : Int), .int .i64 s.head.refs, .int .i64 s.head.body, .int .i64 s.head.tag, .bool s.head.free], zero := ⟨0, ⟨0, 0, 0, false⟩⟩, len := fun _ => rfl, pos := by omega, one := fun x u h => by simp at h; rcases h with rfl | rfl | rfl | rfl | rfl <;> rfl }
theorem tySpot : Ty eSpot Try.prog 172 178 40 := Ty.mk' (z := .agg #[.int .i64 0, .int .i64 0, .int .i64 0, .int .i64 0, .bool false]) Try.underlying172 (by kernel_rfl) (by kernel_rfl)
theorem Rd.spot {w : World} {A : Option Addr} {l : List Spot} (h : Rd eSpot w A l) {k : Nat} {x : Spot} (hx : l[k]? = some x) : ∃ b off, A = some ⟨b, off, none⟩ ∧ b < w.heap.size ∧ w.cell? ⟨b, off + k * 5, none⟩ = some (.int .i64 (x.at_ : Int)) ∧ w.cell? ⟨b, off + k * 5 + 1, none⟩ = some (.int .i64 x.head.refs) ∧ w.cell? ⟨b, off + k * 5 + 2, none⟩ = some (.int .i64 x.head.body) ∧ w.cell? ⟨b, off + k * 5 + 3, none⟩ = some (.int .i64 x.head.tag) ∧ w.cell? ⟨b, off + k * 5 + 4, none⟩ = some (.bool x.head.free) := by
  obtain ⟨b, off, hA, hb, hc⟩ := h k x hx
  exact ⟨b, off, hA, hb, hc 0 _ rfl, hc 1 _ rfl, hc 2 _ rfl, hc 3 _ rfl, hc 4 _ rfl⟩

end Go.Proofs.Ythkenhbpimddpaa
namespace Go.Proofs.Ythkenhbpimddpaa
open Go.RowKit

def idxI {α : Type} (p : α → Bool) (xs : List α) : Int := match xs.findIdx? p with | some i => (i : Int) | none => -1
theorem idxI_some {α : Type} {p : α → Bool} {xs : List α} {i : Nat} (h : xs.findIdx? p = some i) : idxI p xs = i := by simp [idxI, h]
theorem idxI_none {α : Type} {p : α → Bool} {xs : List α} (h : xs.findIdx? p = none) : idxI p xs = -1 := by simp [idxI, h]
theorem idxI_cases {α : Type} (p : α → Bool) (xs : List α) : (idxI p xs = -1 ∧ ∀ x ∈ xs, p x = false) ∨ ∃ (i : Nat) (x : α), idxI p xs = (i : Int) ∧ xs[i]? = some x ∧ p x = true ∧ ∀ (j : Nat) (y : α), j < i → xs[j]? = some y → p y = false := by
  cases h : xs.findIdx? p with
  | none => exact .inl ⟨idxI_none h, by simpa using h⟩
  | some i =>
    obtain ⟨hi, hp, hb⟩ := List.findIdx?_eq_some_iff_getElem.1 h
    refine .inr ⟨i, xs[i], idxI_some h, List.getElem?_eq_getElem hi, hp, fun j y hj hy => ?_⟩
    have := hb j hj
    obtain ⟨hj', rfl⟩ := List.getElem?_eq_some_iff.1 hy
    simpa using this
theorem findIdx?_at {α : Type} {p : α → Bool} {xs : List α} {k : Nat} {x : α} (h0 : ∀ j y, j < k → xs[j]? = some y → p y = false) (hx : xs[k]? = some x) (hp : p x = true) : idxI p xs = k := by
  apply idxI_some
  obtain ⟨hk, rfl⟩ := List.getElem?_eq_some_iff.1 hx
  rw [List.findIdx?_eq_some_iff_getElem]
  exact ⟨hk, hp, fun j hj => by simp [h0 j xs[j] hj (List.getElem?_eq_getElem (by omega))]⟩
theorem findIdx?_no {α : Type} {p : α → Bool} {xs : List α} {k : Nat} (h0 : ∀ j y, j < k → xs[j]? = some y → p y = false) (hk : ¬ k < xs.length) : idxI p xs = -1 := by
  apply idxI_none
  rw [List.findIdx?_eq_none_iff]
  intro x hx
  obtain ⟨j, hj, rfl⟩ := List.getElem_of_mem hx
  exact h0 j _ (by omega) (List.getElem?_eq_getElem hj)

set_option maxRecDepth 100000 in
set_option maxHeartbeats 1000000 in
theorem indexFuncHands (A : Option Addr) (c : Nat) (xs : List Slot) (w : World) (hr : Rd eSlot w A xs) (hm : xs.length ≤ maxLen) (g : Nat) (lb : Array Value) (p : Slot → Bool) (eg : Enters Try.prog g)
    (hp : ∀ x ∈ xs, ∀ W, Below w.heap.size w W → Calls Try.prog g (#[.agg #[.int .i64 x.gen, .bool x.open_, .int .i64 x.at_]] ++ lb) W (Ret (.bool (p x)) W)) :
    Calls Try.prog 44 #[.slice A xs.length c, .func (.func g) #[] lb] w (Ret (.int .i64 (idxI p xs)) w) := by
  unfold maxLen at hm
  have HP := Lib.hid hp
  clear hp
  unfold Enters at eg
  go_enter Try.func44, Try.ntmps44
  go_wp2
  go_loopw [8] (fun i wr => ∃ k : Nat, k ≤ xs.length ∧ i = .int .i64 k ∧ Hid (∀ j y, j < k → xs[j]? = some y → p y = false) ∧ Below w.heap.size w wr) (fun i _ => xs.length - (intOf i).toNat)
  case atStart => exact ⟨0, by omega, rfl, fun j y h => absurd h (by omega), Below.refl _ _⟩
  case round =>
    obtain ⟨k, hk, rfl, h0, hb⟩ := hrel
    by_cases hlt : k < xs.length
    · obtain ⟨x, hx⟩ : ∃ x, xs[k]? = some x := ⟨xs[k], List.getElem?_eq_getElem hlt⟩
      obtain ⟨b, off, rfl, hlt2, c0, c1, c2⟩ := (hr.below hb).slot hx
      have HX := Lib.hid hx
      clear hx
      cases hpx : p x
      · go_wp2_with fail
        refine (HP.out x (List.mem_of_getElem? HX.out) _ hb).mono ?_
        rw [hpx]
        rintro e w1 ⟨rfl, hb1⟩
        have H1 : Hid (∀ j y, j < k + 1 → xs[j]? = some y → p y = false) := fun j y hj hy => by
          rcases Nat.lt_succ_iff_lt_or_eq.1 hj with hj | rfl
          · exact h0.out j y hj hy
          · rw [HX.out] at hy; injection hy with hy; subst hy; exact hpx
        clear hpx
        go_wp2_with fail
        go_roundw
        case rel => exact ⟨k + 1, by omega, by go_num, H1, hb.trans (hb1.mono hb.size)⟩
        case measure => simp [intOf]; omega
      · go_wp2_with fail
        refine (HP.out x (List.mem_of_getElem? HX.out) _ hb).mono ?_
        rw [hpx]
        rintro e w1 ⟨rfl, hb1⟩
        have H1 := Lib.hid (findIdx?_at h0.out HX.out hpx)
        clear hpx
        go_wp2_with fail
        go_ret
        exact ⟨by rw [H1.out]; rfl, hb.trans (hb1.mono hb.size)⟩
    · have H1 := Lib.hid (findIdx?_no h0.out hlt)
      go_wp2_with fail
      go_ret
      exact ⟨by rw [H1.out]; rfl, hb⟩

set_option maxRecDepth 100000 in
set_option maxHeartbeats 1000000 in
theorem indexFuncInt (A : Option Addr) (c : Nat) (xs : List Int) (w : World) (hr : Rd eInt w A xs) (hm : xs.length ≤ maxLen) (g : Nat) (lb : Array Value) (p : Int → Bool) (eg : Enters Try.prog g)
    (hp : ∀ x ∈ xs, ∀ W, Below w.heap.size w W → Calls Try.prog g (#[.int .i64 x] ++ lb) W (Ret (.bool (p x)) W)) :
    Calls Try.prog 144 #[.slice A xs.length c, .func (.func g) #[] lb] w (Ret (.int .i64 (idxI p xs)) w) := by
  unfold maxLen at hm
  have HP := Lib.hid hp
  clear hp
  unfold Enters at eg
  go_enter Try.func144, Try.ntmps144
  go_wp2
  go_loopw [8] (fun i wr => ∃ k : Nat, k ≤ xs.length ∧ i = .int .i64 k ∧ Hid (∀ j y, j < k → xs[j]? = some y → p y = false) ∧ Below w.heap.size w wr) (fun i _ => xs.length - (intOf i).toNat)
  case atStart => exact ⟨0, by omega, rfl, fun j y h => absurd h (by omega), Below.refl _ _⟩
  case round =>
    obtain ⟨k, hk, rfl, h0, hb⟩ := hrel
    by_cases hlt : k < xs.length
    · obtain ⟨x, hx⟩ : ∃ x, xs[k]? = some x := ⟨xs[k], List.getElem?_eq_getElem hlt⟩
      obtain ⟨b, off, rfl, hlt2, c0⟩ := (hr.below hb).int hx
      have HX := Lib.hid hx
      clear hx
      cases hpx : p x
      · go_wp2_with fail
        refine (HP.out x (List.mem_of_getElem? HX.out) _ hb).mono ?_
        rw [hpx]
        rintro e w1 ⟨rfl, hb1⟩
        have H1 : Hid (∀ j y, j < k + 1 → xs[j]? = some y → p y = false) := fun j y hj hy => by
          rcases Nat.lt_succ_iff_lt_or_eq.1 hj with hj | rfl
          · exact h0.out j y hj hy
          · rw [HX.out] at hy; injection hy with hy; subst hy; exact hpx
        clear hpx
        go_wp2_with fail
        go_roundw
        case rel => exact ⟨k + 1, by omega, by go_num, H1, hb.trans (hb1.mono hb.size)⟩
        case measure => simp [intOf]; omega
      · go_wp2_with fail
        refine (HP.out x (List.mem_of_getElem? HX.out) _ hb).mono ?_
        rw [hpx]
        rintro e w1 ⟨rfl, hb1⟩
        have H1 := Lib.hid (findIdx?_at h0.out HX.out hpx)
        clear hpx
        go_wp2_with fail
        go_ret
        exact ⟨by rw [H1.out]; rfl, hb.trans (hb1.mono hb.size)⟩
    · have H1 := Lib.hid (findIdx?_no h0.out hlt)
      go_wp2_with fail
      go_ret
      exact ⟨by rw [H1.out]; rfl, hb⟩

set_option maxRecDepth 100000 in
set_option maxHeartbeats 1000000 in
theorem indexFuncSpot (A : Option Addr) (c : Nat) (xs : List Spot) (w : World) (hr : Rd eSpot w A xs) (hm : xs.length ≤ maxLen) (g : Nat) (lb : Array Value) (p : Spot → Bool) (eg : Enters Try.prog g)
    (hp : ∀ x ∈ xs, ∀ W, Below w.heap.size w W → Calls Try.prog g (#[.agg #[.int .i64 (x.at_ : Int), .int .i64 x.head.refs, .int .i64 x.head.body, .int .i64 x.head.tag, .bool x.head.free]] ++ lb) W (Ret (.bool (p x)) W)) :
    Calls Try.prog 99 #[.slice A xs.length c, .func (.func g) #[] lb] w (Ret (.int .i64 (idxI p xs)) w) := by
  unfold maxLen at hm
  have HP := Lib.hid hp
  clear hp
  unfold Enters at eg
  go_enter Try.func99, Try.ntmps99
  go_wp2
  go_loopw [8] (fun i wr => ∃ k : Nat, k ≤ xs.length ∧ i = .int .i64 k ∧ Hid (∀ j y, j < k → xs[j]? = some y → p y = false) ∧ Below w.heap.size w wr) (fun i _ => xs.length - (intOf i).toNat)
  case atStart => exact ⟨0, by omega, rfl, fun j y h => absurd h (by omega), Below.refl _ _⟩
  case round =>
    obtain ⟨k, hk, rfl, h0, hb⟩ := hrel
    by_cases hlt : k < xs.length
    · obtain ⟨x, hx⟩ : ∃ x, xs[k]? = some x := ⟨xs[k], List.getElem?_eq_getElem hlt⟩
      obtain ⟨b, off, rfl, hlt2, c0, c1, c2, c3, c4⟩ := (hr.below hb).spot hx
      have HX := Lib.hid hx
      clear hx
      cases hpx : p x
      · go_wp2_with fail
        refine (HP.out x (List.mem_of_getElem? HX.out) _ hb).mono ?_
        rw [hpx]
        rintro e w1 ⟨rfl, hb1⟩
        have H1 : Hid (∀ j y, j < k + 1 → xs[j]? = some y → p y = false) := fun j y hj hy => by
          rcases Nat.lt_succ_iff_lt_or_eq.1 hj with hj | rfl
          · exact h0.out j y hj hy
          · rw [HX.out] at hy; injection hy with hy; subst hy; exact hpx
        clear hpx
        go_wp2_with fail
        go_roundw
        case rel => exact ⟨k + 1, by omega, by go_num, H1, hb.trans (hb1.mono hb.size)⟩
        case measure => simp [intOf]; omega
      · go_wp2_with fail
        refine (HP.out x (List.mem_of_getElem? HX.out) _ hb).mono ?_
        rw [hpx]
        rintro e w1 ⟨rfl, hb1⟩
        have H1 := Lib.hid (findIdx?_at h0.out HX.out hpx)
        clear hpx
        go_wp2_with fail
        go_ret
        exact ⟨by rw [H1.out]; rfl, hb.trans (hb1.mono hb.size)⟩
    · have H1 := Lib.hid (findIdx?_no h0.out hlt)
      go_wp2_with fail
      go_ret
      exact ⟨by rw [H1.out]; rfl, hb⟩

end Go.Proofs.Ythkenhbpimddpaa
