/- Words for memory, more: append to an own row; what a walk wants of an own row. -/
import Derived.Test.YthkenhbpimddpaaW
import Derived.Laws.AppendOwn
namespace Go.Proofs.Ythkenhbpimddpaa
open Go.RowKit

section
variable {α : Type} {L : El α} {w w' : World} {xs ys news : List α} {A : Option Addr} {B B' e : Nat} {v : Value} {P : Program}

theorem El.flat_replicate (n : Nat) {z : Array Value} (hz : z = (L.enc L.zero).toArray) : Builtin.zeroCells z n = (L.flat (List.replicate n L.zero)).toArray := by
  have hk := L.len L.zero
  have hp := L.pos
  subst hz
  apply Array.ext'
  apply List.ext_getElem?
  intro m
  simp only [Builtin.zeroCells, List.size_toArray, hk]
  by_cases hm : m < n * L.k
  · have hi : m / L.k < n := Nat.div_lt_of_lt_mul (by rw [Nat.mul_comm]; exact hm)
    have hd : m = m / L.k * L.k + m % L.k := by rw [Nat.mul_comm]; exact (Nat.div_add_mod m L.k).symm
    have h1 := El.flat_at (L := L) (List.replicate n L.zero) (m / L.k) (m % L.k) L.zero (by simp [hi]) (Nat.mod_lt _ hp)
    rw [← hd] at h1
    have hl : m % L.k < (L.enc L.zero).length := by rw [hk]; exact Nat.mod_lt _ hp
    simp only [h1, Array.toList_map, List.getElem?_map, Array.getElem?_toList, Array.getElem?_range, hm, if_true, Option.map_some]
    rw [List.getElem?_eq_getElem hl, List.getElem!_toArray, List.getElem!_eq_getElem?_getD, List.getElem?_eq_getElem hl]
    rfl
  · have h1 : (L.flat (List.replicate n L.zero)).length ≤ m := by rw [El.length_flat, List.length_replicate]; omega
    rw [List.getElem?_eq_none h1]
    simp
    omega

/-- the type's row of the table, by this element -/
structure Ty (L : El α) (P : Program) (t e bytes : Nat) : Prop where
  slice : P.underlying t = some (.slice e)
  info : ∃ i z, P.info? e = some i ∧ i.zero = some z ∧ i.size = L.k ∧ i.bytes = bytes ∧ z.cells = (L.enc L.zero).toArray
theorem Ty.mk' {t e bytes : Nat} {z : Value} (h1 : P.underlying t = some (.slice e)) (h2 : (P.info? e).map (fun i => (i.zero, i.size, i.bytes)) = some (some z, L.k, bytes)) (h3 : z.cells = (L.enc L.zero).toArray) : Ty L P t e bytes := by
  obtain ⟨i, hi, hz, hs, hb⟩ := info_parts h2
  exact ⟨h1, i, z, hi, hz, hs, hb, h3⟩

theorem Own.made (hB : B ≤ w.heap.size) (ys : List α) (xs : List α) (hm : xs.length + ys.length ≤ maxLen) :
    Own L e (w.alloc (.cells (L.flat (xs ++ ys)).toArray e)) B (.slice (some ⟨w.heap.size, 0, none⟩) xs.length (xs.length + ys.length)) xs :=
  .inr ⟨w.heap.size, ys, rfl, hB, hm, heap_alloc_new w _⟩

theorem run_append_Own {t ty bytes : Nat} (T : Ty L P t e bytes) (hown : Own L e w B v xs) (hr : Rd L w A news) (c : Nat) (hB : B ≤ w.heap.size)
    (h63 : xs.length + news.length ≤ maxLen) (hbytes : (xs.length + news.length) * bytes ≤ 140737488355328) :
    ∃ v' w', (Builtin.append_ #[t, t] ty #[v, .slice A news.length c]).run P w = .ok v' w' ∧ Own L e w' B v' (xs ++ news) ∧ w.grownBy w' v.ownBlock ∧
      (v'.ownBlock = v.ownBlock ∨ v'.ownBlock = some w.heap.size) := by
  obtain ⟨ht, i, z, hi, hz, hk, hby, hzc⟩ := T
  subst hby
  have h63' : xs.length + news.length ≤ 9223372036854775807 := by simpa [maxLen] using h63
  by_cases hn : news.length = 0
  · have hn' : news = [] := List.eq_nil_of_length_eq_zero hn
    subst hn'
    refine ⟨v, w, ?_, by simpa using hown, World.grownBy.refl w _, .inl rfl⟩
    rcases hown with ⟨rfl, rfl⟩ | ⟨g, ys, rfl, hb, hm, hg⟩
    · cases A <;> simp [Builtin.append_, run_underlying ht, sizeOf, typeInfo, hi, Builtin.lenOf, Builtin.firstCells, loadCells, loadCellsFrom]
    · cases A <;> simp [Builtin.append_, run_underlying ht, sizeOf, typeInfo, hi, Builtin.lenOf, Builtin.firstCells, loadCells, loadCellsFrom, storeCells]
  · obtain ⟨b, off, rfl, hlt, hc⟩ := hr.flat_ (by omega)
    have hnews : ∀ j u, (L.flat news)[j]? = some u → w.cell? ((⟨b, off, none⟩ : Addr).add j) = some u := fun j u hu => by rw [Addr.add_lit]; exact hc j u hu
    have hl : (L.flat news).length = news.length * i.size := by rw [El.length_flat, hk]
    have grow : ∀ (old : Nat), old < xs.length + news.length → ∀ row : Option Nat,
        Own L e (w.drew.alloc (.cells ((L.flat xs).toArray ++ (L.flat news).toArray ++ Builtin.zeroCells z.cells (grownCap w (xs.length + news.length) old e - (xs.length + news.length))) e)) B
          (.slice (some ⟨w.heap.size, 0, none⟩) (xs.length + news.length) (grownCap w (xs.length + news.length) old e)) (xs ++ news) ∧
        w.grownBy (w.drew.alloc (.cells ((L.flat xs).toArray ++ (L.flat news).toArray ++ Builtin.zeroCells z.cells (grownCap w (xs.length + news.length) old e - (xs.length + news.length))) e)) row := by
      intro old ho row
      have hge := grownCap_ge w (xs.length + news.length) old e
      have hcm : grownCap w (xs.length + news.length) old e ≤ maxLen := grownCap_le_maxLen w (xs.length + news.length) old e h63
      refine ⟨.inr ⟨w.heap.size, List.replicate (grownCap w (xs.length + news.length) old e - (xs.length + news.length)) L.zero, ?_, hB, ?_, ?_⟩, ⟨rfl, rfl, rfl, by simp, fun k hk _ => Below.heap_alloc w.drew _ k hk⟩⟩
      · simp only [List.length_append, List.length_replicate]
        congr 1; omega
      · simp only [List.length_append, List.length_replicate]; omega
      · rw [El.flat_replicate _ hzc, El.flat_append, El.flat_append]
        simp only [List.append_toArray]
        exact heap_alloc_new w.drew _
    rcases hown with ⟨rfl, rfl⟩ | ⟨g, ys, rfl, hbg, hm, hg⟩
    · have hr := run_append_nil (P := P) w t ty e i z ht hi hz ⟨b, off, none⟩ news.length c (L.flat news) hl hnews (by omega) (by simp at h63'; omega) (by simp at hbytes; omega)
      have hgr := grow 0 (by omega) (Value.ownBlock (.slice none 0 0))
      simp only [List.length_nil, Nat.zero_add, List.nil_append, El.flat_nil, Array.empty_append] at hgr ⊢
      exact ⟨_, _, hr, hgr.1, hgr.2, .inr rfl⟩
    · by_cases hroom : xs.length + news.length ≤ xs.length + ys.length
      · have hfit : xs.length * i.size + (L.flat news).length ≤ (L.flat (xs ++ ys)).toArray.size := by
          simp only [List.size_toArray, El.length_flat, List.length_append, hk]
          rw [← Nat.add_mul]; exact Nat.mul_le_mul_right _ (by omega)
        have hr := run_append_room (P := P) w t ty e i ht hi g xs.length (xs.length + ys.length) _ hg ⟨b, off, none⟩ news.length c (L.flat news) hl hnews (fun u hu => El.flat_one _ hu) hroom hfit
        refine ⟨_, _, hr, .inr ⟨g, ys.drop news.length, ?_, hbg, ?_, ?_⟩, ⟨rfl, rfl, rfl, by simp [World.setRow], fun k _ hk => setRow_other w g k _ (fun e => hk (by simp [Value.ownBlock, e]))⟩, .inl rfl⟩
        · simp only [List.length_append, List.length_drop]
          congr 1; omega
        · simp only [List.length_append, List.length_drop]; omega
        · rw [setRow_heap w g _ _ e _ hg]
          congr 2
          have e1 : xs.length * i.size = (L.flat xs).length := by rw [El.length_flat, hk]
          have e2 : (L.flat (xs ++ ys)).drop (xs.length * i.size + (L.flat news).length) = L.flat (ys.drop news.length) := by
            rw [El.flat_append, e1, List.drop_append]
            simp only [List.drop_eq_nil_of_le (show (L.flat xs).length ≤ (L.flat xs).length + (L.flat news).length from by omega), List.nil_append, Nat.add_sub_cancel_left]
            conv => lhs; rw [← List.take_append_drop news.length ys, El.flat_append]
            rw [El.length_flat news]
            by_cases hle : news.length ≤ ys.length
            · rw [List.drop_left' (by rw [El.length_flat, List.length_take, Nat.min_eq_left hle])]
            · omega
          rw [e2, El.flat_append, El.flat_append, e1, El.flat_append, List.take_left]
      · have holds : ∀ j u, (L.flat xs)[j]? = some u → w.cell? ((⟨g, 0, none⟩ : Addr).add j) = some u := by
          intro j u hu
          rw [Addr.add_lit, cell_of_row w g _ _ _ _ hg]
          simp only [Nat.zero_add, List.getElem?_toArray]
          rw [El.flat_append, List.getElem?_append_left (List.getElem?_eq_some_iff.1 hu).1, hu]
        have hr := run_append_grow (P := P) w t ty e i z ht hi hz ⟨g, 0, none⟩ xs.length (xs.length + ys.length) (L.flat xs) (by rw [El.length_flat, hk]) holds ⟨b, off, none⟩ news.length c (L.flat news) hl hnews
          (by omega) (by omega) (growslice_fits (by omega) hbytes)
        have hgr := grow (xs.length + ys.length) (by omega) (some g)
        exact ⟨_, _, hr, hgr.1, hgr.2, .inr rfl⟩
end
end Go.Proofs.Ythkenhbpimddpaa
