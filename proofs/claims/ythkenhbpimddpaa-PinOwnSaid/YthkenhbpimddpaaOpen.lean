/- Arguments: slices of elements as lists. -/
import Derived.Test.YthkenhbpimddpaaCl
import Derived.Deep.Slices
import Derived.Deep.Fields
import Derived.ProofKit
import Derived.OpenShut
import Derived.SizedLaws
import Derived.ChangeOld
namespace Go.Proofs.Ythkenhbpimddpaa
open Go.RowKit Go.Deep

section
variable {H : Type} {enc : TypeId × Value → H} {P : Program} {w : World} {base : Nat} {held : Bool}

/-- what the reader calls an element is one -/
def Dec {α : Type} (L : El α) (enc : TypeId × Value → H) (P : Program) (w : World) (base : Nat) (held : Bool) (e : Nat) (good : α → Prop) : Prop :=
  P.cellsOf e = L.k ∧ ∀ (n : Nat) (cs : List Value) (y : DataW H × List MemPlace), DataW.trod enc P w base (fun _ => true) held n e cs = some y → ∃ x, cs = L.enc x ∧ good x

theorem open_El {α : Type} {L : El α} {t e : Nat} {good : α → Prop} {A : Option Addr} {n c fuel : Nat} {x : DataW H × List MemPlace} (ht : P.underlying t = some (.slice e)) (hd : Dec L enc P w base held e good)
    (h : DataW.trod enc P w base (fun _ => true) held fuel t [.slice A n c] = some x) :
    ∃ xs : List α, xs.length = n ∧ Rd L w A xs ∧ (∀ z ∈ xs, good z) ∧ n ≤ c ∧ c ≤ maxLen ∧ (c = 0 ∨ ∃ elems spare, x.1 = .slice elems spare ∧ elems.length + spare.length = c) := by
  obtain ⟨hC, hdec⟩ := hd
  rcases open_slice ht h with ⟨hcs, _⟩ | ⟨a, len, cap, m, k, D, Pl, hcs, hb, hl, hm, hmm, hx, hi⟩
  · simp only [List.cons.injEq, Value.slice.injEq, and_true] at hcs
    obtain ⟨rfl, rfl, rfl⟩ := hcs
    exact ⟨[], rfl, Rd.nil, by simp, Nat.le_refl _, by simp [maxLen], .inl rfl⟩
  · simp only [List.cons.injEq, Value.slice.injEq, and_true] at hcs
    obtain ⟨rfl, rfl, rfl⟩ := hcs
    simp only [if_true] at hmm
    subst hmm
    have hel : ∀ i, i < m → ∃ z, good z ∧ ∃ cs', w.cells? base (a.add (i * P.cellsOf e)) (P.cellsOf e) = some cs' ∧ cs' = L.enc z := fun i hi' => by
      obtain ⟨cs', h1, h2⟩ := hi i hi'
      obtain ⟨z, h3, h4⟩ := hdec _ _ _ h2
      exact ⟨z, h4, cs', h1, h3⟩
    have hf : ∃ f : Nat → α, ∀ i, i < m → good (f i) ∧ w.cells? base (a.add (i * P.cellsOf e)) (P.cellsOf e) = some (L.enc (f i)) := by
      refine ⟨fun i => if h : i < m then (hel i h).choose else L.zero, fun i h => ?_⟩
      simp only [dif_pos h]
      obtain ⟨h1, cs', h2, h3⟩ := (hel i h).choose_spec
      exact ⟨h1, h2.trans (congrArg some h3)⟩
    obtain ⟨f, hf⟩ := hf
    have hcell : ∀ i, i < m → ∀ j u, (L.enc (f i))[j]? = some u → w.cell? (a.add (i * L.k + j)) = some u := fun i hi j u hu => by
      obtain ⟨_, h2⟩ := hf i hi
      obtain ⟨_, hlen, h3⟩ := World.cells?_some h2
      have hj : j < L.k := by rw [← L.len (f i)]; exact (List.getElem?_eq_some_iff.1 hu).1
      have := h3 j (by rw [hC]; exact hj)
      rw [hC, Go.Deep.add_add] at this
      rw [this, hu]
    have hx1 : x.1 = .slice ((List.range n).map D) ((List.range (m - n)).map fun j => D (n + j)) := by rw [hx]
    refine ⟨(List.range n).map f, by simp, ?_, ?_, hl, hm, .inr ⟨_, _, hx1, by simp; omega⟩⟩
    · intro i z hz
      simp only [List.getElem?_map] at hz
      have hin : i < n := by
        rcases Nat.lt_or_ge i n with h | h
        · exact h
        · rw [List.getElem?_eq_none (by simpa using h)] at hz; cases hz
      rw [List.getElem?_range hin] at hz
      simp only [Option.map_some, Option.some.injEq] at hz
      subst hz
      have hp := L.pos
      have h0 := hcell i (by omega) 0 ((L.enc (f i))[0]'(by rw [L.len]; omega)) (List.getElem?_eq_getElem _)
      have hspot : a.spot = none := by
        have := hcell 0 (by omega) 0 ((L.enc (f 0))[0]'(by rw [L.len]; omega)) (List.getElem?_eq_getElem _)
        simp only [Nat.zero_mul, Nat.zero_add] at this
        have := World.cell?_spot this
        simpa [Addr.add] using this
      obtain ⟨b, off, spot⟩ := a
      simp only at hspot
      subst hspot
      refine ⟨b, off, rfl, ?_, fun j u hu => ?_⟩
      · have := World.block_lt_of_cell? w _ h0
        simpa [Addr.add_lit] using this
      · have := hcell i (by omega) j u hu
        rwa [Addr.add_lit] at this
    · intro z hz
      simp only [List.mem_map, List.mem_range] at hz
      obtain ⟨i, hi, rfl⟩ := hz
      exact (hf i (by omega)).1

theorem dec_one {v : Value} {xs : List (DataW H × List MemPlace)} {n t : Nat} {i : Nat} (h : DataW.trod enc P w base (fun _ => true) held n t [v] = xs[i]?) (hi : i < xs.length) : ∃ y, DataW.trod enc P w base (fun _ => true) held n t [v] = some y :=
  ⟨xs[i], h.trans (List.getElem?_eq_getElem hi)⟩
end

section
variable {H : Type} {enc : TypeId × Value → H} {w : World} {base : Nat} {held : Bool}
theorem decInt : Dec eInt enc Try.prog w base held 3 (fun _ => True) := ⟨by kernel_rfl, fun n cs y h => by
  obtain ⟨m, rfl, _, _⟩ := DataW.trod_int Try.underlying3 h
  exact ⟨m, rfl, trivial⟩⟩
theorem decU64 : Dec eU64 enc Try.prog w base held 25 (fun x => x < 18446744073709551616) := ⟨by kernel_rfl, fun n cs y h => by
  obtain ⟨m, rfl, _, hw⟩ := DataW.trod_int Try.underlying25 h
  obtain ⟨h0, h1⟩ := bounds_u64 hw
  obtain ⟨k, rfl⟩ := Int.eq_ofNat_of_zero_le h0
  exact ⟨k, rfl, by omega⟩⟩
set_option maxRecDepth 100000 in
theorem decPin : Dec ePin enc Try.prog w base held 29 (fun _ => True) := ⟨by kernel_rfl, fun n cs y h => by
  obtain ⟨xs, m, _, _, hlen, hxl, hf⟩ := DataW.trod_struct Try.underlying29 h
  have hC : Try.prog.cellsOf 29 = 2 := by kernel_rfl
  have h3 : Try.prog.cellsOf 3 = 1 := by kernel_rfl
  rw [hC] at hlen
  obtain ⟨c0, c1, rfl⟩ : ∃ c0 c1, cs = [c0, c1] := by
    match cs, hlen with
    | [c0, c1], _ => exact ⟨c0, c1, rfl⟩
  · have f0 : DataW.trod enc Try.prog w base (fun _ => true) held m 3 ((List.drop 0 [c0, c1]).take (Try.prog.cellsOf 3)) = xs[0]? := hf 0 _ rfl
    have f1 : DataW.trod enc Try.prog w base (fun _ => true) held m 3 ((List.drop 1 [c0, c1]).take (Try.prog.cellsOf 3)) = xs[1]? := hf 1 _ rfl
    rw [h3] at f0 f1
    simp only [List.drop_zero, List.drop_succ_cons, List.take_succ_cons, List.take_zero] at f0 f1
    obtain ⟨y0, f0⟩ := dec_one f0 (by rw [hxl]; decide)
    obtain ⟨y1, f1⟩ := dec_one f1 (by rw [hxl]; decide)
    obtain ⟨a, ha, _⟩ := DataW.trod_int Try.underlying3 f0
    obtain ⟨b, hb, _⟩ := DataW.trod_int Try.underlying3 f1
    simp only [List.cons.injEq, and_true] at ha hb
    subst ha; subst hb
    exact ⟨⟨a, b⟩, rfl, trivial⟩⟩
set_option maxRecDepth 100000 in
theorem decSlot : Dec eSlot enc Try.prog w base held 32 (fun _ => True) := ⟨by kernel_rfl, fun n cs y h => by
  obtain ⟨xs, m, _, _, hlen, hxl, hf⟩ := DataW.trod_struct Try.underlying32 h
  have hC : Try.prog.cellsOf 32 = 3 := by kernel_rfl
  have h3 : Try.prog.cellsOf 3 = 1 := by kernel_rfl
  have h4 : Try.prog.cellsOf 4 = 1 := by kernel_rfl
  rw [hC] at hlen
  obtain ⟨c0, c1, c2, rfl⟩ : ∃ c0 c1 c2, cs = [c0, c1, c2] := by
    match cs, hlen with
    | [c0, c1, c2], _ => exact ⟨c0, c1, c2, rfl⟩
  · have f0 : DataW.trod enc Try.prog w base (fun _ => true) held m 3 ((List.drop 0 [c0, c1, c2]).take (Try.prog.cellsOf 3)) = xs[0]? := hf 0 _ rfl
    have f1 : DataW.trod enc Try.prog w base (fun _ => true) held m 4 ((List.drop 1 [c0, c1, c2]).take (Try.prog.cellsOf 4)) = xs[1]? := hf 1 _ rfl
    have f2 : DataW.trod enc Try.prog w base (fun _ => true) held m 3 ((List.drop 2 [c0, c1, c2]).take (Try.prog.cellsOf 3)) = xs[2]? := hf 2 _ rfl
    rw [h3] at f0 f2
    rw [h4] at f1
    simp only [List.drop_zero, List.drop_succ_cons, List.take_succ_cons, List.take_zero] at f0 f1 f2
    obtain ⟨y0, f0⟩ := dec_one f0 (by rw [hxl]; decide)
    obtain ⟨y1, f1⟩ := dec_one f1 (by rw [hxl]; decide)
    obtain ⟨y2, f2⟩ := dec_one f2 (by rw [hxl]; decide)
    obtain ⟨a, ha, _⟩ := DataW.trod_int Try.underlying3 f0
    obtain ⟨b, hb, _⟩ := DataW.trod_bool Try.underlying4 f1
    obtain ⟨c, hc, _⟩ := DataW.trod_int Try.underlying3 f2
    simp only [List.cons.injEq, and_true] at ha hb hc
    subst ha; subst hb; subst hc
    exact ⟨⟨a, b, c⟩, rfl, trivial⟩⟩
end
end Go.Proofs.Ythkenhbpimddpaa
