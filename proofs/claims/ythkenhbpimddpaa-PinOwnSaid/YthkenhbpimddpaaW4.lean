/- Words for memory, more: copy; append of a made slice; slices.overlaps. -/
import Derived.Test.YthkenhbpimddpaaW3
import Derived.Lib.AppendZeros
import Derived.Lib.Overlaps
import Derived.Laws.Externs
import Derived.Laws.CopyRow
import Derived.Laws.CopyOwn
namespace Go.Proofs.Ythkenhbpimddpaa
open Go.RowKit

section
variable {α : Type} {L : El α} {w w' : World} {xs ys zs news : List α} {A : Option Addr} {B B' e : Nat} {v : Value} {P : Program}

theorem El.flat_take (xs : List α) (n : Nat) : L.flat (xs.take n) = (L.flat xs).take (n * L.k) := by
  induction xs generalizing n with
  | nil => simp [El.flat]
  | cons x xs ih =>
    cases n with
    | zero => simp [El.flat]
    | succ n =>
      rw [List.take_succ_cons, El.flat_cons, El.flat_cons, ih, show (n + 1) * L.k = (L.enc x).length + n * L.k from by rw [L.len, Nat.add_mul]; omega, List.take_length_add_append]
theorem El.flat_drop (xs : List α) (n : Nat) : L.flat (xs.drop n) = (L.flat xs).drop (n * L.k) := by
  induction xs generalizing n with
  | nil => simp [El.flat]
  | cons x xs ih =>
    cases n with
    | zero => simp
    | succ n =>
      rw [List.drop_succ_cons, El.flat_cons, ih, show (n + 1) * L.k = (L.enc x).length + n * L.k from by rw [L.len, Nat.add_mul]; omega, List.drop_length_add_append]
theorem El.flat_splice (zs cs : List α) (d : Nat) : L.flat (splice zs d cs) = splice (L.flat zs) (d * L.k) (L.flat cs) := by
  simp only [splice, El.flat_append, El.flat_take, El.flat_drop, El.length_flat, Nat.add_mul]

/-- copy into a row that is known whole -/
theorem run_copy_El {t t' ty bytes g d dl dc c n m : Nat} (T : Ty L P t e bytes) (hg : w.heap[g]? = some (.cells (L.flat zs).toArray e (0, 0))) (hr : Rd L w A xs) (hn : n = xs.length)
    (dp : Option Addr) (hm : m = Nat.min n dl) (hpos : 0 < m → dp = some ⟨g, d * L.k, none⟩) (hfit : d + m ≤ zs.length) :
    ∃ w', (Builtin.copy_ #[t, t'] ty #[.slice dp dl dc, .slice A n c]).run P w = .ok (goInt m) w' ∧
      w'.heap[g]? = some (.cells (L.flat (splice zs d (xs.take m))).toArray e (0, 0)) ∧ w.grownBy w' (some g) ∧ w'.heap.size = w.heap.size := by
  obtain ⟨ht, i, z, hi, hz, hk, hby, hzc⟩ := T
  have hle : m ≤ xs.length := by rw [← hn, hm]; exact Nat.min_le_left _ _
  by_cases h0 : m = 0
  · subst h0
    refine ⟨w, ?_, by simpa [splice] using hg, World.grownBy.refl w _, rfl⟩
    cases A with
    | none => cases dp <;> simp [Builtin.copy_, run_underlying ht, Builtin.lenOf, Builtin.firstCells, sizeOf, typeInfo, hi, ← hm, storeCells]
    | some a => cases dp <;> simp [Builtin.copy_, run_underlying ht, Builtin.lenOf, Builtin.firstCells, sizeOf, typeInfo, hi, ← hm, loadCells, loadCellsFrom, storeCells]
  · have hx0 : 0 < xs.length := by omega
    obtain ⟨b, off, rfl, hlt, hc⟩ := hr.flat_ hx0
    obtain rfl := hpos (by omega)
    have hl := run_firstCells_some (P := P) w i.size m ⟨b, off, none⟩ n c (L.flat (xs.take m)) (by rw [El.length_flat, List.length_take, hk, Nat.min_eq_left hle])
      (fun j u hu => by
        rw [Addr.add_lit]
        refine hc j u ?_
        rw [El.flat_take, List.getElem?_take] at hu
        split at hu
        · exact hu
        · cases hu)
    have hlen : (L.flat (xs.take m)).length = m * L.k := by rw [El.length_flat, List.length_take, Nat.min_eq_left hle]
    have hst := run_storeCells_at P g (d * L.k) e (L.flat (xs.take m)) 0 _ w hg (by
        simp only [List.size_toArray, hlen, El.length_flat]
        rw [Nat.add_zero, ← Nat.add_mul]; exact Nat.mul_le_mul_right _ hfit) (fun u hu => El.flat_one _ hu)
    have hcell := setRow_heap w g (L.flat zs).toArray (L.flat (splice zs d (xs.take m))).toArray e (0, 0) hg
    refine ⟨_, ?_, hcell, ⟨rfl, rfl, rfl, by simp [World.setRow], fun k _ hk => setRow_other w g k _ (fun e => hk (by rw [e]))⟩, by simp [World.setRow]⟩
    have heq : ((L.flat zs).toArray.toList.take (d * L.k + 0) ++ L.flat (xs.take m) ++ (L.flat zs).toArray.toList.drop (d * L.k + 0 + (L.flat (xs.take m)).length)).toArray = (L.flat (splice zs d (xs.take m))).toArray := by
      rw [El.flat_splice, splice]
      simp only [Nat.add_zero, List.append_assoc]
    rw [heq] at hst
    generalize w.setRow g (L.flat (splice zs d (xs.take m))).toArray = w2 at hst ⊢
    generalize L.flat (xs.take m) = cs at hl hst
    simp [Builtin.copy_, run_underlying ht, Builtin.lenOf, sizeOf, typeInfo, hi, ← hm, hl, hst]

/-- append of a made slice, where it must grow -/
theorem run_append_zeros_El {t tn ty bytes : Nat} (T : Ty L P t e bytes) {k kn : IntKind} (htn : P.underlying tn = some (.int kn)) (hr : Rd L w A xs) (n m c : Nat) (hn : n = xs.length) (hgr : c < n + m) (hB : B ≤ w.heap.size)
    (h63 : n + m ≤ maxLen) (hb1 : m * bytes ≤ 281474976710656) (hfit : Builtin.nextslicecap (n + m) c * bytes ≤ 281474976710656) :
    ∃ v' w' , (Builtin.append_ #[t, tn] ty #[.slice A n c, .int k m]).run P w = .ok v' w' ∧ Own L e w' B v' (xs ++ List.replicate m L.zero) ∧ w.grownBy w' none ∧ v'.ownBlock = some w.heap.size ∧
      (∃ cap, v' = .slice (some ⟨w.heap.size, 0, none⟩) (n + m) cap) := by
  obtain ⟨ht, i, z, hi, hz, hk, hby, hzc⟩ := T
  subst hby
  subst hn
  have hp := L.pos
  have h63' : xs.length + m ≤ 9223372036854775807 := by simpa [maxLen] using h63
  have hw : IntKind.i64.wrap (m : Int) = m := by rw [IntKind.wrap_i64]; omega
  have hn : ¬ (xs.length + m ≤ c) := by omega
  have e63 : ¬ (9223372036854775807 < ((xs.length : Int) + (m : Int))) := by omega
  have e48 : ¬ (281474976710656 < Builtin.nextslicecap (xs.length + m) c * i.bytes) := by omega
  have e48i : ¬ (281474976710656 < (m : Int) * (i.bytes : Int)) := by
    have : ((m * i.bytes : Nat) : Int) ≤ 281474976710656 := by omega
    rw [Int.natCast_mul] at this; omega
  have hge := grownCap_ge w (xs.length + m) c e
  have hcm : grownCap w (xs.length + m) c e ≤ maxLen := grownCap_le_maxLen w (xs.length + m) c e h63
  have hold : (Builtin.firstCells i.size xs.length (.slice A xs.length c)).run P w.drew = .ok (L.flat xs).toArray w.drew := by
    by_cases h0 : xs.length = 0
    · have : xs = [] := List.eq_nil_of_length_eq_zero h0
      subst this
      cases A <;> simp [Builtin.firstCells, loadCells, loadCellsFrom, El.flat]
    · obtain ⟨b, off, rfl, hlt, hc⟩ := hr.flat_ (by omega)
      exact run_firstCells_some (P := P) w.drew i.size xs.length ⟨b, off, none⟩ xs.length c (L.flat xs) (by rw [El.length_flat, hk]) (fun j u hu => by rw [Addr.add_lit]; simpa using hc j u hu)
  have hzc' : (if m * i.size = 0 then #[] else Builtin.zeroCells z.cells m) = (L.flat (List.replicate m L.zero)).toArray := by
    by_cases h0 : m = 0
    · subst h0; simp [El.flat]
    · have : ¬ m * i.size = 0 := by rw [hk]; exact Nat.mul_ne_zero h0 (by omega)
      rw [if_neg this, El.flat_replicate _ hzc]
  refine ⟨.slice (some ⟨w.heap.size, 0, none⟩) (xs.length + m) (grownCap w (xs.length + m) c e),
    w.drew.alloc (.cells ((L.flat xs).toArray ++ (L.flat (List.replicate m L.zero)).toArray ++ Builtin.zeroCells z.cells (grownCap w (xs.length + m) c e - (xs.length + m))) e), ?_, ?_, ⟨rfl, rfl, rfl, by simp, fun k hk _ => Below.heap_alloc w.drew _ k hk⟩, rfl, _, rfl⟩
  · have hneg : ¬ ((m : Int) < 0) := by omega
    rw [← hzc']
    by_cases h0 : m * i.size = 0
    · simp [Builtin.append_, run_underlying ht, run_underlying htn, sizeOf, typeInfo, zeroValue, hi, hz, asInt, asIntOf, hw, hn, hneg, e63, e48, e48i, Question.forced, hold, newRow, grownCap, h0]
    · simp [Builtin.append_, run_underlying ht, run_underlying htn, sizeOf, typeInfo, zeroValue, hi, hz, asInt, asIntOf, hw, hn, hneg, e63, e48, e48i, Question.forced, hold, newRow, grownCap, h0]
  · refine .inr ⟨w.heap.size, List.replicate (grownCap w (xs.length + m) c e - (xs.length + m)) L.zero, ?_, hB, ?_, ?_⟩
    · simp only [List.length_append, List.length_replicate]
      congr 1; omega
    · simp only [List.length_append, List.length_replicate]; omega
    · rw [El.flat_replicate _ hzc, El.flat_append, El.flat_append]
      simp only [List.append_toArray]
      exact heap_alloc_new w.drew _
end
end Go.Proofs.Ythkenhbpimddpaa
