/- Words for memory, more: copy, clear and append of a made slice at an operation of a walk; parts of an own row. -/
import Derived.Test.YthkenhbpimddpaaW4
import Derived.Deep.RegionLaw
namespace Go.Proofs.Ythkenhbpimddpaa
open Go.RowKit

section
variable {α : Type} {L : El α} {w w' : World} {xs ys zs news : List α} {A : Option Addr} {B B' e : Nat} {v : Value} {P : Program}

theorem wp_copy_El {o : Oper} {a : Act} {K : Act → World → Prop} {Q : Exit → Act → World → Prop} (d s : Operand) {t t' bytes g d0 dl dc c n m : Nat}
    (ho : o.op = .call { callee := .builtin .copy, args := #[d, s], argTypes := #[t, t'] })
    (T : Ty L P t e bytes) (hg : w.heap[g]? = some (.cells (L.flat zs).toArray e (0, 0))) (hr : Rd L w A xs) (hn : n = xs.length)
    {dp : Option Addr} (hd : a.eval d = .slice dp dl dc) (hs : a.eval s = .slice A n c) (hm : m = Nat.min n dl) (hpos : 0 < m → dp = some ⟨g, d0 * L.k, none⟩) (hfit : d0 + m ≤ zs.length)
    (h : ∀ w', Hid (w'.heap[g]? = some (.cells (L.flat (splice zs d0 (xs.take m))).toArray e (0, 0))) → w.grownBy w' (some g) → Hid (w'.heap.size = w.heap.size) → K (a.put o.dst (goInt m)) w') : o.wp P a w K Q := by
  obtain ⟨w', hrun, h2, h3, h4⟩ := run_copy_El (ty := o.type) (t' := t') (dc := dc) (c := c) T hg hr hn dp hm hpos hfit
  unfold Oper.wp execOp
  simp only [ho, resolve, invoke, builtin, Sem.run_bind, Sem.run_pure, Result.andThen_ok, List.map_toArray, List.map_cons, List.map_nil, hs, hd, hrun]
  exact h w' h2 h3 h4
theorem wpList_copy_El {ops : Array Oper} {rest : List Oper} {o : Oper} {a : Act} {Q : Exit → Act → World → Prop} (hgd : o.guard = none) (d s : Operand) {t t' bytes g d0 dl dc c n m : Nat}
    (ho : o.op = .call { callee := .builtin .copy, args := #[d, s], argTypes := #[t, t'] })
    (T : Ty L P t e bytes) (hg : w.heap[g]? = some (.cells (L.flat zs).toArray e (0, 0))) (hr : Rd L w A xs) (hn : n = xs.length)
    {dp : Option Addr} (hd : a.eval d = .slice dp dl dc) (hs : a.eval s = .slice A n c) (hm : m = Nat.min n dl) (hpos : 0 < m → dp = some ⟨g, d0 * L.k, none⟩) (hfit : d0 + m ≤ zs.length)
    (h : ∀ w', Hid (w'.heap[g]? = some (.cells (L.flat (splice zs d0 (xs.take m))).toArray e (0, 0))) → w.grownBy w' (some g) → Hid (w'.heap.size = w.heap.size) → wpList P ops Q rest (a.put o.dst (goInt m)) w') : wpList P ops Q (o :: rest) a w :=
  wpList_plain hgd fun _ hK => wp_copy_El d s ho T hg hr hn hd hs hm hpos hfit fun w' h2 h3 h4 => hK _ _ (h w' h2 h3 h4)
theorem step_copy_El {ops : Array Oper} {o : Oper} {a : Act} {K : Act → World → Prop} {Q : Exit → Act → World → Prop} {E : Prop} (hgd : o.guard = none) (d s : Operand) {t t' bytes g d0 dl dc c n m : Nat}
    (ho : o.op = .call { callee := .builtin .copy, args := #[d, s], argTypes := #[t, t'] })
    (T : Ty L P t e bytes) (hg : w.heap[g]? = some (.cells (L.flat zs).toArray e (0, 0))) (hr : Rd L w A xs) (hn : n = xs.length)
    {dp : Option Addr} (hd : a.eval d = .slice dp dl dc) (hs : a.eval s = .slice A n c) (hm : m = Nat.min n dl) (hpos : 0 < m → dp = some ⟨g, d0 * L.k, none⟩) (hfit : d0 + m ≤ zs.length)
    (h : ∀ w', Hid (w'.heap[g]? = some (.cells (L.flat (splice zs d0 (xs.take m))).toArray e (0, 0))) → w.grownBy w' (some g) → Hid (w'.heap.size = w.heap.size) → K (a.put o.dst (goInt m)) w') :
    if Region.wanted o (yielded ops a.tmps) = true then Oper.wp P o a w K Q else E := by
  have hw : Region.wanted o (yielded ops a.tmps) = true := by simp [Region.wanted, hgd]
  rw [if_pos hw]
  exact wp_copy_El d s ho T hg hr hn hd hs hm hpos hfit h

theorem wp_appendz_El {o : Oper} {a : Act} {K : Act → World → Prop} {Q : Exit → Act → World → Prop} (s x : Operand) {t tn bytes : Nat}
    (ho : o.op = .call { callee := .builtin .append, args := #[s, x], argTypes := #[t, tn] })
    (T : Ty L P t e bytes) {k kn : IntKind} (htn : P.underlying tn = some (.int kn)) (hr : Rd L w A xs) {n m c : Nat} (hs : a.eval s = .slice A n c) (hx : a.eval x = .int k m) (hn : n = xs.length) (N H : Nat) (hN : n + m = N) (hH : w.heap.size = H) (hgr : c < N)
    (h63 : N ≤ maxLen) (hb1 : m * bytes ≤ 281474976710656) (hfit : Builtin.nextslicecap N c * bytes ≤ 281474976710656)
    (h : ∀ ys w', Hid (w'.heap[H]? = some (.cells (L.flat (xs ++ List.replicate m L.zero ++ ys)).toArray e (0, 0))) → Hid (N + ys.length ≤ maxLen) → w.grownBy w' none → K (a.put o.dst (.slice (some ⟨H, 0, none⟩) N (N + ys.length))) w') : o.wp P a w K Q := by
  subst hN
  subst hH
  obtain ⟨v', w', hrun, h2, h3, h4, cap, rfl⟩ := run_append_zeros_El (ty := o.type) (k := k) (B := w.heap.size) T htn hr n m c hn hgr (Nat.le_refl _) h63 hb1 hfit
  rcases h2 with ⟨h2, _⟩ | ⟨g, ys, h2, _, h5, h6⟩
  · cases h2
  · injection h2 with e1 _ e3
    injection e1 with e1
    injection e1 with e1
    subst e1
    have hl : (xs ++ List.replicate m L.zero).length = n + m := by simp [hn]
    rw [hl] at e3 h5
    subst e3
    unfold Oper.wp execOp
    simp only [ho, resolve, invoke, builtin, Sem.run_bind, Sem.run_pure, Result.andThen_ok, List.map_toArray, List.map_cons, List.map_nil, hs, hx, hrun]
    exact h ys w' h6 h5 h3
theorem wpList_appendz_El {ops : Array Oper} {rest : List Oper} {o : Oper} {a : Act} {Q : Exit → Act → World → Prop} (hgd : o.guard = none) (s x : Operand) {t tn bytes : Nat}
    (ho : o.op = .call { callee := .builtin .append, args := #[s, x], argTypes := #[t, tn] })
    (T : Ty L P t e bytes) {k kn : IntKind} (htn : P.underlying tn = some (.int kn)) (hr : Rd L w A xs) {n m c : Nat} (hs : a.eval s = .slice A n c) (hx : a.eval x = .int k m) (hn : n = xs.length) (N H : Nat) (hN : n + m = N) (hH : w.heap.size = H) (hgr : c < N)
    (h63 : N ≤ maxLen) (hb1 : m * bytes ≤ 281474976710656) (hfit : Builtin.nextslicecap N c * bytes ≤ 281474976710656)
    (h : ∀ ys w', Hid (w'.heap[H]? = some (.cells (L.flat (xs ++ List.replicate m L.zero ++ ys)).toArray e (0, 0))) → Hid (N + ys.length ≤ maxLen) → w.grownBy w' none → wpList P ops Q rest (a.put o.dst (.slice (some ⟨H, 0, none⟩) N (N + ys.length))) w') : wpList P ops Q (o :: rest) a w :=
  wpList_plain hgd fun _ hK => wp_appendz_El s x ho T htn hr hs hx hn N H hN hH hgr h63 hb1 hfit fun v' w' h2 h3 h4 => hK _ _ (h v' w' h2 h3 h4)

/-- clear of a part of an own row -/
theorem run_clear_El {t ty bytes g d n c : Nat} (T : Ty L P t e bytes) (hg : w.heap[g]? = some (.cells (L.flat zs).toArray e (0, 0))) (dp : Option Addr) (hpos : 0 < n → dp = some ⟨g, d * L.k, none⟩) (hfit : d + n ≤ zs.length) :
    ∃ w', (Builtin.clear_ #[t] ty #[.slice dp n c]).run P w = .ok (.tuple #[]) w' ∧
      w'.heap[g]? = some (.cells (L.flat (splice zs d (List.replicate n L.zero))).toArray e (0, 0)) ∧ w.grownBy w' (some g) ∧ w'.heap.size = w.heap.size := by
  obtain ⟨ht, i, z, hi, hz, hk, hby, hzc⟩ := T
  by_cases h0 : n = 0
  · subst h0
    refine ⟨w, ?_, by simpa [splice] using hg, World.grownBy.refl w _, rfl⟩
    cases dp <;> simp [Builtin.clear_, run_underlying ht]
  · obtain rfl := hpos (by omega)
    have hlen : (L.flat (List.replicate n L.zero)).length = n * L.k := by rw [El.length_flat, List.length_replicate]
    have hst := run_storeCells_at P g (d * L.k) e (L.flat (List.replicate n L.zero)) 0 _ w hg (by
        simp only [List.size_toArray, hlen, El.length_flat]
        rw [Nat.add_zero, ← Nat.add_mul]; exact Nat.mul_le_mul_right _ hfit) (fun u hu => El.flat_one _ hu)
    have hcell := setRow_heap w g (L.flat zs).toArray (L.flat (splice zs d (List.replicate n L.zero))).toArray e (0, 0) hg
    refine ⟨_, ?_, hcell, ⟨rfl, rfl, rfl, by simp [World.setRow], fun k _ hk => setRow_other w g k _ (fun e => hk (by rw [e]))⟩, by simp [World.setRow]⟩
    have heq : ((L.flat zs).toArray.toList.take (d * L.k + 0) ++ L.flat (List.replicate n L.zero) ++ (L.flat zs).toArray.toList.drop (d * L.k + 0 + (L.flat (List.replicate n L.zero)).length)).toArray = (L.flat (splice zs d (List.replicate n L.zero))).toArray := by
      rw [El.flat_splice, splice]
      simp only [Nat.add_zero, List.append_assoc]
    rw [heq] at hst
    generalize w.setRow g (L.flat (splice zs d (List.replicate n L.zero))).toArray = w2 at hst ⊢
    have hzz := El.flat_replicate (L := L) n hzc
    have hzl : (Builtin.zeroCells z.cells n).toList = L.flat (List.replicate n L.zero) := by rw [hzz]
    generalize L.flat (List.replicate n L.zero) = cs at hst hzl
    obtain ⟨n, rfl⟩ : ∃ k, n = k + 1 := ⟨n - 1, by omega⟩
    simp [Builtin.clear_, run_underlying ht, zeroValue, typeInfo, hi, hz, hzl, hst]
theorem wpList_clear_El {ops : Array Oper} {rest : List Oper} {o : Oper} {a : Act} {Q : Exit → Act → World → Prop} (hgd : o.guard = none) (d : Operand) {t bytes g d0 n c : Nat}
    (ho : o.op = .call { callee := .builtin .clear, args := #[d], argTypes := #[t] })
    (T : Ty L P t e bytes) (hg : w.heap[g]? = some (.cells (L.flat zs).toArray e (0, 0)))
    {dp : Option Addr} (hd : a.eval d = .slice dp n c) (hpos : 0 < n → dp = some ⟨g, d0 * L.k, none⟩) (hfit : d0 + n ≤ zs.length)
    (h : ∀ w', Hid (w'.heap[g]? = some (.cells (L.flat (splice zs d0 (List.replicate n L.zero))).toArray e (0, 0))) → w.grownBy w' (some g) → Hid (w'.heap.size = w.heap.size) → wpList P ops Q rest (a.put o.dst (.tuple #[])) w') : wpList P ops Q (o :: rest) a w :=
  wpList_plain hgd fun _ hK => by
    obtain ⟨w', hrun, h2, h3, h4⟩ := run_clear_El (ty := o.type) (c := c) T hg dp hpos hfit
    unfold Oper.wp execOp
    simp only [ho, resolve, invoke, builtin, Sem.run_bind, Sem.run_pure, Result.andThen_ok, List.map_toArray, List.map_cons, List.map_nil, hd, hrun]
    exact hK _ _ (h w' h2 h3 h4)

/-- the slices overlap not, where one lies in another block, all of it plain memory -/
theorem run_overlaps_El {tS tR bytes : Nat} (T : Ty L P tS e bytes) {a b : Addr} {la ca lb cb : Nat} (hne : a.block ≠ b.block) {csA csB : Array Value} {tA tB : TypeId}
    (ha : w.heap[a.block]? = some (.cells csA tA (0, 0))) (hb : w.heap[b.block]? = some (.cells csB tB (0, 0))) (hB : csB.size ≠ 0) :
    (Extern.SlicesOverlaps.overlaps #[tS, tS] #[tR] #[.slice (some a) la ca, .slice (some b) lb cb]).run P w = .ok (.bool false) w := by
  obtain ⟨ht, i, z, hi, hz, hk, hby, hzc⟩ := T
  exact Lib.run_overlaps_apart w tS tR e ht i.size (fun w => by simp [sizeOf, typeInfo, hi]) a b la ca lb cb hne tA tB csA.size csB.size (by simp [World.shape?, ha]) (by simp [World.shape?, hb]) hB (by simp [World.frozen?, ha]) (by simp [World.frozen?, ha])

/-- insert at a place -/
def insAt {α : Type} (xs : List α) (i : Nat) (x : α) : List α := xs.take i ++ x :: xs.drop i
theorem length_insAt (xs : List α) (i : Nat) (x : α) (hi : i ≤ xs.length) : (insAt xs i x).length = xs.length + 1 := by simp [insAt]; omega
end
end Go.Proofs.Ythkenhbpimddpaa
