/- Words for memory, more: the laws at an operation of a walk. -/
import Derived.Test.YthkenhbpimddpaaW2
namespace Go.Proofs.Ythkenhbpimddpaa
open Go.RowKit

section
variable {α : Type} {L : El α} {w w' : World} {xs ys news : List α} {A : Option Addr} {B B' e : Nat} {v : Value} {P : Program}

theorem Rd.of_block {g : Nat} {fr : Nat × Nat} {cs : Array Value} (h : w.heap[g]? = some (.cells cs e fr)) (hc : cs = (L.flat xs).toArray) : Rd L w (some ⟨g, 0, none⟩) xs := by
  subst hc
  refine fun i x hx => ⟨g, 0, rfl, (Array.getElem?_eq_some_iff.1 h).1, fun j u hu => ?_⟩
  have hj : j < L.k := by rw [← L.len x]; exact (List.getElem?_eq_some_iff.1 hu).1
  rw [cell_of_row w g _ _ _ _ h, Nat.zero_add]
  simp only [List.getElem?_toArray]
  rw [El.flat_at _ i j x hx hj, hu]

theorem wp_append_Own {o : Oper} {a : Act} {K : Act → World → Prop} {Q : Exit → Act → World → Prop} (s x : Operand) {t bytes : Nat}
    (ho : o.op = .call { callee := .builtin .append, args := #[s, x], argTypes := #[t, t] })
    (T : Ty L P t e bytes) (hown : Own L e w B v xs) (hr : Rd L w A news) (hs : a.eval s = v) (n c : Nat) (hx : a.eval x = .slice A n c) (hn : n = news.length) (hB : B ≤ w.heap.size)
    (h63 : xs.length + news.length ≤ maxLen) (hbytes : (xs.length + news.length) * bytes ≤ 140737488355328)
    (h : ∀ v' w', Own L e w' B v' (xs ++ news) → w.grownBy w' v.ownBlock → (v'.ownBlock = v.ownBlock ∨ v'.ownBlock = some w.heap.size) → K (a.put o.dst v') w') : o.wp P a w K Q := by
  subst hn
  obtain ⟨v', w', hrun, h2, h3, h4⟩ := run_append_Own (ty := o.type) T hown hr c hB h63 hbytes
  unfold Oper.wp execOp
  simp only [ho, resolve, invoke, builtin, Sem.run_bind, Sem.run_pure, Result.andThen_ok, List.map_toArray, List.map_cons, List.map_nil, hs, hx, hrun]
  exact h v' w' h2 h3 h4

theorem wpList_append_Own {ops : Array Oper} {rest : List Oper} {o : Oper} {a : Act} {Q : Exit → Act → World → Prop} (hgd : o.guard = none) (s x : Operand) {t bytes : Nat}
    (ho : o.op = .call { callee := .builtin .append, args := #[s, x], argTypes := #[t, t] })
    (T : Ty L P t e bytes) (hown : Own L e w B v xs) (hr : Rd L w A news) (hs : a.eval s = v) (n c : Nat) (hx : a.eval x = .slice A n c) (hn : n = news.length) (hB : B ≤ w.heap.size)
    (h63 : xs.length + news.length ≤ maxLen) (hbytes : (xs.length + news.length) * bytes ≤ 140737488355328)
    (h : ∀ v' w', Own L e w' B v' (xs ++ news) → w.grownBy w' v.ownBlock → (v'.ownBlock = v.ownBlock ∨ v'.ownBlock = some w.heap.size) → wpList P ops Q rest (a.put o.dst v') w') : wpList P ops Q (o :: rest) a w :=
  wpList_plain hgd fun _ hK => wp_append_Own s x ho T hown hr hs n c hx hn hB h63 hbytes fun v' w' h2 h3 h4 => hK _ _ (h v' w' h2 h3 h4)

theorem step_append_Own {ops : Array Oper} {o : Oper} {a : Act} {K : Act → World → Prop} {Q : Exit → Act → World → Prop} {E : Prop} (hgd : o.guard = none) (s x : Operand) {t bytes : Nat}
    (ho : o.op = .call { callee := .builtin .append, args := #[s, x], argTypes := #[t, t] })
    (T : Ty L P t e bytes) (hown : Own L e w B v xs) (hr : Rd L w A news) (hs : a.eval s = v) (n c : Nat) (hx : a.eval x = .slice A n c) (hn : n = news.length) (hB : B ≤ w.heap.size)
    (h63 : xs.length + news.length ≤ maxLen) (hbytes : (xs.length + news.length) * bytes ≤ 140737488355328)
    (h : ∀ v' w', Own L e w' B v' (xs ++ news) → w.grownBy w' v.ownBlock → (v'.ownBlock = v.ownBlock ∨ v'.ownBlock = some w.heap.size) → K (a.put o.dst v') w') :
    if Region.wanted o (yielded ops a.tmps) = true then Oper.wp P o a w K Q else E := by
  have hw : Region.wanted o (yielded ops a.tmps) = true := by simp [Region.wanted, hgd]
  rw [if_pos hw]
  exact wp_append_Own s x ho T hown hr hs n c hx hn hB h63 hbytes h
end

/-- posts, behind names: the walk's simp does not open them -/
def Quiet (v : Value) (w : World) (e : Ending) (w' : World) : Prop := e = .returned v ∧ ∃ n, w' = w.drewN n
/-- a value, and below a block number nothing has turned -/
def Ret (v : Value) (w : World) (e : Ending) (w' : World) : Prop := e = .returned v ∧ Below w.heap.size w w'
def RetP (R : Value → World → Prop) (w : World) (e : Ending) (w' : World) : Prop := ∃ v, e = .returned v ∧ R v w' ∧ Below w.heap.size w w'
theorem bdrewN {B : Nat} {a w : World} (h : Below B a w) (n : Nat) : Below B a (w.drewN n) := ⟨h.os, h.tape, h.output, h.size, h.block⟩
theorem Quiet.ret {v : Value} {w : World} {e : Ending} {w' : World} (h : Quiet v w e w') : Ret v w e w' := by
  obtain ⟨rfl, n, rfl⟩ := h
  exact ⟨rfl, bdrewN (Below.refl _ _) n⟩
def sameL {α : Type} [DecidableEq α] (p q : List α) : Bool := decide (p = q)
theorem take_succ_eq {α : Type} {p q : List α} {k : Nat} {x y : α} (h : p.take k = q.take k) (hx : p[k]? = some x) (hy : q[k]? = some y) (hxy : x = y) : p.take (k + 1) = q.take (k + 1) := by
  rw [List.take_add_one, List.take_add_one, h, hx, hy, hxy]
theorem sameL_yes {α : Type} [DecidableEq α] {p q : List α} {k : Nat} (h : p.take k = q.take k) (hl : p.length = q.length) (hk : ¬ k < p.length) : sameL p q = true := by
  rw [List.take_of_length_le (by omega), List.take_of_length_le (by omega)] at h
  simp [sameL, h]
theorem sameL_no {α : Type} [DecidableEq α] {p q : List α} {k : Nat} {x y : α} (hx : p[k]? = some x) (hy : q[k]? = some y) (hxy : ¬ x = y) : sameL p q = false := by
  simp only [sameL, decide_eq_false_iff_not]
  intro h; subst h
  exact hxy (Option.some.inj (hx.symm.trans hy))
theorem sameL_len {α : Type} [DecidableEq α] {p q : List α} (h : ¬ p.length = q.length) : sameL p q = false := by
  simp only [sameL, decide_eq_false_iff_not]
  intro h'; exact h (by rw [h'])

/-! ### The data -/
structure Pin where
  at_ : Int
  many : Int
deriving DecidableEq, Inhabited
structure Slot where
  gen : Int
  open_ : Bool
  at_ : Int
deriving DecidableEq, Inhabited
def ePin : El Pin := { k := 2, enc := fun p => [.int .i64 p.at_, .int .i64 p.many], zero := ⟨0, 0⟩, len := fun _ => rfl, pos := by omega, one := fun x u h => by simp at h; rcases h with rfl | rfl <;> rfl }
def eSlot : El Slot := { k := 3, enc := fun s => [.int .i64 s.gen, .bool s.open_, .int .i64 s.at_], zero := ⟨0, false, 0⟩, len := fun _ => rfl, pos := by omega, one := fun x u h => by simp at h; rcases h with rfl | rfl | rfl <;> rfl }
def eInt : El Int := { k := 1, enc := fun n => [.int .i64 n], zero := 0, len := fun _ => rfl, pos := by omega, one := fun x u h => by simp at h; subst h; rfl }
def eU64 : El Nat := { k := 1, enc := fun n => [.int .u64 (n : Int)], zero := 0, len := fun _ => rfl, pos := by omega, one := fun x u h => by simp at h; subst h; rfl }
theorem Rd.int {w : World} {A : Option Addr} {l : List Int} (h : Rd eInt w A l) {k : Nat} {x : Int} (hx : l[k]? = some x) : ∃ b off, A = some ⟨b, off, none⟩ ∧ b < w.heap.size ∧ w.cell? ⟨b, off + k, none⟩ = some (.int .i64 x) := by
  obtain ⟨b, off, hA, hb, hc⟩ := h k x hx
  exact ⟨b, off, hA, hb, by simpa [eInt] using hc 0 _ rfl⟩
theorem Rd.u64 {w : World} {A : Option Addr} {l : List Nat} (h : Rd eU64 w A l) {k : Nat} {x : Nat} (hx : l[k]? = some x) : ∃ b off, A = some ⟨b, off, none⟩ ∧ b < w.heap.size ∧ w.cell? ⟨b, off + k, none⟩ = some (.int .u64 (x : Int)) := by
  obtain ⟨b, off, hA, hb, hc⟩ := h k x hx
  exact ⟨b, off, hA, hb, by simpa [eU64] using hc 0 _ rfl⟩
theorem Rd.pin {w : World} {A : Option Addr} {l : List Pin} (h : Rd ePin w A l) {k : Nat} {x : Pin} (hx : l[k]? = some x) : ∃ b off, A = some ⟨b, off, none⟩ ∧ b < w.heap.size ∧ w.cell? ⟨b, off + k * 2, none⟩ = some (.int .i64 x.at_) ∧ w.cell? ⟨b, off + k * 2 + 1, none⟩ = some (.int .i64 x.many) := by
  obtain ⟨b, off, hA, hb, hc⟩ := h k x hx
  exact ⟨b, off, hA, hb, hc 0 _ rfl, hc 1 _ rfl⟩
theorem Rd.slot {w : World} {A : Option Addr} {l : List Slot} (h : Rd eSlot w A l) {k : Nat} {x : Slot} (hx : l[k]? = some x) : ∃ b off, A = some ⟨b, off, none⟩ ∧ b < w.heap.size ∧ w.cell? ⟨b, off + k * 3, none⟩ = some (.int .i64 x.gen) ∧ w.cell? ⟨b, off + k * 3 + 1, none⟩ = some (.bool x.open_) ∧ w.cell? ⟨b, off + k * 3 + 2, none⟩ = some (.int .i64 x.at_) := by
  obtain ⟨b, off, hA, hb, hc⟩ := h k x hx
  exact ⟨b, off, hA, hb, hc 0 _ rfl, hc 1 _ rfl, hc 2 _ rfl⟩
def Pin.val (p : Pin) : Value := .agg #[.int .i64 p.at_, .int .i64 p.many]
def Slot.val (s : Slot) : Value := .agg #[.int .i64 s.gen, .bool s.open_, .int .i64 s.at_]
end Go.Proofs.Ythkenhbpimddpaa
