/- Laws and walks that the claim's proof uses, one behind the other:
  A region that draws its order, by an invariant over what has been done.
  Frames: some slots written, told by a list; a region by an invariant, for whatever frame.
  Rows of a call's own, all their room counted up: what stays.
  A slice that is cloned into a variable of its own, while others are: what holds in the midst of it.
  slices.Equal at the element types of this program.
  SlideOwn: the walk.
  SlideOwn: what the law asks first.
  Arguments: slices of elements as lists. -/
import Derived.WalkKit
import Derived.Orders
import Derived.Great.Frames
import Derived.Deep.DeepCutAuto
import Derived.Deep.DrawnRows
import Derived.Laws.StructEq
import Derived.Deep.Slices
import Derived.Deep.Fields
import Derived.ProofKit
import Derived.OpenShut
import Derived.SizedLaws
import Derived.ChangeOld
import Derived.Test.YthkenhbpimddpaaM4
namespace Go.Proofs.Ythkenhbpimddpaa

theorem setIf_falses (l : Array Bool) (i : Nat) (h : l[i]? = some false) : (l.setIfInBounds i true).toList.count false + 1 = l.toList.count false := by
  obtain ⟨l⟩ := l
  simp only [List.getElem?_toArray, List.setIfInBounds_toArray] at *
  induction l generalizing i with
  | nil => simp at h
  | cons b l ih =>
    cases i with
    | zero => simp at h; subst h; simp
    | succ i =>
      simp only [List.getElem?_cons_succ] at h
      have := ih i h
      simp only [List.set_cons_succ, List.count_cons]
      omega
theorem ready_false {md : Region.Mode} {ops : Array Oper} {listed : Array Bool} {i : Nat} (hs : listed.size = ops.size) (h : i ∈ Region.ready md ops listed) : listed[i]? = some false := by
  unfold Region.ready at h
  rw [List.mem_filter] at h
  obtain ⟨h1, h2⟩ := h
  have hi : i < listed.size := by rw [hs]; simpa using h1
  rw [Bool.and_eq_true] at h2
  have h3 := h2.1
  rw [Array.getElem?_eq_getElem hi]
  cases hb : listed[i]
  · rfl
  · have : listed.getD i true = true := by unfold Array.getD; rw [dif_pos hi]; exact hb
    rw [this] at h3
    cases h3
theorem ready_nil {md : Region.Mode} {ops : Array Oper} {listed : Array Bool} (h : listed.toList.count false = 0) : Region.ready md ops listed = [] := by
  unfold Region.ready
  rw [List.filter_eq_nil_iff]
  intro i _ hi
  rw [Bool.and_eq_true] at hi
  have h3 := hi.1
  have hb : listed.getD i true = true := by
    unfold Array.getD
    split
    · rename_i hlt
      cases hb : listed[i]
      · have : false ∈ listed.toList := by rw [← hb]; exact Array.getElem_mem_toList hlt
        have := List.count_pos_iff.2 this
        omega
      · exact hb
    · rfl
  rw [hb] at h3
  cases h3
theorem wpAny_inv {P : Program} {md : Region.Mode} {ops : Array Oper} {Q : Exit → Act → World → Prop} (Inv : Array Bool → Act → World → Prop)
    (step : ∀ listed a w, listed.size = ops.size → Inv listed a w → ∀ i ∈ Region.ready md ops listed, wpOp P ops Q i (fun a' w' => Inv (listed.setIfInBounds i true) a' w') a w)
    (fin : ∀ listed a w, listed.size = ops.size → Inv listed a w → Region.ready md ops listed = [] → Q .normal a w) :
    ∀ (fuel : Nat) (listed : Array Bool) (a : Act) (w : World), listed.size = ops.size → listed.toList.count false ≤ fuel → Inv listed a w → wpAny P md ops Q fuel listed a w := by
  intro fuel
  induction fuel with
  | zero =>
    intro listed a w hs hc hi
    have hr := ready_nil (md := md) (ops := ops) (listed := listed) (by omega)
    exact ⟨hr, fin listed a w hs hi hr⟩
  | succ fuel ih =>
    intro listed a w hs hc hi
    refine ⟨fin listed a w hs hi, fun i hir => ?_⟩
    refine wpOp_mono (fun a' w' h' => ih _ a' w' (by simpa using hs) ?_ h') (step listed a w hs hi i hir)
    have := setIf_falses listed i (ready_false hs hir)
    omega
theorem wpOp_do {P : Program} {ops : Array Oper} {Q : Exit → Act → World → Prop} {i : Nat} {o : Oper} {K : Act → World → Prop} {a : Act} {w : World} (ho : ops[i]? = some o) (hg : o.guard = none) (h : o.wp P a w K Q) : wpOp P ops Q i K a w := by
  unfold wpOp
  rw [ho]
  have hw : Region.wanted o (yielded ops a.tmps) = true := by simp [Region.wanted, hg]
  simp only [hw, if_true]
  exact .inl h
theorem wp_region_inv {P : Program} {id : Nat} {ops : Array Oper} {Q : Exit → Act → World → Prop} {a : Act} {w : World} (hm : P.follows .mixedOrders = true) (Inv : Array Bool → Act → World → Prop)
    (step : ∀ listed a w, listed.size = ops.size → Inv listed a w → ∀ i ∈ Region.ready .any ops listed, wpOp P ops Q i (fun a' w' => Inv (listed.setIfInBounds i true) a' w') a w)
    (fin : ∀ listed a w, listed.size = ops.size → Inv listed a w → Region.ready .any ops listed = [] → Q .normal a w)
    (h : Inv (Array.replicate ops.size false) a w.drew) : (Code.region id ops true).wp P Q a w :=
  wp_region_any hm (wpAny_inv Inv step fin ops.size _ a _ (by simp) (by simp) h)
/-- the same, the invariant over the frame with which the region begins -/
theorem wp_region_inv' {P : Program} {id : Nat} {ops : Array Oper} {Q : Exit → Act → World → Prop} {a : Act} {w : World} (hm : P.follows .mixedOrders = true) (Inv : Act → Array Bool → Act → World → Prop)
    (h : Inv a (Array.replicate ops.size false) a w.drew)
    (step : ∀ listed a' w', listed.size = ops.size → Inv a listed a' w' → ∀ i ∈ Region.ready .any ops listed, wpOp P ops Q i (fun a' w' => Inv a (listed.setIfInBounds i true) a' w') a' w')
    (fin : ∀ listed a' w', listed.size = ops.size → Inv a listed a' w' → Region.ready .any ops listed = [] → Q .normal a' w') : (Code.region id ops true).wp P Q a w :=
  wp_region_inv hm (Inv a) step fin h
end Go.Proofs.Ythkenhbpimddpaa
namespace Go.Proofs.Ythkenhbpimddpaa

theorem put_put (a : Act) (i : Nat) (v u : Value) : (a.put (some i) v).put (some i) u = a.put (some i) u := by
  simp [Act.put]
theorem put_swap (a : Act) {i j : Nat} (h : i ≠ j) (v u : Value) : (a.put (some i) v).put (some j) u = (a.put (some j) u).put (some i) v :=
  Act.put_comm a v u (fun d hd hj => by injection hd with hd; injection hj with hj; exact h (hd.trans hj.symm))
/-- the slots of a list, written one behind the other -/
def putL (a : Act) : List (Nat × Value) → Act
  | [] => a
  | (k, v) :: us => putL (a.put (some k) v) us
def updL : List (Nat × Value) → Nat → Value → List (Nat × Value)
  | [], _, _ => []
  | (j, u) :: us, k, v => if j = k then (j, v) :: us else (j, u) :: updL us k v
theorem putL_swap (us : List (Nat × Value)) : ∀ (a : Act) (k : Nat) (v : Value), (∀ p ∈ us, p.1 ≠ k) → (putL a us).put (some k) v = putL (a.put (some k) v) us := by
  induction us with
  | nil => intro a k v _; rfl
  | cons p us ih =>
    obtain ⟨j, u⟩ := p
    intro a k v h
    rw [putL, ih _ _ _ (fun q hq => h q (List.mem_cons_of_mem _ hq)), putL, put_swap a (h (j, u) (List.mem_cons_self ..))]
theorem putL_put (us : List (Nat × Value)) : ∀ (a : Act) (k : Nat) (v : Value), (us.map Prod.fst).Nodup → k ∈ us.map Prod.fst → (putL a us).put (some k) v = putL a (updL us k v) := by
  induction us with
  | nil => intro a k v _ h; cases h
  | cons p us ih =>
    obtain ⟨j, u⟩ := p
    intro a k v hn hk
    simp only [List.map_cons, List.nodup_cons] at hn
    rw [putL, updL]
    by_cases hjk : j = k
    · subst hjk
      rw [if_pos rfl, putL, putL_swap _ _ _ _ (fun q hq he => hn.1 (by have h3 := List.mem_map_of_mem (f := Prod.fst) hq; rw [he] at h3; exact h3)), put_put]
    · rw [if_neg hjk, putL]
      simp only [List.map_cons, List.mem_cons] at hk
      exact ih _ _ _ hn.2 (hk.resolve_left (fun h => hjk h.symm))
theorem size_put (a : Act) (k : Nat) (v : Value) : (a.put (some k) v).tmps.size = a.tmps.size := by simp [Act.put]
theorem putL_size (us : List (Nat × Value)) : ∀ a : Act, (putL a us).tmps.size = a.tmps.size := by
  induction us with
  | nil => intro a; rfl
  | cons p us ih => obtain ⟨j, u⟩ := p; intro a; rw [putL, ih, size_put]
theorem putL_out (us : List (Nat × Value)) : ∀ (a : Act) (k : Nat), k ∉ us.map Prod.fst → (putL a us).eval (.tmp k) = a.eval (.tmp k) := by
  induction us with
  | nil => intro a k _; rfl
  | cons p us ih =>
    obtain ⟨j, u⟩ := p
    intro a k h
    simp only [List.map_cons, List.mem_cons, not_or] at h
    rw [putL, ih _ _ h.2, Act.eval_put_ne _ _ _ _ (fun e => h.1 e.symm)]
theorem putL_in (us : List (Nat × Value)) : ∀ (a : Act) (k : Nat) (v : Value), (us.map Prod.fst).Nodup → (k, v) ∈ us → k < a.tmps.size → (putL a us).eval (.tmp k) = v := by
  induction us with
  | nil => intro a k v _ h; cases h
  | cons p us ih =>
    obtain ⟨j, u⟩ := p
    intro a k v hn hk hs
    simp only [List.map_cons, List.nodup_cons] at hn
    rw [putL]
    rcases List.mem_cons.1 hk with h | h
    · injection h with h1 h2
      subst h1; subst h2
      rw [putL_out _ _ _ hn.1, Act.eval_put_same _ _ _ hs]
    · exact ih _ _ _ hn.2 h (by rw [size_put]; exact hs)
theorem putL_same (us : List (Nat × Value)) : ∀ a : Act, (∀ p ∈ us, a.tmps[p.1]? = some p.2) → putL a us = a := by
  induction us with
  | nil => intro a _; rfl
  | cons p us ih =>
    obtain ⟨j, u⟩ := p
    intro a h
    have h1 := h (j, u) (List.mem_cons_self ..)
    have h2 : a.put (some j) u = a := by
      obtain ⟨t, df⟩ := a
      have h1' : t[j]? = some u := h1
      simp only [Act.put]
      congr 1
      apply Array.ext_getElem?
      intro i
      rw [Array.getElem?_setIfInBounds]
      split
      · rename_i hi
        subst hi
        rw [if_pos (Array.getElem?_eq_some_iff.1 h1').1, h1']
      · rfl
    rw [putL, h2]
    exact ih a (fun q hq => h q (List.mem_cons_of_mem _ hq))
/-- a region that draws its order, by an invariant that speaks of whatever frame it began with -/
theorem wp_region_inv2 {P : Program} {id : Nat} {ops : Array Oper} {Q : Exit → Act → World → Prop} {a : Act} {w : World} (hm : P.follows .mixedOrders = true) (Inv : Act → Array Bool → Act → World → Prop)
    (h : Inv a (Array.replicate ops.size false) a w.drew)
    (step : ∀ a0 listed a' w', listed.size = ops.size → Inv a0 listed a' w' → ∀ i ∈ Region.ready .any ops listed, wpOp P ops Q i (fun a' w' => Inv a0 (listed.setIfInBounds i true) a' w') a' w')
    (fin : ∀ listed a' w', listed.size = ops.size → Inv a listed a' w' → Region.ready .any ops listed = [] → Q .normal a' w') : (Code.region id ops true).wp P Q a w :=
  wp_region_inv hm (Inv a) (step a) fin h
end Go.Proofs.Ythkenhbpimddpaa
namespace Go.Proofs.Ythkenhbpimddpaa
open Go.RowKit

/-- a block that holds elements still holds as many -/
def Held {α : Type} (L : El α) (e : Nat) (w w' : World) : Prop :=
  ∀ (g : Nat) (zs : List α), w.heap[g]? = some (.cells (L.flat zs).toArray e (0, 0)) → ∃ zs' : List α, zs'.length = zs.length ∧ w'.heap[g]? = some (.cells (L.flat zs').toArray e (0, 0))
section
variable {α β : Type} {L : El α} {M : El β} {w w' w'' : World} {e e' B : Nat} {A : Option Addr} {c : Nat}
theorem Held.refl : Held L e w w := fun _ zs h => ⟨zs, rfl, h⟩
theorem Held.trans (h : Held L e w w') (k : Held L e w' w'') : Held L e w w'' := fun g zs hg => by
  obtain ⟨zs', hl, hg'⟩ := h g zs hg
  obtain ⟨zs2, hl2, hg2⟩ := k g zs' hg'
  exact ⟨zs2, hl2.trans hl, hg2⟩
theorem Held.drewN (h : Held L e w w') (n : Nat) : Held L e w (w'.drewN n) := h
theorem Held.same {g i j : Nat} {x x' : α} {zs : List α} {u : Value} (hg : w.heap[g]? = some (.cells (L.flat zs).toArray e (0, 0))) (hx : zs[i]? = some x) (hj : j < L.k) (he : L.enc x' = (L.enc x).set j u) :
    Held L e w (w.setCell ⟨g, i * L.k + j, none⟩ u) := fun g' zs' hg' => by
  by_cases h : g' = g
  · subst h
    have hst := heap_store_El hg hx hj he
    refine ⟨zs.set i x', ?_, hst⟩
    rw [hg] at hg'
    injection hg' with h1
    injection h1 with h1
    have h2 : (L.flat zs).length = (L.flat zs').length := by
      have := congrArg Array.size h1
      simpa using this
    rw [El.length_flat, El.length_flat] at h2
    rw [List.length_set]
    exact Nat.eq_of_mul_eq_mul_right L.pos h2
  · exact ⟨zs', rfl, by rw [Below.heap_setCell _ _ _ _ h]; exact hg'⟩
theorem Held.other {g o : Nat} {cs : Array Value} {fr : Nat × Nat} {u : Value} (hg : w.heap[g]? = some (.cells cs e' fr)) (hne : e' ≠ e) : Held L e w (w.setCell ⟨g, o, none⟩ u) := fun g' zs' hg' => by
  refine ⟨zs', rfl, ?_⟩
  rw [Below.heap_setCell _ _ _ _ (by
    rintro rfl
    rw [hg] at hg'
    injection hg' with h1
    injection h1 with _ h2
    exact hne h2)]
  exact hg'

/-- a slice's room: none, or a row of the call's own, known whole -/
def Room (L : El α) (e : Nat) (w : World) (B : Nat) (A : Option Addr) (c : Nat) : Prop :=
  c = 0 ∨ ∃ g zs, A = some ⟨g, 0, none⟩ ∧ c = zs.length ∧ B ≤ g ∧ w.heap[g]? = some (.cells (L.flat zs).toArray e (0, 0))
theorem Own.room {v : Value} {xs : List α} (h : Own L e w B v xs) : ∃ A c, v = .slice A xs.length c ∧ xs.length ≤ c ∧ c ≤ maxLen ∧ Room L e w B A c := by
  rcases h with ⟨rfl, rfl⟩ | ⟨g, ys, rfl, hb, hm, hg⟩
  · exact ⟨none, 0, rfl, Nat.le_refl _, by simp [maxLen], .inl rfl⟩
  · exact ⟨_, _, rfl, by omega, hm, .inr ⟨g, xs ++ ys, rfl, by simp, hb, hg⟩⟩
theorem Room.held (h : Room L e w B A c) (hh : Held L e w w') : Room L e w' B A c := by
  rcases h with h | ⟨g, zs, hA, hc, hB, hg⟩
  · exact .inl h
  · obtain ⟨zs', hl, hg'⟩ := hh g zs hg
    exact .inr ⟨g, zs', hA, hc.trans hl.symm, hB, hg'⟩
theorem Room.below (h : Room L e w B A c) (hb : Below w.heap.size w w') : Room L e w' B A c := by
  rcases h with h | ⟨g, zs, hA, hc, hB, hg⟩
  · exact .inl h
  · exact .inr ⟨g, zs, hA, hc, hB, heap_below hg hb⟩
theorem Room.mono {B' : Nat} (h : Room L e w B A c) (hB' : B' ≤ B) : Room L e w B' A c := by
  rcases h with h | ⟨g, zs, hA, hc, hB, hg⟩
  · exact .inl h
  · exact .inr ⟨g, zs, hA, hc, Nat.le_trans hB' hB, hg⟩
theorem Room.drewN (h : Room L e w B A c) (n : Nat) : Room L e (w.drewN n) B A c := h
end
end Go.Proofs.Ythkenhbpimddpaa
namespace Go.Proofs.Ythkenhbpimddpaa
open Go.RowKit

section
variable {α : Type} {L : El α} {e tb : Nat} {w0 w w' : World} {sv uL uC uA o : Value} {xs : List α} {l c a s : Bool} {g : Nat}
/-- loaded, cloned, the variable made, stored -/
def Ch (L : El α) (e tb : Nat) (w0 : World) (sv : Value) (xs : List α) (w : World) (l c a s : Bool) (uL uC uA o : Value) (g : Nat) : Prop :=
  (l = true → uL = sv) ∧ (c = true → Own L e w w0.heap.size uC xs) ∧ (a = true → uA = .pointer (some ⟨g, 0, none⟩) ∧ w0.heap.size ≤ g ∧ w.heap[g]? = some (.cells #[o] tb (0, 0))) ∧ (s = true → c = true ∧ a = true ∧ o = uC)
theorem Ch.start : Ch L e tb w0 sv xs w false false false false uL uC uA o g := by simp [Ch]
theorem Ch.load (h : Ch L e tb w0 sv xs w l c a s uL uC uA o g) : Ch L e tb w0 sv xs w true c a s sv uC uA o g := ⟨fun _ => rfl, h.2⟩
theorem Ch.below (h : Ch L e tb w0 sv xs w l c a s uL uC uA o g) (hb : Below w.heap.size w w') : Ch L e tb w0 sv xs w' l c a s uL uC uA o g :=
  ⟨h.1, fun hc => (h.2.1 hc).below hb, fun ha => ⟨(h.2.2.1 ha).1, (h.2.2.1 ha).2.1, heap_below (h.2.2.1 ha).2.2 hb⟩, h.2.2.2⟩
theorem Ch.clone {v : Value} (h : Ch L e tb w0 sv xs w l false a s uL uC uA o g) (hb : Below w.heap.size w w') (hown : Own L e w' w0.heap.size v xs) : Ch L e tb w0 sv xs w' l true a s uL v uA o g :=
  ⟨h.1, fun _ => hown, fun ha => ⟨(h.2.2.1 ha).1, (h.2.2.1 ha).2.1, heap_below (h.2.2.1 ha).2.2 hb⟩, fun hs => by have := (h.2.2.2 hs).1; cases this⟩
theorem Ch.alloc {v : Value} (h : Ch L e tb w0 sv xs w l c false s uL uC uA o g) (hB : w0.heap.size ≤ w.heap.size) : Ch L e tb w0 sv xs (w.alloc (.cells #[v] tb)) l c true s uL uC (.pointer (some ⟨w.heap.size, 0, none⟩)) v w.heap.size :=
  ⟨h.1, fun hc => (h.2.1 hc).alloc _, fun _ => ⟨rfl, hB, heap_alloc_new _ _⟩, fun hs => by have := (h.2.2.2 hs).2.1; cases this⟩
theorem Ch.lt (h : Ch L e tb w0 sv xs w l c a s uL uC uA o g) (ha : a = true) : g < w.heap.size := (Array.getElem?_eq_some_iff.1 (h.2.2.1 ha).2.2).1
theorem Ch.store (h : Ch L e tb w0 sv xs w l true true s uL uC uA o g) (hne : tb ≠ e) : Ch L e tb w0 sv xs (w.setCell ⟨g, 0, none⟩ uC) l true true true uL uC uA uC g :=
  ⟨h.1, fun _ => (h.2.1 rfl).box (h.2.2.1 rfl).2.2 hne _ _, fun _ => ⟨(h.2.2.1 rfl).1, (h.2.2.1 rfl).2.1, box_set (h.2.2.1 rfl).2.2⟩, fun _ => ⟨rfl, rfl, rfl⟩⟩
theorem Ch.other {g' t' : Nat} {cs : Array Value} {fr : Nat × Nat} {u : Value} (h : Ch L e tb w0 sv xs w l c a s uL uC uA o g) (hg : w.heap[g']? = some (.cells cs t' fr)) (hne : t' ≠ e) (hd : a = true → g' ≠ g) : Ch L e tb w0 sv xs (w.setCell ⟨g', 0, none⟩ u) l c a s uL uC uA o g :=
  ⟨h.1, fun hc => (h.2.1 hc).box hg hne _ _, fun ha => ⟨(h.2.2.1 ha).1, (h.2.2.1 ha).2.1, by rw [Below.heap_setCell _ _ _ _ (fun e => hd ha e.symm)]; exact (h.2.2.1 ha).2.2⟩, h.2.2.2⟩
/-- a variable that holds a slice that reads as a list -/
def BoxOf (L : El α) (tb : Nat) (w : World) (g : Nat) (xs : List α) : Prop := ∃ A c, w.heap[g]? = some (.cells #[.slice A xs.length c] tb (0, 0)) ∧ Rd L w A xs
theorem Ch.done (h : Ch L e tb w0 sv xs w true true true true uL uC uA o g) : ∃ g', uA = .pointer (some ⟨g', 0, none⟩) ∧ BoxOf L tb w g' xs := by
  obtain ⟨_, h2, h3, h4⟩ := h
  obtain ⟨h5, _, h6⟩ := h3 rfl
  obtain ⟨A, c, hv, _, _, hr⟩ := (h2 rfl).rd
  have := (h4 rfl).2.2
  rw [this, hv] at h6
  exact ⟨g, h5, A, c, h6, hr⟩
theorem BoxOf.below (h : BoxOf L tb w g xs) (hb : Below w.heap.size w w') : BoxOf L tb w' g xs := by
  obtain ⟨A, c, h1, h2⟩ := h
  exact ⟨A, c, heap_below h1 hb, h2.below hb⟩
end
end Go.Proofs.Ythkenhbpimddpaa
namespace Go.Proofs.Ythkenhbpimddpaa
open Go.RowKit

theorem neqPin (x y : Pin) (w : World) : (binOp .neq 29 (.agg #[.int .i64 x.at_, .int .i64 x.many]) (.agg #[.int .i64 y.at_, .int .i64 y.many])).run Try.prog w = .ok (.bool (!decide (x = y))) w := by
  have hS : Try.prog.underlying 29 = some (.struct (Try.prog.fieldsOf 29)) := by kernel_rfl
  have hp : Try.prog.stoodInHeld 29 = false := by kernel_rfl
  rw [run_neq_struct, show (10000 : Nat) = 9999 + 1 from rfl, run_equalIn_agg w 9999 29 _ _ hS hp]
  simp only [Program.fieldsOf, Try.underlying29]
  go_simp
  obtain ⟨a, b⟩ := x
  obtain ⟨c, d⟩ := y
  by_cases h1 : a = c <;> by_cases h2 : b = d <;> simp [h1, h2]


theorem neqSlot (x y : Slot) (w : World) : (binOp .neq 32 (.agg #[.int .i64 x.gen, .bool x.open_, .int .i64 x.at_]) (.agg #[.int .i64 y.gen, .bool y.open_, .int .i64 y.at_])).run Try.prog w = .ok (.bool (!decide (x = y))) w := by
  have hS : Try.prog.underlying 32 = some (.struct (Try.prog.fieldsOf 32)) := by kernel_rfl
  have hp : Try.prog.stoodInHeld 32 = false := by kernel_rfl
  rw [run_neq_struct, show (10000 : Nat) = 9999 + 1 from rfl, run_equalIn_agg w 9999 32 _ _ hS hp]
  simp only [Program.fieldsOf, Try.underlying32]
  go_simp
  obtain ⟨a, b, c⟩ := x
  obtain ⟨d, e, f⟩ := y
  by_cases h1 : a = d <;> by_cases h2 : b = e <;> by_cases h3 : c = f <;> simp [h1, h2, h3]

set_option maxRecDepth 100000 in
set_option maxHeartbeats 400000 in
theorem equalPin (A C : Option Addr) (c d : Nat) (p q : List Pin) (w : World) (hp : Rd ePin w A p) (hq : Rd ePin w C q) (hm : p.length ≤ maxLen) :
    Calls Try.prog 11 #[.slice A p.length c, .slice C q.length d] w (Quiet (.bool (sameL p q)) w) := by
  unfold maxLen at hm
  by_cases hl : p.length = q.length
  · have hl1 : ((p.length : Int) != (q.length : Int)) = false := by simp [hl]
    have HL := Lib.hid hl
    clear hl
    go_enter Try.func11, Try.ntmps11
    go_wp2
    go_loopw [13] (fun i wr => ∃ k : Nat, k ≤ p.length ∧ i = .int .i64 k ∧ Hid (p.take k = q.take k) ∧ Hid (∃ n, wr = w.drewN n)) (fun i _ => p.length - (intOf i).toNat)
    case atStart => exact ⟨0, by omega, rfl, rfl, 0, rfl⟩
    case round =>
      obtain ⟨k, hk, rfl, htk, nn, hwr⟩ := hrel
      subst hwr
      by_cases hlt : k < p.length
      · obtain ⟨x, hx⟩ : ∃ x, p[k]? = some x := ⟨p[k], List.getElem?_eq_getElem hlt⟩
        obtain ⟨y, hy⟩ : ∃ x, q[k]? = some x := ⟨q[k]'(by rw [← HL.out]; exact hlt), List.getElem?_eq_getElem _⟩
        obtain ⟨b, off, rfl, hlt2, c0, c1⟩ := hp.pin hx
        obtain ⟨b', off', rfl, hlt2', d0, d1⟩ := hq.pin hy
        have b0 : (0 : Int) ≤ (k : Int) := by omega
        have b1 : (k : Int) < (p.length : Int) := by omega
        have b2 : (k : Int) < (q.length : Int) := by rw [← HL.out]; omega
        have HX := Lib.hid hx
        have HX' := trivial
        have HY := Lib.hid hy
        clear hx hy
        by_cases hxy : x = y
        · have hd : (!decide (x = y)) = false := by simp [hxy]
          have heq := fun w => neqPin x y w; simp only [hd] at heq
          have HXY := Lib.hid hxy
          clear hxy hd
          go_wp2
          go_quiet (fail)
          go_wp2
          go_roundw
          case rel => exact ⟨k + 1, by omega, by go_num, take_succ_eq htk.out HX.out HY.out HXY.out, _, rfl⟩
          case measure => simp [intOf]; omega
        · have hd : (!decide (x = y)) = true := by first | (simp [hxy]; done) | (simp; omega)
          have heq := fun w => neqPin x y w; simp only [hd] at heq
          have HN := Lib.hid (sameL_no HX.out HY.out hxy)
          clear hxy hd
          go_wp2
          go_quiet (fail)
          go_wp2
          go_ret
          exact ⟨by rw [HN.out]; rfl, _, World.drewN_drewN _ _ _⟩
      · have HP := Lib.hid (sameL_yes htk.out HL.out hlt)
        go_wp2
        go_ret
        exact ⟨by rw [HP.out]; rfl, _, rfl⟩
  · have hl1 : ((p.length : Int) != (q.length : Int)) = true := by simp; omega
    have HP := Lib.hid (sameL_len hl)
    go_enter Try.func11, Try.ntmps11
    go_wp2
    go_ret
    exact ⟨by rw [HP.out]; rfl, 0, rfl⟩

set_option maxRecDepth 100000 in
set_option maxHeartbeats 400000 in
theorem equalHands (A C : Option Addr) (c d : Nat) (p q : List Slot) (w : World) (hp : Rd eSlot w A p) (hq : Rd eSlot w C q) (hm : p.length ≤ maxLen) :
    Calls Try.prog 12 #[.slice A p.length c, .slice C q.length d] w (Quiet (.bool (sameL p q)) w) := by
  unfold maxLen at hm
  by_cases hl : p.length = q.length
  · have hl1 : ((p.length : Int) != (q.length : Int)) = false := by simp [hl]
    have HL := Lib.hid hl
    clear hl
    go_enter Try.func12, Try.ntmps12
    go_wp2
    go_loopw [13] (fun i wr => ∃ k : Nat, k ≤ p.length ∧ i = .int .i64 k ∧ Hid (p.take k = q.take k) ∧ Hid (∃ n, wr = w.drewN n)) (fun i _ => p.length - (intOf i).toNat)
    case atStart => exact ⟨0, by omega, rfl, rfl, 0, rfl⟩
    case round =>
      obtain ⟨k, hk, rfl, htk, nn, hwr⟩ := hrel
      subst hwr
      by_cases hlt : k < p.length
      · obtain ⟨x, hx⟩ : ∃ x, p[k]? = some x := ⟨p[k], List.getElem?_eq_getElem hlt⟩
        obtain ⟨y, hy⟩ : ∃ x, q[k]? = some x := ⟨q[k]'(by rw [← HL.out]; exact hlt), List.getElem?_eq_getElem _⟩
        obtain ⟨b, off, rfl, hlt2, c0, c1, c2⟩ := hp.slot hx
        obtain ⟨b', off', rfl, hlt2', d0, d1, d2⟩ := hq.slot hy
        have b0 : (0 : Int) ≤ (k : Int) := by omega
        have b1 : (k : Int) < (p.length : Int) := by omega
        have b2 : (k : Int) < (q.length : Int) := by rw [← HL.out]; omega
        have HX := Lib.hid hx
        have HX' := trivial
        have HY := Lib.hid hy
        clear hx hy
        by_cases hxy : x = y
        · have hd : (!decide (x = y)) = false := by simp [hxy]
          have heq := fun w => neqSlot x y w; simp only [hd] at heq
          have HXY := Lib.hid hxy
          clear hxy hd
          go_wp2
          go_quiet (fail)
          go_wp2
          go_roundw
          case rel => exact ⟨k + 1, by omega, by go_num, take_succ_eq htk.out HX.out HY.out HXY.out, _, rfl⟩
          case measure => simp [intOf]; omega
        · have hd : (!decide (x = y)) = true := by first | (simp [hxy]; done) | (simp; omega)
          have heq := fun w => neqSlot x y w; simp only [hd] at heq
          have HN := Lib.hid (sameL_no HX.out HY.out hxy)
          clear hxy hd
          go_wp2
          go_quiet (fail)
          go_wp2
          go_ret
          exact ⟨by rw [HN.out]; rfl, _, World.drewN_drewN _ _ _⟩
      · have HP := Lib.hid (sameL_yes htk.out HL.out hlt)
        go_wp2
        go_ret
        exact ⟨by rw [HP.out]; rfl, _, rfl⟩
  · have hl1 : ((p.length : Int) != (q.length : Int)) = true := by simp; omega
    have HP := Lib.hid (sameL_len hl)
    go_enter Try.func12, Try.ntmps12
    go_wp2
    go_ret
    exact ⟨by rw [HP.out]; rfl, 0, rfl⟩

set_option maxRecDepth 100000 in
set_option maxHeartbeats 400000 in
theorem equalInt (A C : Option Addr) (c d : Nat) (p q : List Int) (w : World) (hp : Rd eInt w A p) (hq : Rd eInt w C q) (hm : p.length ≤ maxLen) :
    Calls Try.prog 29 #[.slice A p.length c, .slice C q.length d] w (Quiet (.bool (sameL p q)) w) := by
  unfold maxLen at hm
  by_cases hl : p.length = q.length
  · have hl1 : ((p.length : Int) != (q.length : Int)) = false := by simp [hl]
    have HL := Lib.hid hl
    clear hl
    go_enter Try.func29, Try.ntmps29
    go_wp2
    go_loopw [13] (fun i wr => ∃ k : Nat, k ≤ p.length ∧ i = .int .i64 k ∧ Hid (p.take k = q.take k) ∧ Hid (∃ n, wr = w.drewN n)) (fun i _ => p.length - (intOf i).toNat)
    case atStart => exact ⟨0, by omega, rfl, rfl, 0, rfl⟩
    case round =>
      obtain ⟨k, hk, rfl, htk, nn, hwr⟩ := hrel
      subst hwr
      by_cases hlt : k < p.length
      · obtain ⟨x, hx⟩ : ∃ x, p[k]? = some x := ⟨p[k], List.getElem?_eq_getElem hlt⟩
        obtain ⟨y, hy⟩ : ∃ x, q[k]? = some x := ⟨q[k]'(by rw [← HL.out]; exact hlt), List.getElem?_eq_getElem _⟩
        obtain ⟨b, off, rfl, hlt2, c0⟩ := hp.int hx
        obtain ⟨b', off', rfl, hlt2', d0⟩ := hq.int hy
        have b0 : (0 : Int) ≤ (k : Int) := by omega
        have b1 : (k : Int) < (p.length : Int) := by omega
        have b2 : (k : Int) < (q.length : Int) := by rw [← HL.out]; omega
        have HX := Lib.hid hx
        have HX' := trivial
        have HY := Lib.hid hy
        clear hx hy
        by_cases hxy : x = y
        · have hd : (x != y) = false := by simp [hxy]
          skip
          have HXY := Lib.hid hxy
          clear hxy HX'
          go_wp2
          go_quiet (fail)
          go_wp2
          go_roundw
          case rel => exact ⟨k + 1, by omega, by go_num, take_succ_eq htk.out HX.out HY.out HXY.out, _, rfl⟩
          case measure => simp [intOf]; omega
        · have hd : (x != y) = true := by first | (simp [hxy]; done) | (simp; omega)
          skip
          have HN := Lib.hid (sameL_no HX.out HY.out hxy)
          clear hxy HX'
          go_wp2
          go_quiet (fail)
          go_wp2
          go_ret
          exact ⟨by rw [HN.out]; rfl, _, World.drewN_drewN _ _ _⟩
      · have HP := Lib.hid (sameL_yes htk.out HL.out hlt)
        go_wp2
        go_ret
        exact ⟨by rw [HP.out]; rfl, _, rfl⟩
  · have hl1 : ((p.length : Int) != (q.length : Int)) = true := by simp; omega
    have HP := Lib.hid (sameL_len hl)
    go_enter Try.func29, Try.ntmps29
    go_wp2
    go_ret
    exact ⟨by rw [HP.out]; rfl, 0, rfl⟩

set_option maxRecDepth 100000 in
set_option maxHeartbeats 400000 in
theorem equalU64 (A C : Option Addr) (c d : Nat) (p q : List Nat) (w : World) (hp : Rd eU64 w A p) (hq : Rd eU64 w C q) (hm : p.length ≤ maxLen) :
    Calls Try.prog 28 #[.slice A p.length c, .slice C q.length d] w (Quiet (.bool (sameL p q)) w) := by
  unfold maxLen at hm
  by_cases hl : p.length = q.length
  · have hl1 : ((p.length : Int) != (q.length : Int)) = false := by simp [hl]
    have HL := Lib.hid hl
    clear hl
    go_enter Try.func28, Try.ntmps28
    go_wp2
    go_loopw [13] (fun i wr => ∃ k : Nat, k ≤ p.length ∧ i = .int .i64 k ∧ Hid (p.take k = q.take k) ∧ Hid (∃ n, wr = w.drewN n)) (fun i _ => p.length - (intOf i).toNat)
    case atStart => exact ⟨0, by omega, rfl, rfl, 0, rfl⟩
    case round =>
      obtain ⟨k, hk, rfl, htk, nn, hwr⟩ := hrel
      subst hwr
      by_cases hlt : k < p.length
      · obtain ⟨x, hx⟩ : ∃ x, p[k]? = some x := ⟨p[k], List.getElem?_eq_getElem hlt⟩
        obtain ⟨y, hy⟩ : ∃ x, q[k]? = some x := ⟨q[k]'(by rw [← HL.out]; exact hlt), List.getElem?_eq_getElem _⟩
        obtain ⟨b, off, rfl, hlt2, c0⟩ := hp.u64 hx
        obtain ⟨b', off', rfl, hlt2', d0⟩ := hq.u64 hy
        have b0 : (0 : Int) ≤ (k : Int) := by omega
        have b1 : (k : Int) < (p.length : Int) := by omega
        have b2 : (k : Int) < (q.length : Int) := by rw [← HL.out]; omega
        have HX := Lib.hid hx
        have HX' := trivial
        have HY := Lib.hid hy
        clear hx hy
        by_cases hxy : x = y
        · have hd : ((x : Int) != (y : Int)) = false := by simp [hxy]
          skip
          have HXY := Lib.hid hxy
          clear hxy HX'
          go_wp2
          go_quiet (fail)
          go_wp2
          go_roundw
          case rel => exact ⟨k + 1, by omega, by go_num, take_succ_eq htk.out HX.out HY.out HXY.out, _, rfl⟩
          case measure => simp [intOf]; omega
        · have hd : ((x : Int) != (y : Int)) = true := by first | (simp [hxy]; done) | (simp; omega)
          skip
          have HN := Lib.hid (sameL_no HX.out HY.out hxy)
          clear hxy HX'
          go_wp2
          go_quiet (fail)
          go_wp2
          go_ret
          exact ⟨by rw [HN.out]; rfl, _, World.drewN_drewN _ _ _⟩
      · have HP := Lib.hid (sameL_yes htk.out HL.out hlt)
        go_wp2
        go_ret
        exact ⟨by rw [HP.out]; rfl, _, rfl⟩
  · have hl1 : ((p.length : Int) != (q.length : Int)) = true := by simp; omega
    have HP := Lib.hid (sameL_len hl)
    go_enter Try.func28, Try.ntmps28
    go_wp2
    go_ret
    exact ⟨by rw [HP.out]; rfl, 0, rfl⟩

end Go.Proofs.Ythkenhbpimddpaa
namespace Go.Proofs.Ythkenhbpimddpaa
open Go.RowKit

/-- what holds in the midst of the copying: 'l': which of the region's operations have been done -/
def slideOwnInv (x0 : List Nat) (x1 : List Int) (x2 : List Int) (sv0 : Value) (sv1 : Value) (sv2 : Value) (fv3 : Value) (fv4 : Value) (fv5 : Value) (w0 : World) (a0 : Act) (l : Array Bool) (a : Act) (w : World) : Prop :=
  34 < a0.tmps.size ∧ a0.eval (.tmp 3) = fv3 ∧ a0.eval (.tmp 4) = fv4 ∧ a0.eval (.tmp 5) = fv5 ∧ ∃ (l0 l1 l2 l3 l4 l5 l6 l7 l8 l9 l10 l11 : Bool) (u7 u8 u9 u29 u30 u31 u32 u33 u34 o0 o1 o2 : Value) (g0 g1 g2 : Nat), l = #[l0, l1, l2, l3, l4, l5, l6, l7, l8, l9, l10, l11] ∧ a = putL a0 [(7, u7), (8, u8), (9, u9), (29, u29), (30, u30), (31, u31), (32, u32), (33, u33), (34, u34)] ∧ Below w0.heap.size w0 w ∧ Ch eU64 25 46 w0 sv0 x0 w l0 l1 l6 l9 u29 u30 u7 o0 g0 ∧ Ch eInt 3 47 w0 sv1 x1 w l2 l3 l7 l10 u31 u32 u8 o1 g1 ∧ Ch eInt 3 47 w0 sv2 x2 w l4 l5 l8 l11 u33 u34 u9 o2 g2 ∧ (l6 = true → l7 = true → g0 ≠ g1) ∧ (l6 = true → l8 = true → g0 ≠ g2) ∧ (l7 = true → l8 = true → g1 ≠ g2)
/-- three copies, each behind a variable of its own -/
def Cut3 (a : List Nat) (fr pn : List Int) (w0 : World) (s7 s8 s9 : Value) (w : World) : Prop :=
  ∃ g7 g8 g9, s7 = .pointer (some ⟨g7, 0, none⟩) ∧ s8 = .pointer (some ⟨g8, 0, none⟩) ∧ s9 = .pointer (some ⟨g9, 0, none⟩) ∧ BoxOf eU64 46 w g7 a ∧ BoxOf eInt 47 w g8 fr ∧ BoxOf eInt 47 w g9 pn ∧ Below w0.heap.size w0 w

set_option maxRecDepth 100000 in
set_option maxHeartbeats 1000000 in
theorem slideOwn1 (a0 a1 a2 a3 a4 a5 : Addr) (A A' C C' E E' : Option Addr) (c c' d d' f f' : Nat) (a : List Nat) (fr pn : List Int) (w : World)
    (c0 : w.cell? a0 = some (.slice A a.length c)) (c1 : w.cell? a1 = some (.slice A' a.length c')) (c2 : w.cell? a2 = some (.slice C fr.length d)) (c3 : w.cell? a3 = some (.slice C' fr.length d')) (c4 : w.cell? a4 = some (.slice E pn.length f)) (c5 : w.cell? a5 = some (.slice E' pn.length f'))
    (hp : Rd eU64 w A a) (hp' : Rd eU64 w A' a) (hq : Rd eInt w C fr) (hq' : Rd eInt w C' fr) (hr : Rd eInt w E pn) (hr' : Rd eInt w E' pn) (hm : a.length ≤ maxLen) (hm' : fr.length ≤ maxLen) (hm2 : pn.length ≤ maxLen) :
    Calls Try.prog 27 #[.pointer (some a0), .pointer (some a1), .pointer (some a2), .pointer (some a3), .pointer (some a4), .pointer (some a5)] w (Quiet (.bool true) w) := by
  have HP := Lib.hid (show sameL a a = true by simp [sameL])
  have HQ := Lib.hid (show sameL fr fr = true by simp [sameL])
  have HR := Lib.hid (show sameL pn pn = true by simp [sameL])
  have H1 := Lib.hid (fun W h1 h2 => equalInt C C' d d' fr fr W h1 h2 hm')
  have H2 := Lib.hid (fun W h1 h2 => equalInt E E' f f' pn pn W h1 h2 hm2)
  rw [HQ.out] at H1
  rw [HR.out] at H2
  go_enter Try.func27, Try.ntmps27
  go_wp2_with (first
    | (go_at_call 28; refine (equalU64 _ _ _ _ a a _ hp hp' hm).mono ?_; rw [HP.out]; rintro e w1 ⟨rfl, n1, rfl⟩)
    | (go_at_call 29; refine (H1.out _ (hq.drewN _) (hq'.drewN _)).mono ?_; rintro e w1 ⟨rfl, n2, rfl⟩; clear H1)
    | (go_at_call 29; refine (H2.out _ (hr.drewN _) (hr'.drewN _)).mono ?_; rintro e w1 ⟨rfl, n3, rfl⟩))
  go_ret
  exact ⟨rfl, _, rfl⟩

/-- rows of a call's own, all their room known -/
def Rooms {α : Type} (L : El α) (e : Nat) (W : World) (B : Nat) (l : List (Option Addr × Nat)) : Prop := ∀ p ∈ l, Room L e W B p.1 p.2
/-- what stays while the copies are counted up -/
def BumpRel (wc : World) (us is : List (Option Addr × Nat)) (W : World) : Prop :=
  Below wc.heap.size wc W ∧ Rooms eU64 25 W wc.heap.size us ∧ Rooms eInt 3 W wc.heap.size is
theorem BumpRel.u64 {wc W : World} {us is : List (Option Addr × Nat)} {g i x : Nat} {zs : List Nat} {m : Int} (h : BumpRel wc us is W) (hB : wc.heap.size ≤ g)
    (hg : W.heap[g]? = some (.cells (eU64.flat zs).toArray 25 (0, 0))) (hx : zs[i]? = some x) (hm : 0 ≤ m) : BumpRel wc us is (W.setCell ⟨g, i, none⟩ (.int .u64 m)) := by
  obtain ⟨m, rfl⟩ := Int.eq_ofNat_of_zero_le hm
  have h1 : Held eU64 25 W (W.setCell ⟨g, i, none⟩ (.int .u64 (m : Int))) := by
    have := Held.same (j := 0) (x' := m) (u := .int .u64 (m : Int)) hg hx (by decide) rfl
    simpa [eU64] using this
  have h2 : Held eInt 3 W (W.setCell ⟨g, i, none⟩ (.int .u64 (m : Int))) := Held.other hg (by decide)
  exact ⟨h.1.setCell hB _, fun p hp => (h.2.1 p hp).held h1, fun p hp => (h.2.2 p hp).held h2⟩
theorem BumpRel.int {wc W : World} {us is : List (Option Addr × Nat)} {g i : Nat} {x : Int} {zs : List Int} {m : Int} (h : BumpRel wc us is W) (hB : wc.heap.size ≤ g)
    (hg : W.heap[g]? = some (.cells (eInt.flat zs).toArray 3 (0, 0))) (hx : zs[i]? = some x) : BumpRel wc us is (W.setCell ⟨g, i, none⟩ (.int .i64 m)) := by
  have h1 : Held eInt 3 W (W.setCell ⟨g, i, none⟩ (.int .i64 m)) := by
    have := Held.same (j := 0) (x' := m) (u := .int .i64 m) hg hx (by decide) rfl
    simpa [eInt] using this
  have h2 : Held eU64 25 W (W.setCell ⟨g, i, none⟩ (.int .i64 m)) := Held.other hg (by decide)
  exact ⟨h.1.setCell hB _, fun p hp => (h.2.1 p hp).held h2, fun p hp => (h.2.2 p hp).held h1⟩
theorem wrap_u64_pos (x : Int) : 0 ≤ IntKind.u64.wrap x := by rw [IntKind.wrap_u64]; omega
theorem index2u (x y : Value) (W : World) : (Instr.index 72 (.agg #[x, y]) (.int .i64 0)).run Try.prog W = .ok x W ∧ (Instr.index 72 (.agg #[x, y]) (.int .i64 1)).run Try.prog W = .ok y W := ⟨by kernel_rfl, by kernel_rfl⟩
theorem index4i (x y z u : Value) (W : World) : (Instr.index 73 (.agg #[x, y, z, u]) (.int .i64 0)).run Try.prog W = .ok x W ∧ (Instr.index 73 (.agg #[x, y, z, u]) (.int .i64 1)).run Try.prog W = .ok y W ∧ (Instr.index 73 (.agg #[x, y, z, u]) (.int .i64 2)).run Try.prog W = .ok z W ∧ (Instr.index 73 (.agg #[x, y, z, u]) (.int .i64 3)).run Try.prog W = .ok u W := ⟨by kernel_rfl, by kernel_rfl, by kernel_rfl, by kernel_rfl⟩

set_option maxRecDepth 100000 in
set_option maxHeartbeats 8000000 in
theorem slideOwn_any (A D E : Option Addr) (c d f : Nat) (a : List Nat) (fr pn : List Int) (w : World) (hp : Rd eU64 w A a) (hq : Rd eInt w D fr) (hr : Rd eInt w E pn)
    (hac : a.length ≤ c) (hm : c ≤ maxLen) (hma : a.length * 8 ≤ 140737488355328) (hmf : fr.length * 8 ≤ 140737488355328) (hmp : pn.length * 8 ≤ 140737488355328) (ha : Words64 a)
    (hsl : ∀ W, Calls Try.prog 24 #[] W (Ret (.bool true) W)) :
    Calls Try.prog 5 #[.slice A a.length c, .slice D fr.length d, .slice E pn.length f] w (Ret (.bool true) w) := by
  have HSL := Lib.hid hsl
  clear hsl
  have heg : Enters Try.prog 27 := enters Try.func27 (by kernel_rfl) (by kernel_rfl)
  unfold Enters at heg
  go_enter Try.func5, Try.ntmps5
  go_upto_region 3 with (go_at_call 24; refine (HSL.out _).mono ?_; rintro e w1 ⟨rfl, hb1⟩)
  have hs1 := hb1.size
  simp only [World.size_alloc] at hs1
  have e3 : w1.cell? ⟨w.heap.size, 0, none⟩ = some (.slice A a.length c) := box_cell (heap_below (heap_alloc_keep (heap_alloc_keep (heap_alloc_new w _))) hb1)
  have e4 : w1.cell? ⟨w.heap.size + 1, 0, none⟩ = some (.slice D fr.length d) := box_cell (heap_below (heap_alloc_keep (by rw [← heap_alloc_size w]; exact heap_alloc_new (w.alloc _) _)) hb1)
  have e5 : w1.cell? ⟨w.heap.size + 2, 0, none⟩ = some (.slice E pn.length f) := box_cell (heap_below (by rw [show w.heap.size + 2 = w.heap.size + 1 + 1 from rfl, ← heap_alloc_size2 w]; exact heap_alloc_new ((w.alloc _).alloc _) _) hb1)
  have hp1 : Rd eU64 w1 A a := (((hp.alloc _).alloc _).alloc _).below hb1
  have hq1 : Rd eInt w1 D fr := (((hq.alloc _).alloc _).alloc _).below hb1
  have hr1 : Rd eInt w1 E pn := (((hr.alloc _).alloc _).alloc _).below hb1
  have hB1 : Below w.heap.size w w1 := ((((Below.refl _ _).alloc (Nat.le_refl _) _).alloc (by simp) _).alloc (by simp; omega) _).trans (hb1.mono (by simp; omega))
  have HB1 := Lib.hid hb1
  clear hb1
  go_cut [7, 8, 9] (fun s7 s8 s9 wx => Cut3 a fr pn w1 s7 s8 s9 wx)
  case first =>
    refine wp_region_inv2 (by kernel_rfl) (slideOwnInv a fr pn (.slice A a.length c) (.slice D fr.length d) (.slice E pn.length f) (.pointer (some ⟨w.heap.size, 0, none⟩)) (.pointer (some ⟨w.heap.size + 1, 0, none⟩)) (.pointer (some ⟨w.heap.size + 2, 0, none⟩)) w1) ?_ ?_ ?_
    · refine ⟨by simp, rfl, rfl, rfl, false, false, false, false, false, false, false, false, false, false, false, false, undef, undef, undef, undef, undef, undef, undef, undef, undef, undef, undef, undef, 0, 0, 0, rfl, (putL_same _ _ (by intro p hp; simp at hp; rcases hp with rfl | rfl | rfl | rfl | rfl | rfl | rfl | rfl | rfl <;> rfl)).symm, (Below.refl _ _).drew, Ch.start, Ch.start, Ch.start, ?_, ?_, ?_⟩ <;> (intro h; cases h)
    · intro a0 l a' w' _ hI i hi
      obtain ⟨hz, hv3, hv4, hv5, l0, l1, l2, l3, l4, l5, l6, l7, l8, l9, l10, l11, u7, u8, u9, u29, u30, u31, u32, u33, u34, o0, o1, o2, g0, g1, g2, rfl, rfl, hB, k0', k1', k2', d01', d02', d12'⟩ := hI
      have K0 := Lib.hid k0'
      have K1 := Lib.hid k1'
      have K2 := Lib.hid k2'
      have D01 := Lib.hid d01'
      have D02 := Lib.hid d02'
      have D12 := Lib.hid d12'
      clear k0' k1' k2' d01' d02' d12'
      have hr := hi
      simp [Region.ready, Region.binds, List.range, List.range.loop] at hr
      obtain ⟨hcase, hl, hd⟩ := hr
      have src0 := (hB.cell (p := ⟨w.heap.size, 0, none⟩) (by simp only; omega)).trans e3
      have src1 := (hB.cell (p := ⟨w.heap.size + 1, 0, none⟩) (by simp only; omega)).trans e4
      have src2 := (hB.cell (p := ⟨w.heap.size + 2, 0, none⟩) (by simp only; omega)).trans e5
      rcases hcase with rfl | rfl | rfl | rfl | rfl | rfl | rfl | rfl | rfl | rfl | rfl | rfl
      · simp at hl hd
        have ev := (putL_out [(7, u7), (8, u8), (9, u9), (29, u29), (30, u30), (31, u31), (32, u32), (33, u33), (34, u34)] a0 3 (by simp)).trans hv3
        have hact : ∀ V, (putL a0 [(7, u7), (8, u8), (9, u9), (29, u29), (30, u30), (31, u31), (32, u32), (33, u33), (34, u34)]).put (some 29) V = putL a0 [(7, u7), (8, u8), (9, u9), (29, V), (30, u30), (31, u31), (32, u32), (33, u33), (34, u34)] := fun V => (putL_put _ a0 29 V (by simp) (by simp)).trans (congrArg (putL a0) (by simp [updL]))
        generalize hA : putL a0 [(7, u7), (8, u8), (9, u9), (29, u29), (30, u30), (31, u31), (32, u32), (33, u33), (34, u34)] = fA at ev hact ⊢
        simp only [Act.eval, Array.getD_eq_getD_getElem?] at ev
        clear hd hi hr
        refine wpOp_do rfl rfl ?_
        go_simp
        exact ⟨hz, hv3, hv4, hv5, true, l1, l2, l3, l4, l5, l6, l7, l8, l9, l10, l11, u7, u8, u9, (.slice A a.length c), u30, u31, u32, u33, u34, o0, o1, o2, g0, g1, g2, rfl, hact _, hB, K0.out.load, K1.out, K2.out, D01.out, D02.out, D12.out⟩
      · simp at hl hd
        have e0 : l0 = true := by revert hd; cases l0 <;> simp
        subst e0
        subst hl
        obtain rfl := K0.out.1 rfl
        have ev := putL_in [(7, u7), (8, u8), (9, u9), (29, (.slice A a.length c)), (30, u30), (31, u31), (32, u32), (33, u33), (34, u34)] a0 29 ((.slice A a.length c)) (by simp) (by simp) (by omega)
        have hact : ∀ V, (putL a0 [(7, u7), (8, u8), (9, u9), (29, (.slice A a.length c)), (30, u30), (31, u31), (32, u32), (33, u33), (34, u34)]).put (some 30) V = putL a0 [(7, u7), (8, u8), (9, u9), (29, (.slice A a.length c)), (30, V), (31, u31), (32, u32), (33, u33), (34, u34)] := fun V => (putL_put _ a0 30 V (by simp) (by simp)).trans (congrArg (putL a0) (by simp [updL]))
        generalize hA : putL a0 [(7, u7), (8, u8), (9, u9), (29, (.slice A a.length c)), (30, u30), (31, u31), (32, u32), (33, u33), (34, u34)] = fA at ev hact ⊢
        simp only [Act.eval, Array.getD_eq_getD_getElem?] at ev
        clear hd hi hr
        refine wpOp_do rfl rfl ?_
        go_simp
        refine (cloneU64 _ _ _ _ (hp1.below hB) hma).mono ?_
        rintro e w2 ⟨v, rfl, hown, hb⟩
        exact ⟨hz, hv3, hv4, hv5, true, true, l2, l3, l4, l5, l6, l7, l8, l9, l10, l11, u7, u8, u9, (.slice A a.length c), v, u31, u32, u33, u34, o0, o1, o2, g0, g1, g2, rfl, hact _, hB.trans (hb.mono hB.size), K0.out.clone hb (hown.mono hB.size), K1.out.below hb, K2.out.below hb, D01.out, D02.out, D12.out⟩
      · simp at hl hd
        have ev := (putL_out [(7, u7), (8, u8), (9, u9), (29, u29), (30, u30), (31, u31), (32, u32), (33, u33), (34, u34)] a0 4 (by simp)).trans hv4
        have hact : ∀ V, (putL a0 [(7, u7), (8, u8), (9, u9), (29, u29), (30, u30), (31, u31), (32, u32), (33, u33), (34, u34)]).put (some 31) V = putL a0 [(7, u7), (8, u8), (9, u9), (29, u29), (30, u30), (31, V), (32, u32), (33, u33), (34, u34)] := fun V => (putL_put _ a0 31 V (by simp) (by simp)).trans (congrArg (putL a0) (by simp [updL]))
        generalize hA : putL a0 [(7, u7), (8, u8), (9, u9), (29, u29), (30, u30), (31, u31), (32, u32), (33, u33), (34, u34)] = fA at ev hact ⊢
        simp only [Act.eval, Array.getD_eq_getD_getElem?] at ev
        clear hd hi hr
        refine wpOp_do rfl rfl ?_
        go_simp
        exact ⟨hz, hv3, hv4, hv5, l0, l1, true, l3, l4, l5, l6, l7, l8, l9, l10, l11, u7, u8, u9, u29, u30, (.slice D fr.length d), u32, u33, u34, o0, o1, o2, g0, g1, g2, rfl, hact _, hB, K0.out, K1.out.load, K2.out, D01.out, D02.out, D12.out⟩
      · simp at hl hd
        have e2 : l2 = true := by revert hd; cases l2 <;> simp
        subst e2
        subst hl
        obtain rfl := K1.out.1 rfl
        have ev := putL_in [(7, u7), (8, u8), (9, u9), (29, u29), (30, u30), (31, (.slice D fr.length d)), (32, u32), (33, u33), (34, u34)] a0 31 ((.slice D fr.length d)) (by simp) (by simp) (by omega)
        have hact : ∀ V, (putL a0 [(7, u7), (8, u8), (9, u9), (29, u29), (30, u30), (31, (.slice D fr.length d)), (32, u32), (33, u33), (34, u34)]).put (some 32) V = putL a0 [(7, u7), (8, u8), (9, u9), (29, u29), (30, u30), (31, (.slice D fr.length d)), (32, V), (33, u33), (34, u34)] := fun V => (putL_put _ a0 32 V (by simp) (by simp)).trans (congrArg (putL a0) (by simp [updL]))
        generalize hA : putL a0 [(7, u7), (8, u8), (9, u9), (29, u29), (30, u30), (31, (.slice D fr.length d)), (32, u32), (33, u33), (34, u34)] = fA at ev hact ⊢
        simp only [Act.eval, Array.getD_eq_getD_getElem?] at ev
        clear hd hi hr
        refine wpOp_do rfl rfl ?_
        go_simp
        refine (cloneInt _ _ _ _ (hq1.below hB) hmf).mono ?_
        rintro e w2 ⟨v, rfl, hown, hb⟩
        exact ⟨hz, hv3, hv4, hv5, l0, l1, true, true, l4, l5, l6, l7, l8, l9, l10, l11, u7, u8, u9, u29, u30, (.slice D fr.length d), v, u33, u34, o0, o1, o2, g0, g1, g2, rfl, hact _, hB.trans (hb.mono hB.size), K0.out.below hb, K1.out.clone hb (hown.mono hB.size), K2.out.below hb, D01.out, D02.out, D12.out⟩
      · simp at hl hd
        have ev := (putL_out [(7, u7), (8, u8), (9, u9), (29, u29), (30, u30), (31, u31), (32, u32), (33, u33), (34, u34)] a0 5 (by simp)).trans hv5
        have hact : ∀ V, (putL a0 [(7, u7), (8, u8), (9, u9), (29, u29), (30, u30), (31, u31), (32, u32), (33, u33), (34, u34)]).put (some 33) V = putL a0 [(7, u7), (8, u8), (9, u9), (29, u29), (30, u30), (31, u31), (32, u32), (33, V), (34, u34)] := fun V => (putL_put _ a0 33 V (by simp) (by simp)).trans (congrArg (putL a0) (by simp [updL]))
        generalize hA : putL a0 [(7, u7), (8, u8), (9, u9), (29, u29), (30, u30), (31, u31), (32, u32), (33, u33), (34, u34)] = fA at ev hact ⊢
        simp only [Act.eval, Array.getD_eq_getD_getElem?] at ev
        clear hd hi hr
        refine wpOp_do rfl rfl ?_
        go_simp
        exact ⟨hz, hv3, hv4, hv5, l0, l1, l2, l3, true, l5, l6, l7, l8, l9, l10, l11, u7, u8, u9, u29, u30, u31, u32, (.slice E pn.length f), u34, o0, o1, o2, g0, g1, g2, rfl, hact _, hB, K0.out, K1.out, K2.out.load, D01.out, D02.out, D12.out⟩
      · simp at hl hd
        have e4 : l4 = true := by revert hd; cases l4 <;> simp
        subst e4
        subst hl
        obtain rfl := K2.out.1 rfl
        have ev := putL_in [(7, u7), (8, u8), (9, u9), (29, u29), (30, u30), (31, u31), (32, u32), (33, (.slice E pn.length f)), (34, u34)] a0 33 ((.slice E pn.length f)) (by simp) (by simp) (by omega)
        have hact : ∀ V, (putL a0 [(7, u7), (8, u8), (9, u9), (29, u29), (30, u30), (31, u31), (32, u32), (33, (.slice E pn.length f)), (34, u34)]).put (some 34) V = putL a0 [(7, u7), (8, u8), (9, u9), (29, u29), (30, u30), (31, u31), (32, u32), (33, (.slice E pn.length f)), (34, V)] := fun V => (putL_put _ a0 34 V (by simp) (by simp)).trans (congrArg (putL a0) (by simp [updL]))
        generalize hA : putL a0 [(7, u7), (8, u8), (9, u9), (29, u29), (30, u30), (31, u31), (32, u32), (33, (.slice E pn.length f)), (34, u34)] = fA at ev hact ⊢
        simp only [Act.eval, Array.getD_eq_getD_getElem?] at ev
        clear hd hi hr
        refine wpOp_do rfl rfl ?_
        go_simp
        refine (cloneInt _ _ _ _ (hr1.below hB) hmp).mono ?_
        rintro e w2 ⟨v, rfl, hown, hb⟩
        exact ⟨hz, hv3, hv4, hv5, l0, l1, l2, l3, true, true, l6, l7, l8, l9, l10, l11, u7, u8, u9, u29, u30, u31, u32, (.slice E pn.length f), v, o0, o1, o2, g0, g1, g2, rfl, hact _, hB.trans (hb.mono hB.size), K0.out.below hb, K1.out.below hb, K2.out.clone hb (hown.mono hB.size), D01.out, D02.out, D12.out⟩
      · simp at hl hd
        subst hl
        have hact : ∀ V, (putL a0 [(7, u7), (8, u8), (9, u9), (29, u29), (30, u30), (31, u31), (32, u32), (33, u33), (34, u34)]).put (some 7) V = putL a0 [(7, V), (8, u8), (9, u9), (29, u29), (30, u30), (31, u31), (32, u32), (33, u33), (34, u34)] := fun V => (putL_put _ a0 7 V (by simp) (by simp)).trans (congrArg (putL a0) (by simp [updL]))
        generalize hA : putL a0 [(7, u7), (8, u8), (9, u9), (29, u29), (30, u30), (31, u31), (32, u32), (33, u33), (34, u34)] = fA at hact ⊢
        clear hd hi hr
        refine wpOp_do rfl rfl ?_
        go_simp
        exact ⟨hz, hv3, hv4, hv5, l0, l1, l2, l3, l4, l5, true, l7, l8, l9, l10, l11, .pointer (some ⟨w'.heap.size, 0, none⟩), u8, u9, u29, u30, u31, u32, u33, u34, .slice none 0 0, o1, o2, w'.heap.size, g1, g2, rfl, hact _, hB.alloc hB.size _, K0.out.alloc hB.size, K1.out.below ((Below.refl _ _).alloc (Nat.le_refl _) _), K2.out.below ((Below.refl _ _).alloc (Nat.le_refl _) _), fun _ h => by have := K1.out.lt h; omega, fun _ h => by have := K2.out.lt h; omega, D12.out⟩
      · simp at hl hd
        subst hl
        have hact : ∀ V, (putL a0 [(7, u7), (8, u8), (9, u9), (29, u29), (30, u30), (31, u31), (32, u32), (33, u33), (34, u34)]).put (some 8) V = putL a0 [(7, u7), (8, V), (9, u9), (29, u29), (30, u30), (31, u31), (32, u32), (33, u33), (34, u34)] := fun V => (putL_put _ a0 8 V (by simp) (by simp)).trans (congrArg (putL a0) (by simp [updL]))
        generalize hA : putL a0 [(7, u7), (8, u8), (9, u9), (29, u29), (30, u30), (31, u31), (32, u32), (33, u33), (34, u34)] = fA at hact ⊢
        clear hd hi hr
        refine wpOp_do rfl rfl ?_
        go_simp
        exact ⟨hz, hv3, hv4, hv5, l0, l1, l2, l3, l4, l5, l6, true, l8, l9, l10, l11, u7, .pointer (some ⟨w'.heap.size, 0, none⟩), u9, u29, u30, u31, u32, u33, u34, o0, .slice none 0 0, o2, g0, w'.heap.size, g2, rfl, hact _, hB.alloc hB.size _, K0.out.below ((Below.refl _ _).alloc (Nat.le_refl _) _), K1.out.alloc hB.size, K2.out.below ((Below.refl _ _).alloc (Nat.le_refl _) _), fun h _ => by have := K0.out.lt h; omega, D02.out, fun _ h => by have := K2.out.lt h; omega⟩
      · simp at hl hd
        subst hl
        have hact : ∀ V, (putL a0 [(7, u7), (8, u8), (9, u9), (29, u29), (30, u30), (31, u31), (32, u32), (33, u33), (34, u34)]).put (some 9) V = putL a0 [(7, u7), (8, u8), (9, V), (29, u29), (30, u30), (31, u31), (32, u32), (33, u33), (34, u34)] := fun V => (putL_put _ a0 9 V (by simp) (by simp)).trans (congrArg (putL a0) (by simp [updL]))
        generalize hA : putL a0 [(7, u7), (8, u8), (9, u9), (29, u29), (30, u30), (31, u31), (32, u32), (33, u33), (34, u34)] = fA at hact ⊢
        clear hd hi hr
        refine wpOp_do rfl rfl ?_
        go_simp
        exact ⟨hz, hv3, hv4, hv5, l0, l1, l2, l3, l4, l5, l6, l7, true, l9, l10, l11, u7, u8, .pointer (some ⟨w'.heap.size, 0, none⟩), u29, u30, u31, u32, u33, u34, o0, o1, .slice none 0 0, g0, g1, w'.heap.size, rfl, hact _, hB.alloc hB.size _, K0.out.below ((Below.refl _ _).alloc (Nat.le_refl _) _), K1.out.below ((Below.refl _ _).alloc (Nat.le_refl _) _), K2.out.alloc hB.size, D01.out, fun h _ => by have := K0.out.lt h; omega, fun h _ => by have := K1.out.lt h; omega⟩
      · simp at hl hd
        have e1 : l1 = true := by revert hd; cases l1 <;> simp
        have e6 : l6 = true := by revert hd; cases l6 <;> simp
        subst e1
        subst e6
        subst hl
        obtain ⟨rfl, x2, x3⟩ := K0.out.2.2.1 rfl
        have hw1 := K0.out.2.1 rfl
        obtain ⟨A2, c2, hv2, _, _, _⟩ := hw1.rd
        subst hv2
        have hcx := box_cell x3
        have hfx : w'.frozen? ⟨g0, 0, none⟩ = false := own_free x3
        have ev1 := putL_in [(7, .pointer (some ⟨g0, 0, none⟩)), (8, u8), (9, u9), (29, u29), (30, .slice A2 a.length c2), (31, u31), (32, u32), (33, u33), (34, u34)] a0 7 (.pointer (some ⟨g0, 0, none⟩)) (by simp) (by simp) (by omega)
        have ev2 := putL_in [(7, .pointer (some ⟨g0, 0, none⟩)), (8, u8), (9, u9), (29, u29), (30, .slice A2 a.length c2), (31, u31), (32, u32), (33, u33), (34, u34)] a0 30 (.slice A2 a.length c2) (by simp) (by simp) (by omega)
        generalize hA : putL a0 [(7, .pointer (some ⟨g0, 0, none⟩)), (8, u8), (9, u9), (29, u29), (30, .slice A2 a.length c2), (31, u31), (32, u32), (33, u33), (34, u34)] = fA at ev1 ev2 ⊢
        simp only [Act.eval, Array.getD_eq_getD_getElem?] at ev1
        simp only [Act.eval, Array.getD_eq_getD_getElem?] at ev2
        clear hd hi hr
        refine wpOp_do rfl rfl ?_
        go_simp
        exact ⟨hz, hv3, hv4, hv5, l0, true, l2, l3, l4, l5, true, l7, l8, true, l10, l11, .pointer (some ⟨g0, 0, none⟩), u8, u9, u29, .slice A2 a.length c2, u31, u32, u33, u34, .slice A2 a.length c2, o1, o2, g0, g1, g2, rfl, hA.symm, hB.setCell x2 _, K0.out.store (by decide), K1.out.other x3 (by decide) (fun h => D01.out rfl h), K2.out.other x3 (by decide) (fun h => D02.out rfl h), D01.out, D02.out, D12.out⟩
      · simp at hl hd
        have e3 : l3 = true := by revert hd; cases l3 <;> simp
        have e7 : l7 = true := by revert hd; cases l7 <;> simp
        subst e3
        subst e7
        subst hl
        obtain ⟨rfl, x2, x3⟩ := K1.out.2.2.1 rfl
        have hw1 := K1.out.2.1 rfl
        obtain ⟨A2, c2, hv2, _, _, _⟩ := hw1.rd
        subst hv2
        have hcx := box_cell x3
        have hfx : w'.frozen? ⟨g1, 0, none⟩ = false := own_free x3
        have ev1 := putL_in [(7, u7), (8, .pointer (some ⟨g1, 0, none⟩)), (9, u9), (29, u29), (30, u30), (31, u31), (32, .slice A2 fr.length c2), (33, u33), (34, u34)] a0 8 (.pointer (some ⟨g1, 0, none⟩)) (by simp) (by simp) (by omega)
        have ev2 := putL_in [(7, u7), (8, .pointer (some ⟨g1, 0, none⟩)), (9, u9), (29, u29), (30, u30), (31, u31), (32, .slice A2 fr.length c2), (33, u33), (34, u34)] a0 32 (.slice A2 fr.length c2) (by simp) (by simp) (by omega)
        generalize hA : putL a0 [(7, u7), (8, .pointer (some ⟨g1, 0, none⟩)), (9, u9), (29, u29), (30, u30), (31, u31), (32, .slice A2 fr.length c2), (33, u33), (34, u34)] = fA at ev1 ev2 ⊢
        simp only [Act.eval, Array.getD_eq_getD_getElem?] at ev1
        simp only [Act.eval, Array.getD_eq_getD_getElem?] at ev2
        clear hd hi hr
        refine wpOp_do rfl rfl ?_
        go_simp
        exact ⟨hz, hv3, hv4, hv5, l0, l1, l2, true, l4, l5, l6, true, l8, l9, true, l11, u7, .pointer (some ⟨g1, 0, none⟩), u9, u29, u30, u31, .slice A2 fr.length c2, u33, u34, o0, .slice A2 fr.length c2, o2, g0, g1, g2, rfl, hA.symm, hB.setCell x2 _, K0.out.other x3 (by decide) (fun h => (D01.out h rfl).symm), K1.out.store (by decide), K2.out.other x3 (by decide) (fun h => D12.out rfl h), D01.out, D02.out, D12.out⟩
      · simp at hl hd
        have e5 : l5 = true := by revert hd; cases l5 <;> simp
        have e8 : l8 = true := by revert hd; cases l8 <;> simp
        subst e5
        subst e8
        subst hl
        obtain ⟨rfl, x2, x3⟩ := K2.out.2.2.1 rfl
        have hw1 := K2.out.2.1 rfl
        obtain ⟨A2, c2, hv2, _, _, _⟩ := hw1.rd
        subst hv2
        have hcx := box_cell x3
        have hfx : w'.frozen? ⟨g2, 0, none⟩ = false := own_free x3
        have ev1 := putL_in [(7, u7), (8, u8), (9, .pointer (some ⟨g2, 0, none⟩)), (29, u29), (30, u30), (31, u31), (32, u32), (33, u33), (34, .slice A2 pn.length c2)] a0 9 (.pointer (some ⟨g2, 0, none⟩)) (by simp) (by simp) (by omega)
        have ev2 := putL_in [(7, u7), (8, u8), (9, .pointer (some ⟨g2, 0, none⟩)), (29, u29), (30, u30), (31, u31), (32, u32), (33, u33), (34, .slice A2 pn.length c2)] a0 34 (.slice A2 pn.length c2) (by simp) (by simp) (by omega)
        generalize hA : putL a0 [(7, u7), (8, u8), (9, .pointer (some ⟨g2, 0, none⟩)), (29, u29), (30, u30), (31, u31), (32, u32), (33, u33), (34, .slice A2 pn.length c2)] = fA at ev1 ev2 ⊢
        simp only [Act.eval, Array.getD_eq_getD_getElem?] at ev1
        simp only [Act.eval, Array.getD_eq_getD_getElem?] at ev2
        clear hd hi hr
        refine wpOp_do rfl rfl ?_
        go_simp
        exact ⟨hz, hv3, hv4, hv5, l0, l1, l2, l3, l4, true, l6, l7, true, l9, l10, true, u7, u8, .pointer (some ⟨g2, 0, none⟩), u29, u30, u31, u32, u33, .slice A2 pn.length c2, o0, o1, .slice A2 pn.length c2, g0, g1, g2, rfl, hA.symm, hB.setCell x2 _, K0.out.other x3 (by decide) (fun h => (D02.out h rfl).symm), K1.out.other x3 (by decide) (fun h => (D12.out h rfl).symm), K2.out.store (by decide), D01.out, D02.out, D12.out⟩
    · intro l a' w' _ hI hr
      obtain ⟨hz, hv3, hv4, hv5, l0, l1, l2, l3, l4, l5, l6, l7, l8, l9, l10, l11, u7, u8, u9, u29, u30, u31, u32, u33, u34, o0, o1, o2, g0, g1, g2, rfl, rfl, hB, k0', k1', k2', d01', d02', d12'⟩ := hI
      have K0 := Lib.hid k0'
      have K1 := Lib.hid k1'
      have K2 := Lib.hid k2'
      clear k0' k1' k2' d01' d02' d12' hz hv3 hv4 hv5
      have e0 : l0 = true := by
        clear K0 K1 K2
        cases l0
        · simp [Region.ready, Region.binds, List.range, List.range.loop] at hr
        · rfl
      subst e0
      have e1 : l1 = true := by
        clear K0 K1 K2
        cases l1
        · simp [Region.ready, Region.binds, List.range, List.range.loop] at hr
        · rfl
      subst e1
      have e2 : l2 = true := by
        clear K0 K1 K2
        cases l2
        · simp [Region.ready, Region.binds, List.range, List.range.loop] at hr
        · rfl
      subst e2
      have e3 : l3 = true := by
        clear K0 K1 K2
        cases l3
        · simp [Region.ready, Region.binds, List.range, List.range.loop] at hr
        · rfl
      subst e3
      have e4 : l4 = true := by
        clear K0 K1 K2
        cases l4
        · simp [Region.ready, Region.binds, List.range, List.range.loop] at hr
        · rfl
      subst e4
      have e5 : l5 = true := by
        clear K0 K1 K2
        cases l5
        · simp [Region.ready, Region.binds, List.range, List.range.loop] at hr
        · rfl
      subst e5
      have e6 : l6 = true := by
        clear K0 K1 K2
        cases l6
        · simp [Region.ready, Region.binds, List.range, List.range.loop] at hr
        · rfl
      subst e6
      have e7 : l7 = true := by
        clear K0 K1 K2
        cases l7
        · simp [Region.ready, Region.binds, List.range, List.range.loop] at hr
        · rfl
      subst e7
      have e8 : l8 = true := by
        clear K0 K1 K2
        cases l8
        · simp [Region.ready, Region.binds, List.range, List.range.loop] at hr
        · rfl
      subst e8
      have e9 : l9 = true := by
        clear K0 K1 K2
        cases l9
        · simp [Region.ready, Region.binds, List.range, List.range.loop] at hr
        · rfl
      subst e9
      have e10 : l10 = true := by
        clear K0 K1 K2
        cases l10
        · simp [Region.ready, Region.binds, List.range, List.range.loop] at hr
        · rfl
      subst e10
      have e11 : l11 = true := by
        clear K0 K1 K2
        cases l11
        · simp [Region.ready, Region.binds, List.range, List.range.loop] at hr
        · rfl
      subst e11
      clear hr
      obtain ⟨z0, hu0, hbx0⟩ := K0.out.done
      subst hu0
      obtain ⟨z1, hu1, hbx1⟩ := K1.out.done
      subst hu1
      obtain ⟨z2, hu2, hbx2⟩ := K2.out.done
      subst hu2
      clear K0 K1 K2
      have hfin := Lib.hid (⟨z0, z1, z2, rfl, rfl, rfl, hbx0, hbx1, hbx2, hB⟩ : Cut3 a fr pn w1 _ _ _ w')
      clear hbx0 hbx1 hbx2
      simp only [putL, Act.put, List.setIfInBounds_toArray, List.set_cons_zero, List.set_cons_succ]
      go_wp2_with fail
      go_meet
      exact hfin
  case rest =>
    obtain ⟨g7, g8, g9, rfl, rfl, rfl, ⟨A', c', k7, hra⟩, ⟨D', d', k8, hrf⟩, ⟨E', f', k9, hrp⟩, hBc⟩ := hcut
    have ec3 : wc.cell? ⟨w.heap.size, 0, none⟩ = some (.slice A a.length c) := (hBc.cell (p := ⟨w.heap.size, 0, none⟩) (by simp only; omega)).trans e3
    have ec4 : wc.cell? ⟨w.heap.size + 1, 0, none⟩ = some (.slice D fr.length d) := (hBc.cell (p := ⟨w.heap.size + 1, 0, none⟩) (by simp only; omega)).trans e4
    have ec5 : wc.cell? ⟨w.heap.size + 2, 0, none⟩ = some (.slice E pn.length f) := (hBc.cell (p := ⟨w.heap.size + 2, 0, none⟩) (by simp only; omega)).trans e5
    have hpc := hp1.below hBc
    have hqc := hq1.below hBc
    have hrc := hr1.below hBc
    have hBw : Below w.heap.size w wc := hB1.trans (hBc.mono (by omega))
    clear e3 e4 e5 hBc HB1 hs1
    have l7 := (Array.getElem?_eq_some_iff.1 k7).1
    have l8 := (Array.getElem?_eq_some_iff.1 k8).1
    have l9 := (Array.getElem?_eq_some_iff.1 k9).1
    have l3 : w.heap.size < wc.heap.size := World.block_lt_of_cell? wc _ ec3
    have l4 : w.heap.size + 1 < wc.heap.size := World.block_lt_of_cell? wc _ ec4
    have l5 : w.heap.size + 2 < wc.heap.size := World.block_lt_of_cell? wc _ ec5
    have hbox : Hid (∀ W : World, Below wc.heap.size wc W → W.cell? ⟨w.heap.size, 0, none⟩ = some (.slice A a.length c) ∧ W.cell? ⟨w.heap.size + 1, 0, none⟩ = some (.slice D fr.length d) ∧ W.cell? ⟨w.heap.size + 2, 0, none⟩ = some (.slice E pn.length f)) := fun W hW =>
      ⟨(hW.cell l3).trans ec3, (hW.cell l4).trans ec4, (hW.cell l5).trans ec5⟩
    have hsame : Hid (∀ W : World, Below wc.heap.size wc W → Calls Try.prog 27 #[.pointer (some ⟨w.heap.size, 0, none⟩), .pointer (some ⟨g7, 0, none⟩), .pointer (some ⟨w.heap.size + 1, 0, none⟩), .pointer (some ⟨g8, 0, none⟩), .pointer (some ⟨w.heap.size + 2, 0, none⟩), .pointer (some ⟨g9, 0, none⟩)] W (Quiet (.bool true) W)) := fun W hW => by
      obtain ⟨b0, b1, b2⟩ := hbox.out W hW
      exact slideOwn1 _ _ _ _ _ _ A A' D D' E E' c c' d d' f f' a fr pn W b0 (box_cell (heap_below k7 hW)) b1 (box_cell (heap_below k8 hW)) b2 (box_cell (heap_below k9 hW)) (hpc.below hW) (hra.below hW) (hqc.below hW) (hrf.below hW) (hrc.below hW) (hrp.below hW) (by simp [maxLen]; omega) (by simp [maxLen]; omega) (by simp [maxLen]; omega)
    have HBW := Lib.hid hBw
    have hmf' : fr.length ≤ maxLen := by simp [maxLen]; omega
    clear hBw k7 k8 k9
    go_wp2_with (first
      | (go_at_call 30; refine (slideClean_any _ _ _ _ _ _ a fr pn _ hpc hqc hrc hac hm hmf hmp ha).mono ?_; rintro e w2 ⟨v2, u2, rfl, hown2, hown2', hb2⟩
         obtain ⟨A2, n2, rfl, hn2, hm2, hroom2⟩ := hown2.room
         obtain ⟨B2, o2, rfl, ho2, hp2, hroom2'⟩ := hown2'.room
         obtain ⟨x23, x24, x25⟩ := hbox.out _ hb2)
      | (go_at_call 31; refine (carryCopy_any _ _ _ _ a fr _ _ (hpc.below hb2) (hqc.below hb2) hac hm hmf' ha).mono ?_; rintro e w3 ⟨v3, u3, t3, rfl, hown3, hown3', hown3'', hb3⟩
         obtain ⟨A3, n3, rfl, hn3, hm3, hroom3⟩ := hown3.room
         obtain ⟨B3, o3, rfl, ho3, hp3, hroom3'⟩ := hown3'.room
         obtain ⟨C3, q3, rfl, hq3, hr3, hroom3''⟩ := hown3''.room
         have hB3 := hb2.trans (hb3.mono hb2.size)
         obtain ⟨x33, x34, x35⟩ := hbox.out _ hB3)
      | (go_at_call 32; refine (tintReach_any _ _ _ _ a fr _ (hpc.below hB3) (hqc.below hB3) hac hm hmf' ha).mono ?_; rintro e w4 ⟨v4, rfl, hown4, hb4⟩
         obtain ⟨A4, n4, rfl, hn4, hm4, hroom4⟩ := hown4.room
         have hB4 := hB3.trans (hb4.mono hB3.size))
      | (go_at_call 27; refine (hsame.out _ hB4).mono ?_; rintro e w6 ⟨rfl, nq, rfl⟩))
    have HR : Hid (BumpRel wc [(A2, n2), (A3, n3)] [(B2, o2), (B3, o3), (C3, q3), (A4, n4)] (w4.drewN nq)) := by
      refine ⟨bdrewN hB4 _, fun p hp => ?_, fun p hp => ?_⟩
      · simp only [List.mem_cons, List.not_mem_nil, or_false] at hp
        rcases hp with rfl | rfl
        · exact ((hroom2.below hb3).below hb4).drewN _
        · exact ((hroom3.mono hb2.size).below hb4).drewN _
      · simp only [List.mem_cons, List.not_mem_nil, or_false] at hp
        rcases hp with rfl | rfl | rfl | rfl
        · exact ((hroom2'.below hb3).below hb4).drewN _
        · exact ((hroom3'.mono hb2.size).below hb4).drewN _
        · exact ((hroom3''.mono hb2.size).below hb4).drewN _
        · exact (hroom4.mono hB3.size).drewN _
    clear hroom2 hroom2' hroom3 hroom3' hroom3'' hroom4 hown2 hown2' hown3 hown3' hown3'' hown4 hB3 hB4 hb2 hb3 hb4 x23 x24 x25 x33 x34 x35
    generalize (slideClean a fr pn).1.length = m2 at *
    generalize (slideClean a fr pn).2.1.length = m3 at *
    generalize (carryCopy a fr (a.length : Int)).1.length = m4 at *
    generalize (carryCopy a fr (a.length : Int)).2.1.length = m5 at *
    generalize (carryCopy a fr (a.length : Int)).2.2.1.length = m6 at *
    generalize (reachOf a fr).length = m7 at *
    generalize w4.drewN nq = W5 at *
    go_loopw [65] (fun i wr => ∃ k : Nat, k ≤ 2 ∧ i = .int .i64 k ∧ BumpRel wc [(A2, n2), (A3, n3)] [(B2, o2), (B3, o3), (C3, q3), (A4, n4)] wr) (fun i _ => 2 - (intOf i).toNat)
    case atStart => exact ⟨0, by omega, rfl, HR.out⟩
    case round =>
      obtain ⟨k, hk, rfl, HR1⟩ := hrel
      clear HR
      by_cases hlt : k < 2
      · obtain ⟨A0, m0, n0, hn0, hm0, hx, hroom⟩ : ∃ (A0 : Option Addr) (m0 n0 : Nat), m0 ≤ n0 ∧ n0 ≤ maxLen ∧ (∀ W, (Instr.index 72 (.agg #[.slice A2 m2 n2, .slice A3 m4 n3]) (.int .i64 k)).run Try.prog W = .ok (.slice A0 m0 n0) W) ∧ Hid (∀ W, BumpRel wc [(A2, n2), (A3, n3)] [(B2, o2), (B3, o3), (C3, q3), (A4, n4)] W → Room eU64 25 W wc.heap.size A0 n0) := by
          rcases (by omega : k = 0 ∨ k = 1) with rfl | rfl
          · exact ⟨A2, m2, n2, hn2, hm2, fun W => (index2u _ _ W).1, fun W h => h.2.1 (A2, n2) (by simp)⟩
          · exact ⟨A3, m4, n3, hn3, hm3, fun W => (index2u _ _ W).2, fun W h => h.2.1 (A3, n3) (by simp)⟩
        have hm0' := hm0
        simp only [maxLen] at hm0'
        have hq0 : (0 : Int) ≤ (n0 : Int) := by omega
        go_wp2
        obtain ⟨wo, rfl⟩ : ∃ wo : World, wo = wr := ⟨_, rfl⟩
        go_loopw [74] (fun i wr => ∃ j : Nat, j ≤ n0 ∧ i = .int .i64 j ∧ BumpRel wc [(A2, n2), (A3, n3)] [(B2, o2), (B3, o3), (C3, q3), (A4, n4)] wr) (fun i _ => n0 - (intOf i).toNat)
        case atStart => exact ⟨0, by omega, rfl, HR1⟩
        case round =>
          obtain ⟨j, hj, rfl, HR2⟩ := hrel
          by_cases hjl : j < n0
          · rcases hroom.out _ HR2 with h0 | ⟨g, zs, rfl, hc, hBg, hg⟩
            · omega
            · obtain ⟨x, hxz⟩ : ∃ x, zs[j]? = some x := ⟨zs[j]'(by omega), List.getElem?_eq_getElem _⟩
              have c1 := own_u64 hg hxz
              have f1 : wr.frozen? ⟨g, j, none⟩ = false := own_free hg
              have hnew : Hid (∀ m, 0 ≤ m → BumpRel wc [(A2, n2), (A3, n3)] [(B2, o2), (B3, o3), (C3, q3), (A4, n4)] (wr.setCell ⟨g, j, none⟩ (.int .u64 m))) := fun m hm => HR2.u64 hBg hg hxz hm
              clear hg hc hxz
              go_wp2
              go_roundw
              case rel => exact ⟨j + 1, by omega, by go_num, hnew.out _ (wrap_u64_pos _)⟩
              case measure => simp [intOf]; omega
          · go_wp2
            go_roundw
            case rel => exact ⟨k + 1, by omega, by go_num, HR2⟩
            case measure => simp [intOf]; omega
      · clear hk
        go_wp2
        obtain ⟨wo, rfl⟩ : ∃ wo : World, wo = wr := ⟨_, rfl⟩
        go_loopw [90] (fun i wr => ∃ k : Nat, k ≤ 4 ∧ i = .int .i64 k ∧ BumpRel wc [(A2, n2), (A3, n3)] [(B2, o2), (B3, o3), (C3, q3), (A4, n4)] wr) (fun i _ => 4 - (intOf i).toNat)
        case atStart => exact ⟨0, by omega, rfl, HR1⟩
        case round =>
          obtain ⟨k, hk, rfl, HR3⟩ := hrel
          clear HR1
          by_cases hlt : k < 4
          · obtain ⟨A0, m0, n0, hn0, hm0, hx, hroom⟩ : ∃ (A0 : Option Addr) (m0 n0 : Nat), m0 ≤ n0 ∧ n0 ≤ maxLen ∧ (∀ W, (Instr.index 73 (.agg #[.slice B2 m3 o2, .slice B3 m5 o3, .slice C3 m6 q3, .slice A4 m7 n4]) (.int .i64 k)).run Try.prog W = .ok (.slice A0 m0 n0) W) ∧ Hid (∀ W, BumpRel wc [(A2, n2), (A3, n3)] [(B2, o2), (B3, o3), (C3, q3), (A4, n4)] W → Room eInt 3 W wc.heap.size A0 n0) := by
              rcases (by omega : k = 0 ∨ k = 1 ∨ k = 2 ∨ k = 3) with rfl | rfl | rfl | rfl
              · exact ⟨B2, m3, o2, ho2, hp2, fun W => (index4i _ _ _ _ W).1, fun W h => h.2.2 (B2, o2) (by simp)⟩
              · exact ⟨B3, m5, o3, ho3, hp3, fun W => (index4i _ _ _ _ W).2.1, fun W h => h.2.2 (B3, o3) (by simp)⟩
              · exact ⟨C3, m6, q3, hq3, hr3, fun W => (index4i _ _ _ _ W).2.2.1, fun W h => h.2.2 (C3, q3) (by simp)⟩
              · exact ⟨A4, m7, n4, hn4, hm4, fun W => (index4i _ _ _ _ W).2.2.2, fun W h => h.2.2 (A4, n4) (by simp)⟩
            have hm0' := hm0
            simp only [maxLen] at hm0'
            have hq0 : (0 : Int) ≤ (n0 : Int) := by omega
            go_wp2
            obtain ⟨wo, rfl⟩ : ∃ wo : World, wo = wr := ⟨_, rfl⟩
            go_loopw [99] (fun i wr => ∃ j : Nat, j ≤ n0 ∧ i = .int .i64 j ∧ BumpRel wc [(A2, n2), (A3, n3)] [(B2, o2), (B3, o3), (C3, q3), (A4, n4)] wr) (fun i _ => n0 - (intOf i).toNat)
            case atStart => exact ⟨0, by omega, rfl, HR3⟩
            case round =>
              obtain ⟨j, hj, rfl, HR2⟩ := hrel
              by_cases hjl : j < n0
              · rcases hroom.out _ HR2 with h0 | ⟨g, zs, rfl, hc, hBg, hg⟩
                · omega
                · obtain ⟨x, hxz⟩ : ∃ x, zs[j]? = some x := ⟨zs[j]'(by omega), List.getElem?_eq_getElem _⟩
                  have c1 := own_int hg hxz
                  have f1 : wr.frozen? ⟨g, j, none⟩ = false := own_free hg
                  have hnew : Hid (∀ m, BumpRel wc [(A2, n2), (A3, n3)] [(B2, o2), (B3, o3), (C3, q3), (A4, n4)] (wr.setCell ⟨g, j, none⟩ (.int .i64 m))) := fun m => HR2.int hBg hg hxz
                  clear hg hc hxz
                  go_wp2
                  go_roundw
                  case rel => exact ⟨j + 1, by omega, by go_num, hnew.out _⟩
                  case measure => simp [intOf]; omega
              · go_wp2
                go_roundw
                case rel => exact ⟨k + 1, by omega, by go_num, HR2⟩
                case measure => simp [intOf]; omega
          · go_wp2_with (go_at_call 27; refine (hsame.out _ HR3.1).mono ?_; rintro e w6 ⟨rfl, nq, rfl⟩)
            go_ret
            exact ⟨rfl, HBW.out.trans ((bdrewN HR3.1 _).mono (by omega))⟩
end Go.Proofs.Ythkenhbpimddpaa
namespace Go.Proofs.Ythkenhbpimddpaa
open Go.RowKit
theorem slides_val : slideClean [1, 1] [0] [] = ([1, 1], [0], 0) := by decide +kernel

set_option maxRecDepth 100000 in
theorem small_any (w : World) : Calls Try.prog 52 #[] w (fun e w' => ∃ g, e = .returned (.slice (some ⟨g, 0, none⟩) 2 2) ∧ w.heap.size ≤ g ∧ w'.heap[g]? = some (.cells (eU64.flat [1, 1]).toArray 25 (0, 0)) ∧ Below w.heap.size w w') := by
  go_enter Try.func52, Try.ntmps52
  go_wp2
  go_ret
  exact ⟨_, rfl, Nat.le_refl _, heap_alloc_new _ _, (Below.refl _ _).alloc (Nat.le_refl _) _⟩

set_option maxRecDepth 100000 in
set_option maxHeartbeats 1000000 in
theorem slides_any (w : World) : Calls Try.prog 24 #[] w (Ret (.bool true) w) := by
  have HC : Hid (∀ W A D c d, Rd eU64 W A [1, 1] → Rd eInt W D [0] → 2 ≤ c → c ≤ maxLen → Calls Try.prog 30 #[.slice A 2 c, .slice D 1 d, .slice none 0 0] W (SlideRet W [1, 1] [0] 0)) := fun W A D c d h1 h2 h3 h4 => by
    have := slideClean_any A D none c d 0 [1, 1] [0] [] W h1 h2 Rd.nil h3 h4 (by simp) (by simp) (by intro v hv; simp at hv; omega)
    rw [slides_val] at this; exact this
  go_enter Try.func24, Try.ntmps24
  go_wp2_with (first
    | (go_at_call 52; refine (small_any _).mono ?_; rintro e w1 ⟨g, rfl, hBg, hg, hb1⟩)
    | (go_at_call 30; refine (HC.out _ _ _ _ _ ((Rd.of_block hg rfl).alloc _) (Rd.of_block (xs := [(0 : Int)]) (heap_alloc_new _ _) rfl) (Nat.le_refl _) (by simp [maxLen])).mono ?_; rintro e w2 ⟨v2, u2, rfl, hown2, hownu2, hb2⟩
       obtain ⟨A2, c2, rfl, _, _, _⟩ := hown2.rd
       obtain ⟨A3, c3, rfl, _, _, _⟩ := hownu2.rd))
  go_ret
  exact ⟨rfl, (hb1.alloc hb1.size _).trans (hb2.mono (Nat.le_trans hb1.size (alloc_le _ _)))⟩
end Go.Proofs.Ythkenhbpimddpaa
namespace Go.Proofs.Ythkenhbpimddpaa
open Go.RowKit Go.Deep

section
variable {H : Type} {enc : TypeId × Value → H} {P : Program} {w : World} {base : Nat} {held : Bool}

/-- what the reader calls an element is one -/
def Dec {α : Type} (L : El α) (enc : TypeId × Value → H) (P : Program) (w : World) (base : Nat) (held : Bool) (e : Nat) (good : α → Prop) : Prop :=
  P.cellsOf e = L.k ∧ ∀ (n : Nat) (cs : List Value) (y : DataW H × List MemPlace), DataW.trod enc P w base (fun _ => true) held n e cs = some y → ∃ x, cs = L.enc x ∧ good x

theorem open_El {α : Type} {L : El α} {t e : Nat} {good : α → Prop} {A : Option Addr} {n c fuel : Nat} {x : DataW H × List MemPlace} (ht : P.underlying t = some (.slice e)) (hd : Dec L enc P w base held e good)
    (h : DataW.trod enc P w base (fun _ => true) held fuel t [.slice A n c] = some x) :
    ∃ xs : List α, xs.length = n ∧ Rd L w A xs ∧ (∀ z ∈ xs, good z) ∧ n ≤ c ∧ c ≤ maxLen ∧ (c = 0 ∨ ∃ elems spare, x.1 = .slice elems spare ∧ elems.length + spare.length = c) := by
  obtain ⟨hC, hdec⟩ := hd
  rcases open_slice ht h with ⟨hcs, _⟩ | ⟨a, len, cap, m, k, D, Pl, hcs, hb, hl, hm, hmm, hx, hi⟩
  · simp only [List.cons.injEq, Value.slice.injEq, and_true] at hcs
    obtain ⟨rfl, rfl, rfl⟩ := hcs
    exact ⟨[], rfl, Rd.nil, by simp, Nat.le_refl _, by simp [maxLen], .inl rfl⟩
  · simp only [List.cons.injEq, Value.slice.injEq, and_true] at hcs
    obtain ⟨rfl, rfl, rfl⟩ := hcs
    simp only [if_true] at hmm
    subst hmm
    have hel : ∀ i, i < m → ∃ z, good z ∧ ∃ cs', w.cells? base (a.add (i * P.cellsOf e)) (P.cellsOf e) = some cs' ∧ cs' = L.enc z := fun i hi' => by
      obtain ⟨cs', h1, h2⟩ := hi i hi'
      obtain ⟨z, h3, h4⟩ := hdec _ _ _ h2
      exact ⟨z, h4, cs', h1, h3⟩
    have hf : ∃ f : Nat → α, ∀ i, i < m → good (f i) ∧ w.cells? base (a.add (i * P.cellsOf e)) (P.cellsOf e) = some (L.enc (f i)) := by
      refine ⟨fun i => if h : i < m then (hel i h).choose else L.zero, fun i h => ?_⟩
      simp only [dif_pos h]
      obtain ⟨h1, cs', h2, h3⟩ := (hel i h).choose_spec
      exact ⟨h1, h2.trans (congrArg some h3)⟩
    obtain ⟨f, hf⟩ := hf
    have hcell : ∀ i, i < m → ∀ j u, (L.enc (f i))[j]? = some u → w.cell? (a.add (i * L.k + j)) = some u := fun i hi j u hu => by
      obtain ⟨_, h2⟩ := hf i hi
      obtain ⟨_, hlen, h3⟩ := World.cells?_some h2
      have hj : j < L.k := by rw [← L.len (f i)]; exact (List.getElem?_eq_some_iff.1 hu).1
      have := h3 j (by rw [hC]; exact hj)
      rw [hC, Go.Deep.add_add] at this
      rw [this, hu]
    have hx1 : x.1 = .slice ((List.range n).map D) ((List.range (m - n)).map fun j => D (n + j)) := by rw [hx]
    refine ⟨(List.range n).map f, by simp, ?_, ?_, hl, hm, .inr ⟨_, _, hx1, by simp; omega⟩⟩
    · intro i z hz
      simp only [List.getElem?_map] at hz
      have hin : i < n := by
        rcases Nat.lt_or_ge i n with h | h
        · exact h
        · rw [List.getElem?_eq_none (by simpa using h)] at hz; cases hz
      rw [List.getElem?_range hin] at hz
      simp only [Option.map_some, Option.some.injEq] at hz
      subst hz
      have hp := L.pos
      have h0 := hcell i (by omega) 0 ((L.enc (f i))[0]'(by rw [L.len]; omega)) (List.getElem?_eq_getElem _)
      have hspot : a.spot = none := by
        have := hcell 0 (by omega) 0 ((L.enc (f 0))[0]'(by rw [L.len]; omega)) (List.getElem?_eq_getElem _)
        simp only [Nat.zero_mul, Nat.zero_add] at this
        have := World.cell?_spot this
        simpa [Addr.add] using this
      obtain ⟨b, off, spot⟩ := a
      simp only at hspot
      subst hspot
      refine ⟨b, off, rfl, ?_, fun j u hu => ?_⟩
      · have := World.block_lt_of_cell? w _ h0
        simpa [Addr.add_lit] using this
      · have := hcell i (by omega) j u hu
        rwa [Addr.add_lit] at this
    · intro z hz
      simp only [List.mem_map, List.mem_range] at hz
      obtain ⟨i, hi, rfl⟩ := hz
      exact (hf i (by omega)).1

theorem dec_one {v : Value} {xs : List (DataW H × List MemPlace)} {n t : Nat} {i : Nat} (h : DataW.trod enc P w base (fun _ => true) held n t [v] = xs[i]?) (hi : i < xs.length) : ∃ y, DataW.trod enc P w base (fun _ => true) held n t [v] = some y :=
  ⟨xs[i], h.trans (List.getElem?_eq_getElem hi)⟩
end

section
variable {H : Type} {enc : TypeId × Value → H} {w : World} {base : Nat} {held : Bool}
theorem decInt : Dec eInt enc Try.prog w base held 3 (fun _ => True) := ⟨by kernel_rfl, fun n cs y h => by
  obtain ⟨m, rfl, _, _⟩ := DataW.trod_int Try.underlying3 h
  exact ⟨m, rfl, trivial⟩⟩
theorem decU64 : Dec eU64 enc Try.prog w base held 25 (fun x => x < 18446744073709551616) := ⟨by kernel_rfl, fun n cs y h => by
  obtain ⟨m, rfl, _, hw⟩ := DataW.trod_int Try.underlying25 h
  obtain ⟨h0, h1⟩ := bounds_u64 hw
  obtain ⟨k, rfl⟩ := Int.eq_ofNat_of_zero_le h0
  exact ⟨k, rfl, by omega⟩⟩
set_option maxRecDepth 100000 in
theorem decPin : Dec ePin enc Try.prog w base held 29 (fun _ => True) := ⟨by kernel_rfl, fun n cs y h => by
  obtain ⟨xs, m, _, _, hlen, hxl, hf⟩ := DataW.trod_struct Try.underlying29 h
  have hC : Try.prog.cellsOf 29 = 2 := by kernel_rfl
  have h3 : Try.prog.cellsOf 3 = 1 := by kernel_rfl
  rw [hC] at hlen
  obtain ⟨c0, c1, rfl⟩ : ∃ c0 c1, cs = [c0, c1] := by
    match cs, hlen with
    | [c0, c1], _ => exact ⟨c0, c1, rfl⟩
  · have f0 : DataW.trod enc Try.prog w base (fun _ => true) held m 3 ((List.drop 0 [c0, c1]).take (Try.prog.cellsOf 3)) = xs[0]? := hf 0 _ rfl
    have f1 : DataW.trod enc Try.prog w base (fun _ => true) held m 3 ((List.drop 1 [c0, c1]).take (Try.prog.cellsOf 3)) = xs[1]? := hf 1 _ rfl
    rw [h3] at f0 f1
    simp only [List.drop_zero, List.drop_succ_cons, List.take_succ_cons, List.take_zero] at f0 f1
    obtain ⟨y0, f0⟩ := dec_one f0 (by rw [hxl]; decide)
    obtain ⟨y1, f1⟩ := dec_one f1 (by rw [hxl]; decide)
    obtain ⟨a, ha, _⟩ := DataW.trod_int Try.underlying3 f0
    obtain ⟨b, hb, _⟩ := DataW.trod_int Try.underlying3 f1
    simp only [List.cons.injEq, and_true] at ha hb
    subst ha; subst hb
    exact ⟨⟨a, b⟩, rfl, trivial⟩⟩
set_option maxRecDepth 100000 in
theorem decSlot : Dec eSlot enc Try.prog w base held 32 (fun _ => True) := ⟨by kernel_rfl, fun n cs y h => by
  obtain ⟨xs, m, _, _, hlen, hxl, hf⟩ := DataW.trod_struct Try.underlying32 h
  have hC : Try.prog.cellsOf 32 = 3 := by kernel_rfl
  have h3 : Try.prog.cellsOf 3 = 1 := by kernel_rfl
  have h4 : Try.prog.cellsOf 4 = 1 := by kernel_rfl
  rw [hC] at hlen
  obtain ⟨c0, c1, c2, rfl⟩ : ∃ c0 c1 c2, cs = [c0, c1, c2] := by
    match cs, hlen with
    | [c0, c1, c2], _ => exact ⟨c0, c1, c2, rfl⟩
  · have f0 : DataW.trod enc Try.prog w base (fun _ => true) held m 3 ((List.drop 0 [c0, c1, c2]).take (Try.prog.cellsOf 3)) = xs[0]? := hf 0 _ rfl
    have f1 : DataW.trod enc Try.prog w base (fun _ => true) held m 4 ((List.drop 1 [c0, c1, c2]).take (Try.prog.cellsOf 4)) = xs[1]? := hf 1 _ rfl
    have f2 : DataW.trod enc Try.prog w base (fun _ => true) held m 3 ((List.drop 2 [c0, c1, c2]).take (Try.prog.cellsOf 3)) = xs[2]? := hf 2 _ rfl
    rw [h3] at f0 f2
    rw [h4] at f1
    simp only [List.drop_zero, List.drop_succ_cons, List.take_succ_cons, List.take_zero] at f0 f1 f2
    obtain ⟨y0, f0⟩ := dec_one f0 (by rw [hxl]; decide)
    obtain ⟨y1, f1⟩ := dec_one f1 (by rw [hxl]; decide)
    obtain ⟨y2, f2⟩ := dec_one f2 (by rw [hxl]; decide)
    obtain ⟨a, ha, _⟩ := DataW.trod_int Try.underlying3 f0
    obtain ⟨b, hb, _⟩ := DataW.trod_bool Try.underlying4 f1
    obtain ⟨c, hc, _⟩ := DataW.trod_int Try.underlying3 f2
    simp only [List.cons.injEq, and_true] at ha hb hc
    subst ha; subst hb; subst hc
    exact ⟨⟨a, b, c⟩, rfl, trivial⟩⟩
end
end Go.Proofs.Ythkenhbpimddpaa
