/- A region that draws its order, by an invariant over what has been done. -/
import Derived.WalkKit
import Derived.Orders
namespace Go.Proofs.Ythkenhbpimddpaa

theorem setIf_falses (l : Array Bool) (i : Nat) (h : l[i]? = some false) : (l.setIfInBounds i true).toList.count false + 1 = l.toList.count false := by
  obtain ⟨l⟩ := l
  simp only [List.getElem?_toArray, List.setIfInBounds_toArray] at *
  induction l generalizing i with
  | nil => simp at h
  | cons b l ih =>
    cases i with
    | zero => simp at h; subst h; simp
    | succ i =>
      simp only [List.getElem?_cons_succ] at h
      have := ih i h
      simp only [List.set_cons_succ, List.count_cons]
      omega
theorem ready_false {md : Region.Mode} {ops : Array Oper} {listed : Array Bool} {i : Nat} (hs : listed.size = ops.size) (h : i ∈ Region.ready md ops listed) : listed[i]? = some false := by
  unfold Region.ready at h
  rw [List.mem_filter] at h
  obtain ⟨h1, h2⟩ := h
  have hi : i < listed.size := by rw [hs]; simpa using h1
  rw [Bool.and_eq_true] at h2
  have h3 := h2.1
  rw [Array.getElem?_eq_getElem hi]
  cases hb : listed[i]
  · rfl
  · have : listed.getD i true = true := by unfold Array.getD; rw [dif_pos hi]; exact hb
    rw [this] at h3
    cases h3
theorem ready_nil {md : Region.Mode} {ops : Array Oper} {listed : Array Bool} (h : listed.toList.count false = 0) : Region.ready md ops listed = [] := by
  unfold Region.ready
  rw [List.filter_eq_nil_iff]
  intro i _ hi
  rw [Bool.and_eq_true] at hi
  have h3 := hi.1
  have hb : listed.getD i true = true := by
    unfold Array.getD
    split
    · rename_i hlt
      cases hb : listed[i]
      · have : false ∈ listed.toList := by rw [← hb]; exact Array.getElem_mem_toList hlt
        have := List.count_pos_iff.2 this
        omega
      · exact hb
    · rfl
  rw [hb] at h3
  cases h3
theorem wpAny_inv {P : Program} {md : Region.Mode} {ops : Array Oper} {Q : Exit → Act → World → Prop} (Inv : Array Bool → Act → World → Prop)
    (step : ∀ listed a w, listed.size = ops.size → Inv listed a w → ∀ i ∈ Region.ready md ops listed, wpOp P ops Q i (fun a' w' => Inv (listed.setIfInBounds i true) a' w') a w)
    (fin : ∀ listed a w, listed.size = ops.size → Inv listed a w → Region.ready md ops listed = [] → Q .normal a w) :
    ∀ (fuel : Nat) (listed : Array Bool) (a : Act) (w : World), listed.size = ops.size → listed.toList.count false ≤ fuel → Inv listed a w → wpAny P md ops Q fuel listed a w := by
  intro fuel
  induction fuel with
  | zero =>
    intro listed a w hs hc hi
    have hr := ready_nil (md := md) (ops := ops) (listed := listed) (by omega)
    exact ⟨hr, fin listed a w hs hi hr⟩
  | succ fuel ih =>
    intro listed a w hs hc hi
    refine ⟨fin listed a w hs hi, fun i hir => ?_⟩
    refine wpOp_mono (fun a' w' h' => ih _ a' w' (by simpa using hs) ?_ h') (step listed a w hs hi i hir)
    have := setIf_falses listed i (ready_false hs hir)
    omega
theorem wpOp_do {P : Program} {ops : Array Oper} {Q : Exit → Act → World → Prop} {i : Nat} {o : Oper} {K : Act → World → Prop} {a : Act} {w : World} (ho : ops[i]? = some o) (hg : o.guard = none) (h : o.wp P a w K Q) : wpOp P ops Q i K a w := by
  unfold wpOp
  rw [ho]
  have hw : Region.wanted o (yielded ops a.tmps) = true := by simp [Region.wanted, hg]
  simp only [hw, if_true]
  exact .inl h
theorem wp_region_inv {P : Program} {id : Nat} {ops : Array Oper} {Q : Exit → Act → World → Prop} {a : Act} {w : World} (hm : P.follows .mixedOrders = true) (Inv : Array Bool → Act → World → Prop)
    (step : ∀ listed a w, listed.size = ops.size → Inv listed a w → ∀ i ∈ Region.ready .any ops listed, wpOp P ops Q i (fun a' w' => Inv (listed.setIfInBounds i true) a' w') a w)
    (fin : ∀ listed a w, listed.size = ops.size → Inv listed a w → Region.ready .any ops listed = [] → Q .normal a w)
    (h : Inv (Array.replicate ops.size false) a w.drew) : (Code.region id ops true).wp P Q a w :=
  wp_region_any hm (wpAny_inv Inv step fin ops.size _ a _ (by simp) (by simp) h)
/-- the same, the invariant over the frame with which the region begins -/
theorem wp_region_inv' {P : Program} {id : Nat} {ops : Array Oper} {Q : Exit → Act → World → Prop} {a : Act} {w : World} (hm : P.follows .mixedOrders = true) (Inv : Act → Array Bool → Act → World → Prop)
    (h : Inv a (Array.replicate ops.size false) a w.drew)
    (step : ∀ listed a' w', listed.size = ops.size → Inv a listed a' w' → ∀ i ∈ Region.ready .any ops listed, wpOp P ops Q i (fun a' w' => Inv a (listed.setIfInBounds i true) a' w') a' w')
    (fin : ∀ listed a' w', listed.size = ops.size → Inv a listed a' w' → Region.ready .any ops listed = [] → Q .normal a' w') : (Code.region id ops true).wp P Q a w :=
  wp_region_inv hm (Inv a) step fin h
end Go.Proofs.Ythkenhbpimddpaa
