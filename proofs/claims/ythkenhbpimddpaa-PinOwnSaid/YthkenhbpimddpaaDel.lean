/- slices.Delete of one element out of an own row. -/
import Derived.Test.YthkenhbpimddpaaIns
namespace Go.Proofs.Ythkenhbpimddpaa
open Go.RowKit

section
variable {α : Type} {L : El α} {w w' : World} {xs ys zs news : List α} {A : Option Addr} {B B' e : Nat} {v : Value} {P : Program}

/-- append where there is room: in place -/
theorem run_append_room_El {t ty bytes g n m c c' : Nat} (T : Ty L P t e bytes) (hg : w.heap[g]? = some (.cells (L.flat zs).toArray e (0, 0))) (hr : Rd L w A news) (hm : m = news.length) (hroom : n + m ≤ c) (hfit : n + m ≤ zs.length) :
    ∃ w', (Builtin.append_ #[t, t] ty #[.slice (some ⟨g, 0, none⟩) n c, .slice A m c']).run P w = .ok (.slice (some ⟨g, 0, none⟩) (n + m) c) w' ∧
      w'.heap[g]? = some (.cells (L.flat (splice zs n news)).toArray e (0, 0)) ∧ w.grownBy w' (some g) ∧ w'.heap.size = w.heap.size := by
  obtain ⟨ht, i, z, hi, hz, hk, hby, hzc⟩ := T
  subst hm
  by_cases h0 : news.length = 0
  · have : news = [] := List.eq_nil_of_length_eq_zero h0
    subst this
    refine ⟨w, ?_, by simpa [splice] using hg, World.grownBy.refl w _, rfl⟩
    have hle : n ≤ c := by simpa using hroom
    cases A <;> simp [Builtin.append_, run_underlying ht, sizeOf, typeInfo, hi, Builtin.lenOf, Builtin.firstCells, loadCells, loadCellsFrom, storeCells, hle]
  · obtain ⟨b, off, rfl, hlt, hc⟩ := hr.flat_ (by omega)
    have hl : (L.flat news).length = news.length * i.size := by rw [El.length_flat, hk]
    have hr := run_append_room (P := P) w t ty e i ht hi g n c _ hg ⟨b, off, none⟩ news.length c' (L.flat news) hl (fun j u hu => by rw [Addr.add_lit]; exact hc j u hu) (fun u hu => El.flat_one _ hu) hroom
      (by simp only [List.size_toArray, El.length_flat, hk]; rw [← Nat.add_mul]; exact Nat.mul_le_mul_right _ hfit)
    have heq : ((L.flat zs).toArray.toList.take (n * i.size) ++ L.flat news ++ (L.flat zs).toArray.toList.drop (n * i.size + (L.flat news).length)).toArray = (L.flat (splice zs n news)).toArray := by
      rw [El.flat_splice, splice, hk]
      simp only [List.append_assoc]
    rw [heq] at hr
    exact ⟨_, hr, setRow_heap w g _ _ e _ hg, ⟨rfl, rfl, rfl, by simp [World.setRow], fun k _ hk => setRow_other w g k _ (fun e => hk (by rw [e]))⟩, by simp [World.setRow]⟩
theorem wp_append_room_El {o : Oper} {a : Act} {K : Act → World → Prop} {Q : Exit → Act → World → Prop} (s x : Operand) {t bytes g n m c c' : Nat}
    (ho : o.op = .call { callee := .builtin .append, args := #[s, x], argTypes := #[t, t] })
    (T : Ty L P t e bytes) (hg : w.heap[g]? = some (.cells (L.flat zs).toArray e (0, 0))) (hr : Rd L w A news) (hm : m = news.length) (hs : a.eval s = .slice (some ⟨g, 0, none⟩) n c) (hx : a.eval x = .slice A m c') (N : Nat) (hN : n + m = N) (hroom : N ≤ c) (hfit : N ≤ zs.length)
    (h : ∀ w', Hid (w'.heap[g]? = some (.cells (L.flat (splice zs n news)).toArray e (0, 0))) → w.grownBy w' (some g) → Hid (w'.heap.size = w.heap.size) → K (a.put o.dst (.slice (some ⟨g, 0, none⟩) N c)) w') : o.wp P a w K Q := by
  subst hN
  obtain ⟨w', hrun, h2, h3, h4⟩ := run_append_room_El (ty := o.type) (c' := c') T hg hr hm hroom hfit
  unfold Oper.wp execOp
  simp only [ho, resolve, invoke, builtin, Sem.run_bind, Sem.run_pure, Result.andThen_ok, List.map_toArray, List.map_cons, List.map_nil, hs, hx, hrun]
  exact h w' h2 h3 h4
theorem step_append_room_El {ops : Array Oper} {o : Oper} {a : Act} {K : Act → World → Prop} {Q : Exit → Act → World → Prop} {E : Prop} (hgd : o.guard = none) (s x : Operand) {t bytes g n m c c' : Nat}
    (ho : o.op = .call { callee := .builtin .append, args := #[s, x], argTypes := #[t, t] })
    (T : Ty L P t e bytes) (hg : w.heap[g]? = some (.cells (L.flat zs).toArray e (0, 0))) (hr : Rd L w A news) (hm : m = news.length) (hs : a.eval s = .slice (some ⟨g, 0, none⟩) n c) (hx : a.eval x = .slice A m c') (N : Nat) (hN : n + m = N) (hroom : N ≤ c) (hfit : N ≤ zs.length)
    (h : ∀ w', Hid (w'.heap[g]? = some (.cells (L.flat (splice zs n news)).toArray e (0, 0))) → w.grownBy w' (some g) → Hid (w'.heap.size = w.heap.size) → K (a.put o.dst (.slice (some ⟨g, 0, none⟩) N c)) w') :
    if Region.wanted o (yielded ops a.tmps) = true then Oper.wp P o a w K Q else E := by
  have hw : Region.wanted o (yielded ops a.tmps) = true := by simp [Region.wanted, hgd]
  rw [if_pos hw]
  exact wp_append_room_El s x ho T hg hr hm hs hx N hN hroom hfit h

def delAt {α : Type} (xs : List α) (i : Nat) : List α := xs.take i ++ xs.drop (i + 1)
theorem length_delAt (xs : List α) (i : Nat) (hi : i < xs.length) : (delAt xs i).length = xs.length - 1 := by simp [delAt]; omega
theorem del_list' (a b ys : List α) (c z : α) : splice (splice (a ++ c :: b ++ ys) a.length b) (a.length + b.length) [z] = a ++ b ++ z :: ys := by
  have h : a ++ c :: b ++ ys = a ++ ((c :: b).take b.length ++ ((c :: b).drop b.length ++ ys)) := by
    rw [← List.append_assoc ((c :: b).take b.length), List.take_append_drop, List.append_assoc]
  have hl : ((c :: b).drop b.length).length = 1 := by simp
  obtain ⟨q, hq⟩ := List.length_eq_one_iff.1 hl
  rw [h, splice_mid a _ _ b (by simp), hq]
  have := splice_mid (a ++ b) [q] ys [z] rfl
  simp only [List.append_assoc, List.length_append] at this
  rw [this]
  simp
theorem del_list (xs ys : List α) (i : Nat) (z : α) (hi : i < xs.length) : splice (splice (xs ++ ys) i (xs.drop (i + 1))) (xs.length - 1) [z] = delAt xs i ++ z :: ys := by
  have h := del_list' (xs.take i) (xs.drop (i + 1)) ys xs[i] z
  have hd : xs.drop i = xs[i] :: xs.drop (i + 1) := List.drop_eq_getElem_cons hi
  rw [← hd, List.take_append_drop, List.length_take, Nat.min_eq_left (by omega), List.length_drop, show i + (xs.length - (i + 1)) = xs.length - 1 from by omega] at h
  exact h
end

set_option maxRecDepth 100000 in
set_option maxHeartbeats 1000000 in
theorem deletePin (v : Value) (xs : List Pin) (i : Nat) (w : World) (B : Nat) (hown : Own ePin 29 w B v xs) (hi : i < xs.length) (hlen : xs.length ≤ 1000000000) :
    Calls Try.prog 41 #[v, .int .i64 i, .int .i64 ((i : Int) + 1)] w (OwnPost ePin 29 B v w (delAt xs i)) := by
  rcases hown with ⟨rfl, rfl⟩ | ⟨g, ys, rfl, hBg, hcap, hg⟩
  · simp at hi
  · have hil : (i : Int) + 1 ≤ (xs.length : Int) := by omega
    have hi0 : (0 : Int) ≤ (i : Int) + 1 := by omega
    have hi1 : (i : Int) ≤ (xs.length : Int) := by omega
    have hz : ((i : Int) == (i : Int) + 1) = false := by rw [beq_eq_false_iff_ne]; omega
    have hci : ¬ (xs.length + ys.length = i) := by omega
    have hci1 : ¬ (xs.length = i) := by omega
    have htn : ((i : Int) + 1).toNat = i + 1 := by omega
    have HG := Lib.hid hg
    clear hg
    go_enter Try.func41, Try.ntmps41
    go_wp2_with fail
    have HM : Hid (xs.length - (i + 1) = (xs.drop (i + 1)).length) := by show _ = _; simp
    have HN : Hid (i + (xs.length - (i + 1)) = xs.length - 1) := by show _ = _; omega
    have HR : Hid (xs.length - 1 ≤ xs.length + ys.length) := by show _ ≤ _; omega
    have HT : Hid (xs.length - 1 ≤ (xs ++ ys).length) := by show _ ≤ _; simp; omega
    have HT2 : Hid (xs.length - 1 + 1 ≤ (splice (xs ++ ys) i (xs.drop (i + 1))).length) := by
      show _ ≤ _
      rw [length_splice _ _ _ (by simp; omega)]; simp; omega
    have hn1 : ((xs.length - 1 : Nat) : Int) ≤ (xs.length : Int) := by omega
    have hn2 : ¬ (xs.length + ys.length = xs.length - 1) := by omega
    have hn3 : xs.length - (xs.length - 1) = 1 := by omega
    have hq1 : (i : Int) ≤ (xs.length : Int) + (ys.length : Int) := by omega
    have hq2 : (i : Int) ≤ (i : Int) + 1 := by omega
    by_cases hcj : xs.length + ys.length = i + 1
    · have hrd : ∀ A : Option Addr, Rd ePin w A (xs.drop (i + 1)) := fun A => by rw [List.drop_eq_nil_of_le (by omega)]; exact Rd.nil
      go_region_law (refine step_append_room_El (N := xs.length - 1) (n := i) (m := xs.length - (i + 1)) (c := i + 1) (c' := 0) (A := some ⟨g, 0, none⟩) rfl (.tmp 22) (.tmp 25) rfl tyPin HG.out (hrd _) HM.out (by simp [Act.eval, Act.put]) (by simp [Act.eval, Act.put]) HN.out (by have := HR.out; omega) HT.out ?_; intro w2 hg2 hgr2 hs2)
      go_wp2_with (refine wpList_clear_El (d0 := xs.length - 1) rfl (.tmp 31) rfl tyPin hg2.out rfl (fun _ => rfl) HT2.out ?_; intro w3 hg3 hgr3 hs3)
      go_ret
      have hfin := hg3.out
      rw [show List.replicate 1 ePin.zero = [ePin.zero] from rfl, del_list xs ys i _ hi] at hfin
      refine ⟨_, rfl, .inr ⟨g, ePin.zero :: ys, ?_, hBg, ?_, hfin⟩, ?_, .inl rfl⟩
      · rw [length_delAt _ _ hi, List.length_cons, show xs.length - 1 + (ys.length + 1) = i + 1 from by omega]; rfl
      · rw [length_delAt _ _ hi, List.length_cons]; omega
      · exact grown_trans' (w_drew hgr2) hgr3
    · have hrd : Rd ePin w (some ⟨g, (i + 1) * 2, none⟩) (xs.drop (i + 1)) := by
        have h1 : Rd ePin w (some ⟨g, 0, none⟩) xs := by simpa using (Rd.of_block HG.out rfl).take xs.length
        exact h1.drop (i + 1) _ (fun b off h _ => by injection h with h; injection h with h1 h2; subst h1; subst h2; simp [ePin])
      go_region_law (refine step_append_room_El (N := xs.length - 1) (n := i) (m := xs.length - (i + 1)) (c := xs.length + ys.length) (c' := xs.length + ys.length - (i + 1)) (A := some ⟨g, (i + 1) * 2, none⟩) rfl (.tmp 22) (.tmp 25) rfl tyPin HG.out hrd HM.out (by simp [Act.eval, Act.put]) (by simp [Act.eval, Act.put]) HN.out HR.out HT.out ?_; intro w2 hg2 hgr2 hs2)
      go_wp2_with (refine wpList_clear_El (d0 := xs.length - 1) rfl (.tmp 31) rfl tyPin hg2.out rfl (fun _ => rfl) HT2.out ?_; intro w3 hg3 hgr3 hs3)
      go_ret
      have hfin := hg3.out
      rw [show List.replicate 1 ePin.zero = [ePin.zero] from rfl, del_list xs ys i _ hi] at hfin
      refine ⟨_, rfl, .inr ⟨g, ePin.zero :: ys, ?_, hBg, ?_, hfin⟩, ?_, .inl rfl⟩
      · rw [length_delAt _ _ hi, List.length_cons, show xs.length - 1 + (ys.length + 1) = xs.length + ys.length from by omega]; rfl
      · rw [length_delAt _ _ hi, List.length_cons]; omega
      · exact grown_trans' (w_drew hgr2) hgr3

end Go.Proofs.Ythkenhbpimddpaa
