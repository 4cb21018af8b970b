/- slices.Insert of one element into an own row. -/
import Derived.Test.YthkenhbpimddpaaCl
import Derived.Test.YthkenhbpimddpaaW5
namespace Go.Proofs.Ythkenhbpimddpaa
open Go.RowKit

/-- an own row behind a change: the row's new value, all else as it was -/
def OwnPost {α : Type} (L : El α) (e : Nat) (B : Nat) (v : Value) (w : World) (xs : List α) (en : Ending) (w' : World) : Prop :=
  ∃ v', en = .returned v' ∧ Own L e w' B v' xs ∧ w.grownBy w' v.ownBlock ∧ (v'.ownBlock = v.ownBlock ∨ ∃ k, v'.ownBlock = some k ∧ w.heap.size ≤ k)

section
variable {α : Type} {L : El α} {w w' : World} {xs ys zs news : List α} {A : Option Addr} {B B' e : Nat} {v : Value} {P : Program}
theorem grown_trans' {a b c : World} {row : Option Nat} (h : a.grownBy b row) (k : b.grownBy c row) : a.grownBy c row :=
  ⟨k.os.trans h.os, k.tape.trans h.tape, k.output.trans h.output, Nat.le_trans h.size k.size, fun i hi hne => (k.block i (Nat.lt_of_lt_of_le hi h.size) hne).trans (h.block i hi hne)⟩
/-- a second change of a row that is new -/
theorem grown_new {a b c : World} {row : Option Nat} {g : Nat} (h : a.grownBy b row) (k : b.grownBy c (some g)) (hg : a.heap.size ≤ g) : a.grownBy c row :=
  ⟨k.os.trans h.os, k.tape.trans h.tape, k.output.trans h.output, Nat.le_trans h.size k.size, fun i hi hne => (k.block i (Nat.lt_of_lt_of_le hi h.size) (fun e => by injection e with e; omega)).trans (h.block i hi hne)⟩
theorem grown_drewN {a b : World} {row : Option Nat} (h : a.grownBy b row) (n : Nat) : a.grownBy (b.drewN n) row := ⟨h.os, h.tape, h.output, h.size, h.block⟩
theorem grown_drew {a b : World} {row : Option Nat} (h : a.grownBy b row) : a.grownBy b.drew row := ⟨h.os, h.tape, h.output, h.size, h.block⟩
end

theorem w_drew {a b : World} {row : Option Nat} (h : a.drew.grownBy b row) : a.grownBy b row := ⟨h.os, h.tape, h.output, h.size, h.block⟩
theorem grown_none {a b : World} {row : Option Nat} (h : a.grownBy b none) : a.grownBy b row := ⟨h.os, h.tape, h.output, h.size, fun i hi _ => h.block i hi (by simp)⟩
theorem splice_mid {α : Type} (a b c b' : List α) (h : b'.length = b.length) : splice (a ++ (b ++ c)) a.length b' = a ++ (b' ++ c) := by
  unfold splice
  rw [List.take_left, h]
  congr 2
  rw [← List.append_assoc, ← List.length_append, List.drop_left]
theorem ins_grow' {α : Type} (a b ys : List α) (x z : α) : splice (splice (a ++ List.replicate (b.length + 1) z ++ ys) a.length [x]) (a.length + 1) b = a ++ x :: b ++ ys := by
  have e1 := splice_mid a [z] (List.replicate b.length z ++ ys) [x] rfl
  have e2 := splice_mid (a ++ [x]) (List.replicate b.length z) ys b (by simp)
  rw [List.replicate_succ, List.append_assoc, List.cons_append]
  simp only [List.singleton_append, List.append_assoc, List.length_append, List.length_cons, List.length_nil, Nat.zero_add] at e1 e2
  rw [e1, e2]
  simp
theorem ins_shift' {α : Type} (a b ys : List α) (c x y : α) : splice (splice (a ++ c :: (b ++ y :: ys)) (a.length + 1) (c :: b)) a.length [x] = a ++ x :: c :: b ++ ys := by
  have e2 := splice_mid (a ++ [c]) (b ++ [y]) ys (c :: b) (by simp)
  have e1 := splice_mid a [c] (c :: b ++ ys) [x] rfl
  simp only [List.singleton_append, List.append_assoc, List.length_append, List.length_cons, List.length_nil, Nat.zero_add, List.cons_append, List.nil_append] at e1 e2
  rw [e2, e1]
  simp
theorem ins_grow {α : Type} (xs : List α) (i : Nat) (x z : α) (ys : List α) (hi : i < xs.length) :
    splice (splice (xs.take i ++ List.replicate (xs.length + 1 - i) z ++ ys) i (List.take 1 [x])) (i + 1) ((xs.drop i).take (xs.length - i)) = insAt xs i x ++ ys := by
  have h := ins_grow' (xs.take i) (xs.drop i) ys x z
  rw [List.length_drop, List.length_take, Nat.min_eq_left (by omega), show xs.length - i + 1 = xs.length + 1 - i from by omega] at h
  rw [List.take_of_length_le (l := xs.drop i) (by simp)]
  exact h
theorem ins_shift {α : Type} (xs : List α) (i : Nat) (x y : α) (ys : List α) (hi : i < xs.length) :
    splice (splice (xs ++ y :: ys) (i + 1) (((xs ++ y :: ys).drop i |>.take (xs.length + 1 - i)).take (xs.length - i))) i (List.take 1 [x]) = insAt xs i x ++ ys := by
  have h0 : (((xs ++ y :: ys).drop i |>.take (xs.length + 1 - i)).take (xs.length - i)) = xs.drop i := by
    rw [List.take_take, Nat.min_eq_left (by omega), List.drop_append_of_le_length (by omega), List.take_append_of_le_length (by simp), List.take_of_length_le (by simp)]
  rw [h0]
  have hd : xs.drop i = xs[i] :: xs.drop (i + 1) := List.drop_eq_getElem_cons hi
  have h := ins_shift' (xs.take i) (xs.drop (i + 1)) ys xs[i] x y
  rw [← hd, List.length_take, Nat.min_eq_left (by omega)] at h
  have e0 : xs ++ y :: ys = xs.take i ++ xs[i] :: (xs.drop (i + 1) ++ y :: ys) := by
    rw [← List.cons_append, ← hd, ← List.append_assoc, List.take_append_drop]
  rw [e0]
  exact h

set_option maxRecDepth 100000 in
set_option maxHeartbeats 1000000 in
theorem insertPin (v : Value) (xs : List Pin) (i : Nat) (x : Pin) (w : World) (B vb : Nat) (hown : Own ePin 29 w B v xs) (hi : i ≤ xs.length)
    (hv : w.heap[vb]? = some (.cells (ePin.enc x).toArray 29 (0, 0))) (hne : v.ownBlock ≠ some vb) (hm : (xs.length + 1) * 16 ≤ 140737488355328) (hB : B ≤ w.heap.size) :
    Calls Try.prog 40 #[v, .int .i64 i, .slice (some ⟨vb, 0, none⟩) 1 1] w (OwnPost ePin 29 B v w (insAt xs i x)) := by
  have hr1 : Rd ePin w (some ⟨vb, 0, none⟩) [x] := Rd.of_block hv (by simp [El.flat])
  have hlen : xs.length + 1 ≤ 9223372036854775807 := by omega
  rcases hown with ⟨rfl, rfl⟩ | ⟨g, ys, rfl, hBg, hcap, hg⟩
  · obtain rfl : i = 0 := by simpa using hi
    go_enter Try.func40, Try.ntmps40
    go_wp2_with (at_builtin; refine wpList_append_Own rfl (.tmp 23) (.tmp 24) rfl tyPin (Own.nil (B := B)) hr1 rfl 1 1 rfl rfl hB (by simp [maxLen]) (by simp) ?_; intro v' w' hown' hgr hat)
    go_ret
    exact ⟨_, rfl, by simpa [insAt] using hown', hgr, hat.imp id fun h => ⟨_, h, Nat.le_refl _⟩⟩
  · by_cases hin : i = xs.length
    · subst hin
      have H1 : Own ePin 29 w B (.slice (some ⟨g, 0, none⟩) xs.length (xs.length + ys.length)) xs := .inr ⟨g, ys, rfl, hBg, hcap, hg⟩
      have hz : ((xs.length : Int) == (xs.length : Int)) = true := by simp
      have H2 : xs.length + ([x] : List Pin).length ≤ maxLen := by simp [maxLen]; omega
      have H3 : (xs.length + ([x] : List Pin).length) * 16 ≤ 140737488355328 := by simpa using hm
      have HG := Lib.hid hg
      have HV := Lib.hid hv
      clear hg hv
      go_enter Try.func40, Try.ntmps40
      go_wp2_with (at_builtin; refine wpList_append_Own rfl (.tmp 23) (.tmp 24) rfl tyPin H1 hr1 rfl 1 1 rfl rfl hB H2 H3 ?_; intro v' w' hown' hgr hat)
      all_goals
        go_ret
        exact ⟨_, rfl, by simpa [insAt] using hown', hgr, hat.imp id fun h => ⟨_, h, Nat.le_refl _⟩⟩
    · have hlt : i < xs.length := by omega
      have hz : ((i : Int) == (xs.length : Int)) = false := by simp; omega
      have hil : (i : Int) ≤ (xs.length : Int) := by omega
      have hi0 : (0 : Int) ≤ (i : Int) := by omega
      cases ys with
      | nil =>
        simp only [List.append_nil, List.length_nil, Nat.add_zero] at hg ⊢
        have hcapi : ¬ (xs.length = i) := by omega
        have hrt : Rd ePin w (some ⟨g, 0, none⟩) (xs.take i) := (Rd.of_block hg rfl).take i
        have hrd : Rd ePin w (some ⟨g, i * 2, none⟩) (xs.drop i) := (Rd.of_block hg rfl).drop i _ (fun b off h _ => by injection h with h; injection h with h1 h2; subst h1; subst h2; simp [ePin])
        have F1 : (xs.take i).length = i := by simp; omega
        have F2 : (xs.length : Int) + 1 - (i : Int) = ((xs.length + 1 - i : Nat) : Int) := by omega
        have F3 : i + (xs.length + 1 - i) = xs.length + 1 := by omega
        have F4 : xs.length + 1 ≤ maxLen := by simp [maxLen]; omega
        have F5 : Builtin.nextslicecap (xs.length + 1) xs.length * 16 ≤ 281474976710656 := growslice_fits (by omega) hm
        have F6 : (xs.length + 1 - i) * 16 ≤ 281474976710656 := by omega
        have HN1 : Hid (1 = Nat.min 1 (xs.length + 1 - i)) := by show 1 = Nat.min 1 (xs.length + 1 - i); simp only [Nat.min_def]; split <;> omega
        have HDL : Hid (xs.length - i = (xs.drop i).length) := by show xs.length - i = _; simp
        have HN2 : Hid (xs.length - i = Nat.min (xs.length - i) (xs.length - i)) := by show xs.length - i = Nat.min _ _; simp
        have HP : Hid (0 < xs.length - i → some (⟨w.heap.size, (i + 1) * 2, none⟩ : Addr) = some ⟨w.heap.size, (i + 1) * ePin.k, none⟩) := fun _ => rfl
        have HFT : Hid (∀ ys1 : List Pin, i + 1 + (xs.length - i) ≤ (splice (List.take i xs ++ List.replicate (xs.length + 1 - i) ePin.zero ++ ys1) i (List.take 1 [x])).length) := by
          intro ys1
          rw [length_splice _ _ _ (by simp; omega)]
          simp; omega
        have HF1 := Lib.hid F1
        have HF2 := Lib.hid F2
        have HF3 := Lib.hid F3
        have HG := Lib.hid hg
        have HV := Lib.hid hv
        clear hg hv F1 F2 F3
        go_enter Try.func40, Try.ntmps40
        go_wp2_with (first
          | (at_builtin; refine wpList_appendz_El rfl (.tmp 34) (.tmp 39) rfl tyPin (kn := .i64) Try.underlying3 hrt rfl (congrArg (Value.int .i64) HF2.out) HF1.out.symm (xs.length + 1) w.heap.size HF3.out rfl (by omega) F4 F6 F5 ?_
             intro ys1 w1 hg1 hc1 hgr1
             have hci : ¬ (xs.length + 1 + ys1.length = i) := by omega
             have hr2 := hr1.keep hgr1.size (fun b o u hb _ hu => hgr1.cell hu (by simp)))
          | (refine wpList_copy_El (d0 := i) (m := 1) rfl (.tmp 43) (.tmp 44) rfl tyPin hg1.out hr2 rfl rfl rfl HN1.out (fun _ => rfl) (by simp; omega) ?_
             intro w2 hg2 hgr2 hs2))
        have hw1 : IntKind.i64.wrap ((i : Int) + 1) = (i : Int) + 1 := by rw [IntKind.wrap_i64]; omega
        have hci1 : ¬ (xs.length + 1 + ys1.length = i + 1) := by omega
        have hb1 : (0 : Int) ≤ (i : Int) + 1 := by omega
        have hb2 : (i : Int) + 1 ≤ (xs.length : Int) + 1 := by omega
        have htn : ((i : Int) + 1).toNat = i + 1 := by omega
        have hrd2 := hrd.keep (Nat.le_trans hgr1.size hgr2.size) (fun b o u hb he hu => hgr2.cell (hgr1.cell hu (by simp)) (by obtain ⟨o', he⟩ := he; injection he with he; injection he with h1 h2; subst h1; simp; omega))
        go_region_law (refine step_copy_El (d0 := i + 1) (m := xs.length - i) (dp := some ⟨w.heap.size, (i + 1) * 2, none⟩) (dl := xs.length - i) (dc := xs.length + 1 + ys1.length - (i + 1)) (c := xs.length - i) rfl (.tmp 50) (.tmp 53) rfl tyPin hg2.out hrd2 HDL.out (by simp [Act.eval, Act.put]) (by simp [Act.eval, Act.put]) HN2.out HP.out (HFT.out ys1) ?_; intro w3 hg3 hgr3 hs3)
        go_wp2
        go_ret
        have hfin := hg3.out
        rw [ins_grow xs i x _ _ hlt] at hfin
        refine ⟨_, rfl, .inr ⟨w.heap.size, ys1, ?_, hB, ?_, hfin⟩, ?_, .inr ⟨w.heap.size, rfl, Nat.le_refl _⟩⟩
        · rw [length_insAt _ _ _ hi]; rfl
        · rw [length_insAt _ _ _ hi]; exact hc1.out
        · exact grown_new (grown_new (grown_none hgr1) hgr2 (Nat.le_refl _)) (w_drew hgr3) (Nat.le_refl _)
      | cons y ys =>
        have hcapi : ¬ (xs.length + (ys.length + 1) = i) := by omega
        have hcapi1 : ¬ (xs.length + (ys.length + 1) = i + 1) := by omega
        have hroom : decide (xs.length + (ys.length + 1) < xs.length + 1) = false := by simp
        have hw1 : IntKind.i64.wrap ((i : Int) + 1) = (i : Int) + 1 := by rw [IntKind.wrap_i64]; omega
        have hb1 : (0 : Int) ≤ (i : Int) + 1 := by omega
        have hb2 : (i : Int) + 1 ≤ (xs.length : Int) + 1 := by omega
        have hb3 : (i : Int) ≤ (xs.length : Int) + 1 := by omega
        have htn : ((i : Int) + 1).toNat = i + 1 := by omega
        have hvbg : vb ≠ g := fun h => hne (by simp [Value.ownBlock, h])
        have hov : ∀ (W : World) (la ca : Nat), W.heap[vb]? = w.heap[vb]? → W.heap[g]? = w.heap[g]? → (callFunc 88 #[.slice (some ⟨vb, 0, none⟩) 1 1, .slice (some ⟨g, (i + 1) * 2, none⟩) la ca]).run Try.prog W = .ok (.value (.bool false)) W := fun W la ca h1 h2 => by
          rw [run_callFunc_extern Try.func88 (by kernel_rfl) (by kernel_rfl) (by kernel_rfl) (e := Extern.SlicesOverlaps.overlaps #[22, 22] #[4]) (by kernel_rfl),
            run_overlaps_El tyPin (a := ⟨vb, 0, none⟩) (b := ⟨g, (i + 1) * 2, none⟩) hvbg (h1.trans hv) (h2.trans hg) (by simp [El.length_flat, ePin])]
          rfl
        have hov0 := fun la ca => hov w la ca rfl rfl
        have hrs : Rd ePin w (some ⟨g, i * 2, none⟩) ((xs ++ y :: ys).drop i |>.take (xs.length + 1 - i)) := ((Rd.of_block hg rfl).drop i _ (fun b off h _ => by injection h with h; injection h with h1 h2; subst h1; subst h2; simp [ePin])).take _
        have HDL : Hid (xs.length + 1 - i = ((xs ++ y :: ys).drop i |>.take (xs.length + 1 - i)).length) := by show xs.length + 1 - i = _; simp; omega
        have HN2 : Hid (xs.length - i = Nat.min (xs.length + 1 - i) (xs.length - i)) := by show xs.length - i = Nat.min _ _; simp only [Nat.min_def]; split <;> omega
        have HFT : Hid (i + 1 + (xs.length - i) ≤ (xs ++ y :: ys).length) := by show i + 1 + _ ≤ _; simp; omega
        have HN1 : Hid (1 = Nat.min 1 (xs.length + 1 - i)) := by show 1 = Nat.min 1 (xs.length + 1 - i); simp only [Nat.min_def]; split <;> omega
        have HFT1 : Hid (i + 1 ≤ (splice (xs ++ y :: ys) (i + 1) (((xs ++ y :: ys).drop i |>.take (xs.length + 1 - i)).take (xs.length - i))).length) := by
          show i + 1 ≤ _
          rw [length_splice _ _ _ (by simp; omega)]; simp; omega
        have HG := Lib.hid hg
        have HV := Lib.hid hv
        have HO := Lib.hid hov0
        simp only [List.length_cons] at hcap ⊢
        clear hg hv hov hov0
        go_enter Try.func40, Try.ntmps40
        go_wp2_with (simp only [HO.out])
        go_region_law (refine step_copy_El (d0 := i + 1) (m := xs.length - i) (dp := some ⟨g, (i + 1) * 2, none⟩) (dl := xs.length - i) (dc := xs.length + (ys.length + 1) - (i + 1)) (c := xs.length + (ys.length + 1) - i) rfl (.tmp 73) (.tmp 76) rfl tyPin HG.out hrs HDL.out (by simp [Act.eval, Act.put]) (by simp [Act.eval, Act.put]) HN2.out (fun _ => rfl) HFT.out ?_; intro w2 hg2 hgr2 hs2)
        have hr2 := hr1.keep hgr2.size (fun b o u hb he hu => hgr2.cell hu (by obtain ⟨o', he⟩ := he; injection he with he; injection he with h1 h2; subst h1; simp; exact hvbg))
        go_wp2_with (refine wpList_copy_El (d0 := i) (m := 1) rfl (.tmp 80) (.tmp 81) rfl tyPin hg2.out hr2 rfl rfl rfl HN1.out (fun _ => rfl) HFT1.out ?_; intro w3 hg3 hgr3 hs3)
        go_ret
        have hfin := hg3.out
        rw [ins_shift xs i x y ys hlt] at hfin
        refine ⟨_, rfl, .inr ⟨g, ys, ?_, hBg, ?_, hfin⟩, ?_, .inl rfl⟩
        · rw [length_insAt _ _ _ hi, show xs.length + 1 + ys.length = xs.length + (ys.length + 1) from by omega]; rfl
        · rw [length_insAt _ _ _ hi]; omega
        · exact grown_trans' (w_drew hgr2) hgr3

end Go.Proofs.Ythkenhbpimddpaa
