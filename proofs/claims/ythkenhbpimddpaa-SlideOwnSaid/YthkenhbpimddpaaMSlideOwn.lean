/- Proved: for every arena and all lists of words the law SlideOwn returns true, and each argument reads afterwards as it read before. Conditions: none beyond the statement's own. -/
import Derived.Test.YthkenhbpimddpaaRows
import Derived.Test.YthkenhbpimddpaaM5
namespace Go.Proofs.Ythkenhbpimddpaa
open Go.ChangeShapes Go.WideShapes Go.ChangeAt Go.RowKit
set_option linter.unusedVariables false

theorem slideOwn_own : ownKnob Try.prog.godebug = none := by kernel_rfl
theorem slideOwn_laidOut : laidOutB Try.prog = true := by kernel_rfl

set_option maxRecDepth 100000 in
theorem slideOwn_lifted (os : Os) (started : os.Started) (H : Type) (enc : TypeId × Value → H) :
    ReturnsInHanded {} Try.checked os 5 .any (Rows.slideOwnSpec.pre6 enc Try.prog Try.f5 Rows.slideOwnRow.domain false) (Rows.slideOwnSpec.post enc Try.prog Try.f5 false true false false) := by
  refine returnsInHanded_of_change_sized (C := Try.checked) slideOwn_own started (by kernel_rfl) Try.func5
    (ChangeSpec.witness6 (enc := enc) (C := Try.checked) false ⟨#[], #[.slice none 0 0, .slice none 0 0, .slice none 0 0], []⟩ 8 (by kernel_rfl) (by kernel_rfl) (by kernel_rfl) (by kernel_rfl)) ?_
  intro W base args ds gs before hval0 hW hcnd hsz0 _
  have hval : ∀ (j : Nat) t v, Try.f5.params[j]? = some t → args[j]? = some v → Value.okWide Try.prog W .any base t v := hval0
  have hsz : (DataW.weightsEach Try.prog (Try.f5.params.toList ++ Rows.slideOwnSpec.plain.varTypes Try.prog) (ds ++ gs)).all (· ≤ reachBytes) = true := hsz0
  have hW' := hW
  obtain ⟨p, q, hA0, hV, rfl, hfz, hnd⟩ := hW
  have hA : DataW.TrodAll enc Try.prog W 0 (fun _ => true) true Try.f5.params.toList args.toList ds p := hA0
  rw [Try.params5] at hA hval hsz
  obtain ⟨v0, vs0, d0, ds0, p0, q0, hargs, rfl, rfl, h0, r0⟩ := trodAll_cons hA
  obtain ⟨v1, vs1, d1, ds1, p1, q1, rfl, rfl, rfl, h1, r1⟩ := trodAll_cons r0
  obtain ⟨v2, vs2, d2, ds2, p2, q2, rfl, rfl, rfl, h2, r2⟩ := trodAll_cons r1
  obtain ⟨rfl, rfl, rfl⟩ := trodAll_nil r2
  obtain rfl : args = #[v0, v1, v2] := by cases args; simp_all
  obtain ⟨rfl, rfl⟩ := trodVars_none hV
  obtain ⟨a0, n0, c0, rfl⟩ := okWide_slice Try.underlying46 (hval 0 46 v0 rfl rfl)
  obtain ⟨a1, n1, c1, rfl⟩ := okWide_slice Try.underlying47 (hval 1 47 v1 rfl rfl)
  obtain ⟨a2, n2, c2, rfl⟩ := okWide_slice Try.underlying47 (hval 2 47 v2 rfl rfl)
  have k0 := h0
  have k1 := h1
  have k2 := h2
  have lt0 : ∀ x ∈ p0, x.block < W.heap.size := by obtain ⟨m, hm⟩ := k0; exact DataW.trod_lt m _ _ _ hm
  have lt1 : ∀ x ∈ p1, x.block < W.heap.size := by obtain ⟨m, hm⟩ := k1; exact DataW.trod_lt m _ _ _ hm
  have lt2 : ∀ x ∈ p2, x.block < W.heap.size := by obtain ⟨m, hm⟩ := k2; exact DataW.trod_lt m _ _ _ hm
  obtain ⟨f0, hf0⟩ := h0
  obtain ⟨f1, hf1⟩ := h1
  obtain ⟨f2, hf2⟩ := h2
  obtain ⟨xs, hx, hrx, hwx, hxc, hxm, hdx⟩ := open_El Try.underlying46 decU64 (by simpa [Value.cells] using hf0)
  obtain ⟨ys, hy, hry, _, hyc, _, hdy⟩ := open_El Try.underlying47 decInt (by simpa [Value.cells] using hf1)
  obtain ⟨zs, hz, hrz, _, hzc, _, hdz⟩ := open_El Try.underlying47 decInt (by simpa [Value.cells] using hf2)
  have s0 : xs.length * 8 ≤ 140737488355328 := by
    rcases hdx with hz | ⟨el, sp, he, hl⟩
    · omega
    · have h := sized_slice hsz (j := 0) (t := 46) (e := 25) rfl (by simpa using he) Try.underlying46
      rw [show Try.prog.bytesOf 25 = 8 from by kernel_rfl, hl] at h
      simp only [reachBytes] at h
      omega
  have s1 : ys.length * 8 ≤ 140737488355328 := by
    rcases hdy with hz | ⟨el, sp, he, hl⟩
    · omega
    · have h := sized_slice hsz (j := 1) (t := 47) (e := 3) rfl (by simpa using he) Try.underlying47
      rw [show Try.prog.bytesOf 3 = 8 from by kernel_rfl, hl] at h
      simp only [reachBytes] at h
      omega
  have s2 : zs.length * 8 ≤ 140737488355328 := by
    rcases hdz with hz | ⟨el, sp, he, hl⟩
    · omega
    · have h := sized_slice hsz (j := 2) (t := 47) (e := 3) rfl (by simpa using he) Try.underlying47
      rw [show Try.prog.bytesOf 3 = 8 from by kernel_rfl, hl] at h
      simp only [reachBytes] at h
      omega
  subst hx
  subst hy
  subst hz
  clear hA0 hval0
  refine (slideOwn_any a0 a1 a2 c0 c1 c2 xs ys zs W hrx hry hrz hxc hxm s0 s1 s2 hwx slides_any).mono fun e W' ⟨he, bel⟩ => ?_
  subst he
  exact ⟨_, rfl, _, _, _, [], _, [], hW', trodAll_mk1 (shut_bool Try.underlying4 _), (trodAll_cons_mk (Below.trod slideOwn_laidOut (by kernel_rfl) (of_decide_eq_true (by kernel_rfl)) k0 bel lt0) (trodAll_cons_mk (Below.trod slideOwn_laidOut (by kernel_rfl) (of_decide_eq_true (by kernel_rfl)) k1 bel lt1) (trodAll_cons_mk (Below.trod slideOwn_laidOut (by kernel_rfl) (of_decide_eq_true (by kernel_rfl)) k2 bel lt2) trodAll_mk0))), rfl, bel.frame _, fun h => by cases h⟩

theorem slideOwn_over : Rows.slideOwnRow.holds Try.pinned (OpenSpec.ofChange Rows.slideOwnSpec) :=
  OpenClaim.holds_of_wide 5 Try.f5 rfl rfl rfl rfl rfl rfl rfl ⟨rfl, rfl, rfl, rfl, rfl⟩ rfl rfl rfl rfl rfl (by kernel_rfl) Try.func5 (by kernel_rfl)
    (of_decide_eq_true (by kernel_rfl)) (by unfold Func.isWrapper; rw [if_neg (of_decide_eq_false (by kernel_rfl))]; exact ⟨rfl, rfl⟩)
    (fun os started H enc _ => slideOwn_lifted os started H enc)

/-- THE STATEMENT. -/
theorem slideOwn_holds : Rows.SlideOwnSaid := slideOwn_over
#print axioms slideOwn_holds
end Go.Proofs.Ythkenhbpimddpaa
