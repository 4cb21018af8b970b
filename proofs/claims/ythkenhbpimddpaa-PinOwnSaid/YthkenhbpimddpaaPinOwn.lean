/- Proved: for every list of pins, slots of hands, word and name the law PinOwn returns true, and each argument reads afterwards as it read before. Conditions: none beyond the statement's own. -/
import Derived.Test.YthkenhbpimddpaaRows
import Derived.Test.YthkenhbpimddpaaPinOwnB
import Derived.Test.YthkenhbpimddpaaOpen
namespace Go.Proofs.Ythkenhbpimddpaa
open Go.ChangeShapes Go.WideShapes Go.ChangeAt Go.RowKit
set_option linter.unusedVariables false

theorem pinOwn_own : ownKnob Try.prog.godebug = none := by kernel_rfl
theorem pinOwn_laidOut : laidOutB Try.prog = true := by kernel_rfl

set_option maxRecDepth 100000 in
theorem pinOwn_lifted (os : Os) (started : os.Started) (H : Type) (enc : TypeId × Value → H) :
    ReturnsInHanded {} Try.checked os 3 .any (Rows.pinOwnSpec.pre6 enc Try.prog Try.f3 Rows.pinOwnRow.domain false) (Rows.pinOwnSpec.post enc Try.prog Try.f3 false true false false) := by
  refine returnsInHanded_of_change_sized (C := Try.checked) pinOwn_own started (by kernel_rfl) Try.func3
    (ChangeSpec.witness6 (enc := enc) (C := Try.checked) false ⟨#[], #[.slice none 0 0, .slice none 0 0, .int .i64 0, .int .u64 0], []⟩ 8 (by kernel_rfl) (by kernel_rfl) (by kernel_rfl) (by kernel_rfl)) ?_
  intro W base args ds gs before hval0 hW hcnd hsz0 _
  have hval : ∀ (j : Nat) t v, Try.f3.params[j]? = some t → args[j]? = some v → Value.okWide Try.prog W .any base t v := hval0
  have hsz : (DataW.weightsEach Try.prog (Try.f3.params.toList ++ Rows.pinOwnSpec.plain.varTypes Try.prog) (ds ++ gs)).all (· ≤ reachBytes) = true := hsz0
  have hW' := hW
  obtain ⟨p, q, hA0, hV, rfl, hfz, hnd⟩ := hW
  have hA : DataW.TrodAll enc Try.prog W 0 (fun _ => true) true Try.f3.params.toList args.toList ds p := hA0
  rw [Try.params3] at hA hval hsz
  obtain ⟨v0, vs0, d0, ds0, p0, q0, hargs, rfl, rfl, h0, r0⟩ := trodAll_cons hA
  obtain ⟨v1, vs1, d1, ds1, p1, q1, rfl, rfl, rfl, h1, r1⟩ := trodAll_cons r0
  obtain ⟨v2, vs2, d2, ds2, p2, q2, rfl, rfl, rfl, h2, r2⟩ := trodAll_cons r1
  obtain ⟨v3, vs3, d3, ds3, p3, q3, rfl, rfl, rfl, h3, r3⟩ := trodAll_cons r2
  obtain ⟨rfl, rfl, rfl⟩ := trodAll_nil r3
  obtain rfl : args = #[v0, v1, v2, v3] := by cases args; simp_all
  obtain ⟨rfl, rfl⟩ := trodVars_none hV
  obtain ⟨a0, n0, c0, rfl⟩ := okWide_slice Try.underlying22 (hval 0 22 v0 rfl rfl)
  obtain ⟨a1, n1, c1, rfl⟩ := okWide_slice Try.underlying24 (hval 1 24 v1 rfl rfl)
  have k0 := h0
  have k1 := h1
  have lt0 : ∀ x ∈ p0, x.block < W.heap.size := by obtain ⟨m, hm⟩ := k0; exact DataW.trod_lt m _ _ _ hm
  have lt1 : ∀ x ∈ p1, x.block < W.heap.size := by obtain ⟨m, hm⟩ := k1; exact DataW.trod_lt m _ _ _ hm
  obtain ⟨f0, hf0⟩ := h0
  obtain ⟨f1, hf1⟩ := h1
  obtain ⟨xs, hx, hrx, _, hxc, _, hdx⟩ := open_El Try.underlying22 decPin (by simpa [Value.cells] using hf0)
  obtain ⟨ys, hy, hry, _, hyc, _, hdy⟩ := open_El Try.underlying24 decSlot (by simpa [Value.cells] using hf1)
  obtain ⟨a2, rfl, rfl, rfl, w2⟩ := open_int Try.underlying3 (hval 2 3 v2 rfl rfl) h2
  obtain ⟨a3, rfl, rfl, rfl, w3⟩ := open_int Try.underlying25 (hval 3 25 v3 rfl rfl) h3
  have b3 := bounds_u64 w3
  obtain ⟨n, rfl⟩ := Int.eq_ofNat_of_zero_le b3.1
  have s0 : xs.length * 16 ≤ 140737488355328 := by
    rcases hdx with hz | ⟨el, sp, he, hl⟩
    · omega
    · have h := sized_slice hsz (j := 0) (t := 22) (e := 29) rfl (by simpa using he) Try.underlying22
      rw [show Try.prog.bytesOf 29 = 16 from by kernel_rfl, hl] at h
      simp only [reachBytes] at h
      omega
  have s1 : ys.length * 24 ≤ 140737488355328 := by
    rcases hdy with hz | ⟨el, sp, he, hl⟩
    · omega
    · have h := sized_slice hsz (j := 1) (t := 24) (e := 32) rfl (by simpa using he) Try.underlying24
      rw [show Try.prog.bytesOf 32 = 24 from by kernel_rfl, hl] at h
      simp only [reachBytes] at h
      omega
  subst hx
  subst hy
  clear hA0 hval0
  refine (pinOwn_any a0 a1 c0 c1 xs ys a2 n W hrx hry s0 s1 (by omega)).mono fun e W' ⟨he, bel⟩ => ?_
  subst he
  exact ⟨_, rfl, _, _, _, [], _, [], hW', trodAll_mk1 (shut_bool Try.underlying4 _), (trodAll_cons_mk (Below.trod pinOwn_laidOut (by kernel_rfl) (of_decide_eq_true (by kernel_rfl)) k0 bel lt0) (trodAll_cons_mk (Below.trod pinOwn_laidOut (by kernel_rfl) (of_decide_eq_true (by kernel_rfl)) k1 bel lt1) (trodAll_cons_mk (shut_int Try.underlying3 w2) (trodAll_cons_mk (shut_int Try.underlying25 w3) trodAll_mk0)))), rfl, bel.frame _, fun h => by cases h⟩

theorem pinOwn_over : Rows.pinOwnRow.holds Try.pinned (OpenSpec.ofChange Rows.pinOwnSpec) :=
  OpenClaim.holds_of_wide 3 Try.f3 rfl rfl rfl rfl rfl rfl rfl ⟨rfl, rfl, rfl, rfl, rfl⟩ rfl rfl rfl rfl rfl (by kernel_rfl) Try.func3 (by kernel_rfl)
    (of_decide_eq_true (by kernel_rfl)) (by unfold Func.isWrapper; rw [if_neg (of_decide_eq_false (by kernel_rfl))]; exact ⟨rfl, rfl⟩)
    (fun os started H enc _ => pinOwn_lifted os started H enc)

/-- THE STATEMENT. -/
theorem pinOwn_holds : Rows.PinOwnSaid := pinOwn_over
#print axioms pinOwn_holds
end Go.Proofs.Ythkenhbpimddpaa
