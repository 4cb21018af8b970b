/- Laws and walks that the claim's proof uses, one behind the other:
  Package slide: Slide: the walk.
  slices.Grow of nothing, slices.Concat of two.
  Package slide: Clean.
  Packages word, tint: New, long, Words.
  Package carry: Order.
  Package carry: what Copy computes, in plain Lean.
  Package carry: Copy: the walk. -/
import Derived.Deep.RegionHeld3
import Derived.Test.YthkenhbpimddpaaM3
namespace Go.Proofs.Ythkenhbpimddpaa
open Go.RowKit

theorem PlanOk.at_ {a : List Nat} {l : List Spot} {keep pinned L T : List Int} (h : PlanOk a l keep pinned L T) {k : Nat} (hk : k < keep.length) :
    ∃ (s : Spot) (t : Nat), keep[k]? = some (s.at_ : Int) ∧ T[k]? = some (t : Int) ∧ spotOf l (s.at_ : Int) = s ∧ (headsF l (s.at_ : Int)).isSome = true ∧ SpotOk a s ∧ t + s.head.len ≤ a.length := by
  have h1 : keep[k]? = some keep[k] := List.getElem?_eq_getElem hk
  have hkn := h.knows
  unfold known at hkn
  rw [List.all_eq_true] at hkn
  have h2 := hkn _ (List.mem_of_getElem? h1)
  obtain ⟨_, hok, hat, hf, _⟩ := spotOf_ok h.all h2
  have hTl : T.length = keep.length := by rw [← h.fits'.len, h.fits.len]
  have h3 : T[k]? = some (T[k]'(by omega)) := List.getElem?_eq_getElem _
  have h4 : L[k]? = some ((spotOf l keep[k]).head.len : Int) := by rw [h.longs, List.getElem?_map, h1]; rfl
  have h5 := h.fits'.at_ h3 h4
  obtain ⟨t, ht⟩ := Int.eq_ofNat_of_zero_le h5.1
  refine ⟨spotOf l keep[k], t, by rw [hat]; exact h1, by rw [h3, ht], by rw [hat], by rw [hat]; exact h2, hok, by omega⟩
def SlideRet (w : World) (out : List Nat) (to : List Int) (r : Int) (en : Ending) (w' : World) : Prop :=
  ∃ v u, en = .returned (.tuple #[v, u, .int .i64 r]) ∧ Own eU64 25 w' w.heap.size v out ∧ Own eInt 3 w' w.heap.size u to ∧ Below w.heap.size w w'
/-- an object, told by how long its rows are -/
def AtLen (w : World) (r b : Nat) (en : Ending) (w' : World) : Prop :=
  ∃ (tg : Int) (A1 : Option Addr) (c1 : Nat) (A2 : Option Addr) (c2 : Nat) (fr : Bool), en = .returned (.tuple #[.agg #[.int .i64 tg, .slice A1 r c1, .slice A2 b c2, .bool fr], .int .i64 0]) ∧ Below w.heap.size w w'
theorem AtRet.len {w : World} {a : List Nat} {f : Int → Option Int} {s : Spot} {en : Ending} {w' : World} (hs : SpotOk a s) (h : AtRet w (objOf a f s) 0 en w') : AtLen w s.head.refs.toNat s.head.body.toNat en w' := by
  obtain ⟨u, rfl, ⟨v1, v2, rfl, h1, h2⟩, hb⟩ := h
  obtain ⟨A1, c1, rfl, _, _, _⟩ := h1.rd
  obtain ⟨A2, c2, rfl, _, _, _⟩ := h2.rd
  refine ⟨s.head.tag, A1, c1, A2, c2, s.head.free, ?_, hb⟩
  simp only [objOf, List.length_map, refsOf_length hs, bodyOf_length hs]
/-- At, at a word where an object begins: how long its rows are -/
theorem walkAtLen (A : Option Addr) (c : Nat) (a : List Nat) (s : Spot) (w : World) (hp : Rd eU64 w A a) (hac : a.length ≤ c) (hm : c ≤ maxLen) (ha : Words64 a) (hc : (walkCheck a).2 = 0) (hs : SpotOk a s)
    (h : (headsF (walkSpots a).1 (s.at_ : Int)).isSome = true) (h3 : spotOf (walkSpots a).1 (s.at_ : Int) = s) :
    Calls Try.prog 59 #[.slice A a.length c, .int .i64 (s.at_ : Int)] w (AtLen w s.head.refs.toNat s.head.body.toNat) := by
  have := walkAt_any A c a (s.at_ : Int) w hp hac hm ha
  rw [walkAt_spot hc h, h3] at this
  exact this.mono fun e w' h => h.len hs

set_option maxRecDepth 100000 in
set_option maxHeartbeats 4000000 in
theorem slideSlide_any (A D E : Option Addr) (c d f : Nat) (a : List Nat) (keep pinned : List Int) (w : World) (hp : Rd eU64 w A a) (hq : Rd eInt w D keep) (hr : Rd eInt w E pinned) (hac : a.length ≤ c) (hm : c ≤ maxLen) (hkm : keep.length ≤ maxLen) (hpm : pinned.length ≤ maxLen) (ha : Words64 a) :
    Calls Try.prog 54 #[.slice A a.length c, .slice D keep.length d, .slice E pinned.length f] w (SlideRet w (slideSlide a keep pinned).1 (slideSlide a keep pinned).2.1 (slideSlide a keep pinned).2.2) := by
  have HQ := Lib.hid (planTo_any A D E c d f a keep pinned w hp hq hr hac hm hkm hpm ha)
  by_cases h0 : (planTo a keep pinned).2 = 0
  · obtain ⟨h1, hok⟩ := planTo_ok h0
    have hgo := planGaps_ok h1 (by rw [← hok.slid]; exact hok.fits')
    have HVn := Lib.hid (fun h => slideSlide_h (a := a) (keep := keep) (pinned := pinned) h0 h)
    have HVs := Lib.hid (fun out h => slideSlide_ok (a := a) (keep := keep) (pinned := pinned) (out := out) h0 h)
    have HG : Hid (∀ W, Rd eU64 W A a → Rd eInt W D keep → Rd eInt W E pinned → Calls Try.prog 95 #[.slice A a.length c, .slice D keep.length d, .slice E pinned.length f] W (OwnRet1 eRun 170 W (planGaps a keep pinned).1 (.int .i64 0))) := fun W h1 h2 h3 => by
      have := planGaps_any A D E c d f a keep pinned W h1 h2 h3 hac hm hkm hpm ha
      rw [hgo.1] at this; exact this
    have HAT : Hid (∀ W (s : Spot), Rd eU64 W A a → SpotOk a s → (headsF (walkSpots a).1 (s.at_ : Int)).isSome = true → spotOf (walkSpots a).1 (s.at_ : Int) = s → Calls Try.prog 59 #[.slice A a.length c, .int .i64 (s.at_ : Int)] W (AtLen W s.head.refs.toNat s.head.body.toNat)) := fun W s h1 h2 h3 h4 => walkAtLen A c a s W h1 hac hm ha hok.check h2 h3 h4
    obtain ⟨l, hl⟩ : ∃ l, (walkSpots a).1 = l := ⟨_, rfl⟩
    obtain ⟨L, hL⟩ : ∃ L, (planLongs a keep pinned).1 = L := ⟨_, rfl⟩
    obtain ⟨T, hT⟩ : ∃ T, (planTo a keep pinned).1 = T := ⟨_, rfl⟩
    obtain ⟨R, hR⟩ : ∃ R, (planGaps a keep pinned).1 = R := ⟨_, rfl⟩
    rw [h0] at HQ
    rw [hT] at HQ
    rw [hl] at HAT
    rw [hl, hT] at HVn HVs
    rw [hR] at HVs HG hgo
    rw [hl, hL, hT] at hok
    have HOK := Lib.hid hok
    have HGO := Lib.hid hgo.2
    have hsm := hok.small
    have hTl : T.length = keep.length := by rw [← hok.fits'.len, hok.fits.len]
    have hk256 : keep.length ≤ 256 := (planLongs_ok h1).2.1
    clear h0 h1 hok hgo hl hL hT hR
    have hmk := fun W => run_makeMap (P := Try.prog) 116 W
    have hmk2 := fun W => run_make_El (w := W) tyU64 a.length (by omega) (by simp [maxLen]; omega)
    unfold maxLen at hm
    go_enter Try.func54, Try.ntmps54
    go_wp2_with (first
      | (go_at_call 94; refine HQ.out.mono ?_; rintro e w1 ⟨v, rfl, hown, hb1⟩
         have hrd := hown.rd
         obtain ⟨A', c', rfl, _, _, hrd⟩ := hrd)
      | (refine wpList_mput (enc := encU) rfl (.tmp 37) _ _ (.inr rfl) Try.underlying116 Try.underlying25 (MapIs.new _) rfl 0 rfl 0 rfl ?_; intro w2 hM2 hgr2))
    have hbm : Below w1.heap.size w1 w2 := ((Below.refl _ _).alloc (Nat.le_refl _) _).grown hgr2 (alloc_le _ _) (fun g hg => by injection hg with hg; omega)
    go_loopw [41] (fun i wr => ∃ (k : Nat) (F0 : Int → Option Nat), k ≤ keep.length ∧ i = .int .i64 k ∧ Hid (nowGo (keep.drop k) (T.drop k) F0 = nowF keep T) ∧ MapIs .u64 encU wr w1.heap.size F0 ∧ Below w1.heap.size w1 wr) (fun i _ => keep.length - (intOf i).toNat)
    case atStart => exact ⟨0, _, by omega, rfl, rfl, hM2, hbm⟩
    case round =>
      obtain ⟨k, F0, hk, rfl, hF, hM, hb2⟩ := hrel
      by_cases hlt : k < keep.length
      · obtain ⟨s, t, hx, hy, _, _, hsp, hfit⟩ := HOK.out.at_ hlt
        have hb02 : Below w.heap.size w wr := hb1.trans (hb2.mono hb1.size)
        obtain ⟨b5, off5, rfl, hlt5, cx⟩ := (hq.below hb02).int hx
        obtain ⟨b6, off6, rfl, hlt6, cy⟩ := (hrd.below hb2).int hy
        have HS := Lib.hid (nowGo_at hx hy F0)
        have hat := hsp.lt
        have hk0 : (0 : Int) ≤ (k : Int) := by omega
        have hk1 : (k : Int) < (T.length : Int) := by omega
        have H1 : Hid (nowGo (keep.drop (k + 1)) (T.drop (k + 1)) (fput F0 ((s.at_ : Int) + 1) (t + 1)) = nowF keep T) := by show _ = _; rw [← hF.out, HS.out]; rfl
        clear hx hy hsp HS
        go_wp2_with (refine wpList_mput (enc := encU) rfl (.tmp 46) _ _ (.inl rfl) Try.underlying116 Try.underlying25 hM rfl _ (by rfl) (t + 1) (by rfl) ?_; intro w3 hM3 hgr3)
        go_roundw
        case rel => exact ⟨k + 1, _, by omega, by go_num, H1, hM3, hb2.grown hgr3 hb2.size (fun g hg => by injection hg with hg; omega)⟩
        case measure => simp [intOf]; omega
      · have H1 : Hid (F0 = nowF keep T) := by show _ = _; rw [← hF.out, nowGo_end hlt]
        obtain ⟨wo, rfl⟩ : ∃ wo : World, wo = wr := ⟨_, rfl⟩
        rw [H1.out] at hM
        clear H1 hF
        go_wp2_with fail
        clear hlt hk
        have q3 := heap_alloc_new wo (.cells (eU64.flat (List.replicate a.length eU64.zero)).toArray 25)
        have hM3 := hM.alloc (.cells (eU64.flat (List.replicate a.length eU64.zero)).toArray 25)
        have hb3 := hb2.alloc hb2.size (.cells (eU64.flat (List.replicate a.length eU64.zero)).toArray 25)
        have hml := hM.lt
        have hg1 : w1.heap.size ≤ wo.heap.size := hb2.size
        generalize hw3 : wo.alloc (.cells (eU64.flat (List.replicate a.length eU64.zero)).toArray 25) = w3 at q3 hM3 hb3 ⊢
        generalize wo.heap.size = g at q3 hml hg1 ⊢
        clear hw3 hM hb2 hmk hmk2
        have hb03 : Below w.heap.size w w3 := hb1.trans (hb3.mono hb1.size)
        have hsg := hb1.size
        go_loopw [62] (fun i wr => ∃ (k : Nat) (zs : List Nat), k ≤ keep.length ∧ i = .int .i64 k ∧ zs.length = a.length ∧ Hid (slideGo a l (nowF keep T) keep T (List.replicate a.length 0) = slideGo a l (nowF keep T) (keep.drop k) (T.drop k) zs) ∧ wr.heap[g]? = some (.cells (eU64.flat zs).toArray 25 (0, 0)) ∧ GrownS (fun i => i = g) w3 wr) (fun i _ => keep.length - (intOf i).toNat)
        case atStart => exact ⟨0, List.replicate a.length 0, by omega, rfl, by simp, by simp [Hid], q3, GrownS.refl _ _⟩
        case round =>
          obtain ⟨k, zs, hk, rfl, hzl, HZ, qz, hG⟩ := hrel
          have hbr1 : Below w1.heap.size w1 wr := hb3.trans (hG.toBelow hb3.size (fun g' hg => by omega))
          have hbr : Below w.heap.size w wr := hb1.trans (hbr1.mono hb1.size)
          by_cases hlt : k < keep.length
          · obtain ⟨s, t, hx, hy, hso, hhd, hsp, hfit⟩ := HOK.out.at_ hlt
            obtain ⟨b5, off5, rfl, hlt5, cx⟩ := (hq.below hbr).int hx
            have HX := Lib.hid hx
            have HY := Lib.hid hy
            have HSO := Lib.hid hso
            have HSP := Lib.hid hsp
            have HA := Lib.hid (HAT.out wr s (hp.below hbr) hsp hhd hso)
            have hrl := refsOf_length hsp
            have hbl := bodyOf_length hsp
            obtain ⟨n1, n2, n3, n4, n5, _⟩ := headCheck_ok hsp.check
            have hat := hsp.fits
            have hlt9 := hsp.lt
            clear hx hy hso hhd hsp
            obtain ⟨at_, r, b, tg, fr⟩ := s
            simp only at n1 n2 n3 n4 n5 cx hrl hbl HA
            obtain ⟨r, rfl⟩ := Int.eq_ofNat_of_zero_le n1
            obtain ⟨b, rfl⟩ := Int.eq_ofNat_of_zero_le n2
            simp only [Head.len, Int.toNat_natCast] at hfit hat hrl hbl hlt9 HA
            have hk0 : (0 : Int) ≤ (k : Int) := by omega
            have hk1 : (k : Int) < (T.length : Int) := by omega
            go_wp2_with (go_at_call 59; refine HA.out.mono ?_; rintro e w5 ⟨ot, A8, c8, A9, c9, ofr, rfl, hb5⟩)
            obtain ⟨b6, off6, rfl, hlt6, cy⟩ := ((hrd.below hbr1).below hb5).int HY.out
            go_quiet (fail)
            have hHd : Hid ((a.drop at_).take (1 + r + b) = a.getD at_ 0 :: (refsOf a ⟨at_, ⟨r, b, tg, fr⟩⟩ ++ bodyOf a ⟨at_, ⟨r, b, tg, fr⟩⟩)) := row_words HSP.out
            have HRO : Hid (rowOf a (nowF keep T) (spotOf l (at_ : Int)) = (mapRefs (nowF keep T) (refsOf a ⟨at_, ⟨r, b, tg, fr⟩⟩)).map fun D => a.getD at_ 0 :: (D ++ bodyOf a ⟨at_, ⟨r, b, tg, fr⟩⟩)) := by show _ = _; rw [HSO.out]; rfl
            generalize refsOf a ⟨at_, ⟨r, b, tg, fr⟩⟩ = rs at *
            generalize bodyOf a ⟨at_, ⟨r, b, tg, fr⟩⟩ = bd at *
            generalize a.getD at_ 0 = hd at *
            have qz5 := heap_below qz hb5
            have hg5 : g < w5.heap.size := (Array.getElem?_eq_some_iff.1 qz5).1
            have qz6 : ((w5.alloc (.cells #[.int .i64 ot, .slice A8 r c8, .slice A9 b c9, .bool ofr] 118)).drewN nq).heap[g]? = _ := heap_alloc_keep qz5
            have hp6 : Rd eU64 ((w5.alloc (.cells #[.int .i64 ot, .slice A8 r c8, .slice A9 b c9, .bool ofr] 118)).drewN nq) (Option.map (fun x => x.add at_) A) (a.drop at_) := ((((hp.below hbr).below hb5).alloc _).drewN nq).drop at_ _ (fun b off hA _ => by subst hA; simp [eU64, Addr.add_lit])
            have qb6 : ((w5.alloc (.cells #[.int .i64 ot, .slice A8 r c8, .slice A9 b c9, .bool ofr] 118)).drewN nq).heap[w5.heap.size]? = _ := heap_alloc_new w5 _
            have hG6 : GrownS (fun i => i = g) w3 ((w5.alloc (.cells #[.int .i64 ot, .slice A8 r c8, .slice A9 b c9, .bool ofr] 118)).drewN nq) := ((hG.below hb5).alloc _).drewN nq
            have HM : Hid (1 + r + b = Nat.min (a.length - at_) (t + 1 + r + b - t)) := by show 1 + r + b = min (a.length - at_) (t + 1 + r + b - t); omega
            have HN : Hid (a.length - at_ = (a.drop at_).length) := by simp [Hid]
            have HF : Hid (t + (1 + r + b) ≤ zs.length) := by show _ ≤ _; omega
            clear qz5
            go_wp2_with (refine wpList_copy_El (d0 := t) (m := 1 + r + b) rfl (.tmp 92) (.tmp 95) rfl tyU64 qz6 hp6 HN.out rfl rfl HM.out (fun _ => by simp [eU64]) HF.out ?_; intro w6 hz6 hgr6 hs6
                         have hq9 : w5.heap.size < ((w5.alloc (.cells #[.int .i64 ot, .slice A8 r c8, .slice A9 b c9, .bool ofr] 118)).drewN nq).heap.size := (Array.getElem?_eq_some_iff.1 qb6).1
                         have qb : w6.heap[w5.heap.size]? = some (.cells #[.int .i64 ot, .slice A8 r c8, .slice A9 b c9, .bool ofr] 118 (0, 0)) := (hgr6.block _ hq9 (fun e => by simp at e; omega)).trans qb6
                         have cb1 : w6.cell? ⟨w5.heap.size, 1, none⟩ = some (.slice A8 r c8) := by rw [bcells qb 1]; rfl)
            have hM6 := hM3.keepS (hG6.grown hgr6 (fun g' h => .inl (by injection h with h; exact h.symm))) (by omega)
            have hG7 := hG6.grown hgr6 (fun g' h => .inl (by injection h with h; exact h.symm))
            clear qz6 hp6 qb6 hG6 HM HN HF
            obtain ⟨w5', hw5⟩ : ∃ w, w = wr := ⟨wr, rfl⟩
            go_loopw [100] (fun i wr => ∃ (j : Nat) (D zs' : List Nat), j ≤ r ∧ i = .int .i64 j ∧ D.length = j ∧ Hid (mapRefs (nowF keep T) rs = (mapRefs (nowF keep T) (rs.drop j)).map (D ++ ·)) ∧ Hid (zs' = splice zs t (hd :: (D ++ rs.drop j ++ bd))) ∧ wr.heap[g]? = some (.cells (eU64.flat zs').toArray 25 (0, 0)) ∧ GrownS (fun i => i = g) w6 wr) (fun i _ => r - (intOf i).toNat)
            case atStart => exact ⟨0, [], _, by omega, rfl, rfl, by simp [Hid], by show _ = _; rw [hHd.out]; simp, hz6.out, GrownS.refl _ _⟩
            case round =>
              obtain ⟨j, D, zs', hj, rfl, hDj, hMR, hZS, q7, hG8⟩ := hrel
              by_cases hlj : j < r
              · obtain ⟨v, hv⟩ : ∃ v, rs[j]? = some v := ⟨rs[j]'(by omega), List.getElem?_eq_getElem _⟩
                have hrow := row_step (hd := hd) (bd := bd) (x := 0) hDj hv
                have hcl : (hd :: (D ++ rs.drop j ++ bd)).length = 1 + r + b := by simp [hDj]; omega
                have hzg : zs'[t + (1 + j)]? = some v := by rw [hZS.out, splice_get (by omega) (by omega), hrow.2]
                have c9' := own_u64 q7 hzg
                have f9' : wr.frozen? ⟨g, t + (1 + j), none⟩ = false := own_free q7
                have hM7 := hM6.keepS hG8 (by omega)
                have HST := Lib.hid (fun x : Nat => store_u64 (x := x) q7 (by rw [hZS.out, splice_len (by omega)]; omega : t + (1 + j) < zs'.length))
                have HSTE : Hid (∀ x : Nat, zs'.set (t + (1 + j)) x = splice zs t (hd :: (D ++ [x] ++ rs.drop (j + 1) ++ bd))) := fun x => by rw [hZS.out, splice_set (by omega) (by omega), (row_step (hd := hd) (bd := bd) (x := x) hDj hv).1]
                have HVV := Lib.hid hv
                clear hrow hzg hv
                cases hU : nowF keep T (v : Int) with
                | none =>
                  have HU := Lib.hid hU
                  have HV : Hid (slideSlide a keep pinned = ([], [], 8)) := HVn.out (by
                    rw [HZ.out]
                    refine slideGo_none HX.out HY.out ?_
                    rw [HRO.out, hMR.out, mapRefs_none HVV.out hU]; rfl)
                  clear hU
                  go_wp2_with (at_lookup; refine wpList_look rfl (.tmp 104) (.tmp 109) true rfl Try.underlying116 Try.underlying25 (zeroU64 _) hM7 rfl _ rfl (.tuple #[.int .u64 0, .bool false]) (by rw [HU.out]; rfl) ?_)
                  go_ret3
                  have hGa := hG7.trans (hG8.weak (fun g' h _ => h))
                  exact ⟨_, _, by rw [HV.out]; rfl, by rw [HV.out]; exact Own.nil, by rw [HV.out]; exact Own.nil, hb03.trans (hGa.toBelow hb03.size (fun g' h => by omega))⟩
                | some x =>
                  have HU := Lib.hid hU
                  have HMR : Hid (mapRefs (nowF keep T) rs = (mapRefs (nowF keep T) (rs.drop (j + 1))).map ((D ++ [x]) ++ ·)) := by
                    show _ = _
                    rw [hMR.out, mapRefs_some HVV.out hU, Option.map_map]
                    congr 1
                    funext z
                    simp
                  clear hU
                  go_wp2_with (at_lookup; refine wpList_look rfl (.tmp 104) (.tmp 109) true rfl Try.underlying116 Try.underlying25 (zeroU64 _) hM7 rfl _ rfl (.tuple #[.int .u64 x, .bool true]) (by rw [HU.out]; rfl) ?_)
                  go_roundw
                  case rel => exact ⟨j + 1, D ++ [x], _, by omega, by go_num, by simp [hDj], HMR, by show _ = _; rw [HSTE.out], HST.out x, hG8.setCell (.inl rfl) _⟩
                  case measure => simp [intOf]; omega
              · have hjr : j = r := by omega
                have hdr : rs.drop j = [] := List.drop_of_length_le (by omega)
                have HRS : Hid (rowOf a (nowF keep T) (spotOf l (at_ : Int)) = some (hd :: (D ++ bd))) := by
                  show _ = _
                  rw [HRO.out, hMR.out, hdr]
                  simp [mapRefs]
                have H2 : Hid (slideGo a l (nowF keep T) keep T (List.replicate a.length 0) = slideGo a l (nowF keep T) (keep.drop (k + 1)) (T.drop (k + 1)) zs') := by
                  show _ = _
                  rw [HZ.out, slideGo_some HX.out HY.out HRS.out, hZS.out, hdr]
                  simp
                have H3 : zs'.length = a.length := by
                  rw [hZS.out, splice_len (by simp [hDj, hdr]; omega)]; exact hzl
                have hGa := hG7.trans (hG8.weak (fun g' h _ => h))
                clear hdr
                go_wp2_with fail
                go_roundw
                case rel => exact ⟨k + 1, zs', by omega, by go_num, H3, H2, q7, hGa⟩
                case measure => simp [intOf]; omega
          · have H1 : Hid (slideGo a l (nowF keep T) keep T (List.replicate a.length 0) = some zs) := by show _ = _; rw [HZ.out, slideGo_end hlt]
            have HV := Lib.hid (HVs.out zs H1.out)
            obtain ⟨w4, rfl⟩ : ∃ wo : World, wo = wr := ⟨_, rfl⟩
            go_wp2_with (go_at_call 95; refine (HG.out w4 (hp.below hbr) (hq.below hbr) (hr.below hbr)).mono ?_; rintro e w7 ⟨v7, rfl, hown7, hb7⟩
                         have hrd7 := hown7.rd
                         obtain ⟨A7, c7, rfl, _, _, hrd7⟩ := hrd7)
            have hG7 : GrownS (fun i => i = g) w3 w7 := hG.below hb7
            have qz7 := heap_below qz hb7
            have hR256 : R.length ≤ 257 := by have := HGO.out.2; omega
            have hown1 := hown
            rw [hTl] at hown1
            go_loopw [131] (fun i wr => ∃ (k : Nat) (zs2 : List Nat), k ≤ R.length ∧ i = .int .i64 k ∧ Hid (zs2 = layGaps (R.take k) zs) ∧ wr.heap[g]? = some (.cells (eU64.flat zs2).toArray 25 (0, 0)) ∧ GrownS (fun i => i = g) w7 wr) (fun i _ => R.length - (intOf i).toNat)
            case atStart => exact ⟨0, zs, by omega, rfl, by simp [Hid, layGaps], qz7, GrownS.refl _ _⟩
            case round =>
              obtain ⟨k, zs2, hk2, rfl, hZ2, q8, hG8⟩ := hrel
              by_cases hlk : k < R.length
              · obtain ⟨x, hx⟩ : ∃ x, R[k]? = some x := ⟨R[k], List.getElem?_eq_getElem hlk⟩
                have hA7 : ∀ q, A7 = some q → ¬ q.block = g := fun q h => by
                  subst h
                  have h1 := (hown7.lt q.block rfl).1
                  have h2 := (Array.getElem?_eq_some_iff.1 qz).1
                  omega
                obtain ⟨b7, off7, rfl, hlt7, d0, d1⟩ := (hrd7.keepS hG8 hA7).run hx
                have hxo := HGO.out.1 x (List.mem_of_getElem? hx)
                have HLG := Lib.hid (layGaps_at hx zs)
                clear hx hA7
                obtain ⟨xa, xl⟩ := x
                obtain ⟨x1, x2, x3⟩ := hxo
                simp only at x1 x2 x3 d0 d1
                obtain ⟨xa, rfl⟩ := Int.eq_ofNat_of_zero_le x1
                have hz2l : zs2.length = a.length := by rw [hZ2.out, layGaps_len]; exact hzl
                have HW : Hid (∀ W, Calls Try.prog 60 #[.agg #[.int .i64 0, .int .i64 (IntKind.i64.wrap (xl - 1)), .int .i64 0, .bool true]] W (Ret (.tuple #[.int .u64 (gapWord xl : Int), .int .i64 (headCheck ⟨0, xl - 1, 0, true⟩)]) W)) := fun W => by
                  have := headWord_any ⟨0, xl - 1, 0, true⟩ W
                  rw [show IntKind.i64.wrap (xl - 1) = xl - 1 by rw [IntKind.wrap_i64]; omega]
                  rw [gapWord_eq x2 (by omega)] at this; exact this
                have hgw := (Array.getElem?_eq_some_iff.1 q8).1
                go_wp2_with fail
                have q9 := heap_alloc_keep (o' := .cells #[.int .i64 (xa : Int), .int .i64 xl] 170) q8
                have qb9 := heap_alloc_new wr (.cells #[.int .i64 (xa : Int), .int .i64 xl] 170)
                have hG9 := hG8.alloc (.cells #[.int .i64 (xa : Int), .int .i64 xl] 170)
                generalize hW9 : wr.alloc (.cells #[.int .i64 (xa : Int), .int .i64 xl] 170) = w9 at q9 qb9 hG9 ⊢
                generalize wr.heap.size = gb at qb9 hgw ⊢
                have hgb9 : gb < w9.heap.size := (Array.getElem?_eq_some_iff.1 qb9).1
                have hg9 : g < w9.heap.size := (Array.getElem?_eq_some_iff.1 q9).1
                have e0 : w9.cell? ⟨gb, 0, none⟩ = some (.int .i64 (xa : Int)) := by rw [bcells qb9 0]; rfl
                have e1 : w9.cell? ⟨gb, 1, none⟩ = some (.int .i64 xl) := by rw [bcells qb9 1]; rfl
                have hx0 : (0 : Int) ≤ (xa : Int) := by omega
                have hx1 : (xa : Int) < (a.length : Int) := by omega
                obtain ⟨zo, hzo⟩ : ∃ zo, zs2[xa]? = some zo := ⟨zs2[xa]'(by omega), List.getElem?_eq_getElem _⟩
                have HZO := Lib.hid hzo
                have HST := Lib.hid (fun (W : World) (h : W.heap[g]? = some (.cells (eU64.flat zs2).toArray 25 (0, 0))) => store_u64 (x := gapWord xl) (i := xa) h (by omega))
                have hgg : g ≠ gb := by omega
                clear hW9 hG8 q8 d0 d1 hrd7 hzo
                go_region_held3 (fun w' => w'.cell? ⟨gb, 0, none⟩ = some (.int .i64 (xa : Int)) ∧ w'.cell? ⟨gb, 1, none⟩ = some (.int .i64 xl)) (first | exact ⟨e0, e1⟩ | exact ⟨s0, s1⟩ | exact ⟨(cell_far hgg).trans s0, (cell_far hgg).trans s1⟩)
                  (first | (go_at_call 60; refine (HW.out _).mono ?_; rintro e w8 ⟨rfl, hb8⟩
                            have hf8 : w8.frozen? ⟨g, xa, none⟩ = false := own_free (heap_below (w := w9.drew) q9 hb8)
                            have hq8 := Lib.hid (heap_below (w := w9.drew) q9 hb8)
                            have hc8 := own_u64 hq8.out HZO.out
                            have s0 : w8.cell? ⟨gb, 0, none⟩ = some (.int .i64 (xa : Int)) := by rw [bcells (heap_below (w := w9.drew) qb9 hb8) 0]; rfl
                            have s1 : w8.cell? ⟨gb, 1, none⟩ = some (.int .i64 xl) := by rw [bcells (heap_below (w := w9.drew) qb9 hb8) 1]; rfl))
                have HL2 : Hid (zs2.set xa (gapWord xl) = layGaps (R.take (k + 1)) zs) := by show _ = _; rw [HLG.out, hZ2.out]; rfl
                go_wp2_with fail
                go_roundw
                case rel => exact ⟨k + 1, _, by omega, by go_num, HL2, HST.out _ hq8.out, ((hG9.drew).below hb8).setCell (.inl rfl) _⟩
                case measure => simp [intOf]; omega
              · have hz2l : zs2.length = a.length := by rw [hZ2.out, layGaps_len]; exact hzl
                have HL2 : Hid (layGaps R zs = zs2) := by show _ = _; rw [hZ2.out, List.take_of_length_le (by omega)]
                have hGa := hG7.trans (hG8.weak (fun g' h _ => h))
                have hba := hb3.trans (hGa.toBelow hb3.size (fun g' h => by omega))
                go_wp2_with fail
                go_ret3
                exact ⟨_, _, by rw [HV.out]; rfl, by rw [HV.out]; show Own eU64 _ _ _ _ (layGaps R zs); rw [HL2.out]; exact own_of_block q8 (by omega) (by simp [maxLen]; omega) hz2l, by rw [HV.out]; exact hown1.below hba, hb1.trans (hba.mono hb1.size)⟩
  · have HV := Lib.hid (slideSlide_e h0)
    rw [HV.out]
    obtain ⟨r, hr'⟩ : ∃ r, (planTo a keep pinned).2 = r := ⟨_, rfl⟩
    rw [hr'] at HQ h0 ⊢
    have z : (r != 0) = true := by simp [h0]
    clear h0 hr' HV
    go_enter Try.func54, Try.ntmps54
    go_wp2_with (go_at_call 94; refine HQ.out.mono ?_; rintro e w1 ⟨v, rfl, hown, hb1⟩)
    go_ret3
    exact ⟨_, _, rfl, Own.nil, Own.nil, hb1⟩
end Go.Proofs.Ythkenhbpimddpaa
namespace Go.Proofs.Ythkenhbpimddpaa
open Go.RowKit

section
variable {α : Type} {L : El α} {w w' : World} {xs ys news : List α} {A : Option Addr} {B B' e n : Nat} {v : Value} {P : Program}
/-- a row of the call's own with room for n -/
def OwnCap (L : El α) (e : Nat) (w : World) (B : Nat) (v : Value) (xs : List α) (n : Nat) : Prop :=
  (n = 0 ∧ v = .slice none 0 0 ∧ xs = []) ∨
  ∃ g ys, v = .slice (some ⟨g, 0, none⟩) xs.length (xs.length + ys.length) ∧ n ≤ xs.length + ys.length ∧ B ≤ g ∧ xs.length + ys.length ≤ maxLen ∧ w.heap[g]? = some (.cells (L.flat (xs ++ ys)).toArray e (0, 0))
theorem OwnCap.own (h : OwnCap L e w B v xs n) : Own L e w B v xs := by
  rcases h with ⟨_, h1, h2⟩ | ⟨g, ys, hv, _, r⟩
  · exact .inl ⟨h1, h2⟩
  · exact .inr ⟨g, ys, hv, r⟩
theorem OwnCap.below (h : OwnCap L e w B v xs n) (hb : Below w.heap.size w w') : OwnCap L e w' B v xs n := by
  rcases h with h | ⟨g, ys, hv, hn, hB, hm, hg⟩
  · exact .inl h
  · exact .inr ⟨g, ys, hv, hn, hB, hm, heap_below hg hb⟩
theorem run_append_Cap {t ty bytes : Nat} (T : Ty L P t e bytes) (hown : OwnCap L e w B v xs n) (hr : Rd L w A news) (c : Nat) (hfit : xs.length + news.length ≤ n) :
    ∃ v' w', (Builtin.append_ #[t, t] ty #[v, .slice A news.length c]).run P w = .ok v' w' ∧ OwnCap L e w' B v' (xs ++ news) n ∧ w.grownBy w' v.ownBlock ∧ v'.ownBlock = v.ownBlock := by
  obtain ⟨ht, i, z, hi, hz, hk, hby, hzc⟩ := T
  subst hby
  by_cases hn : news.length = 0
  · have hn' : news = [] := List.eq_nil_of_length_eq_zero hn
    subst hn'
    refine ⟨v, w, ?_, by simpa using hown, World.grownBy.refl w _, rfl⟩
    rcases hown with ⟨_, rfl, rfl⟩ | ⟨g, ys, rfl, _, hb, hm, hg⟩
    · cases A <;> simp [Builtin.append_, run_underlying ht, sizeOf, typeInfo, hi, Builtin.lenOf, Builtin.firstCells, loadCells, loadCellsFrom]
    · cases A <;> simp [Builtin.append_, run_underlying ht, sizeOf, typeInfo, hi, Builtin.lenOf, Builtin.firstCells, loadCells, loadCellsFrom, storeCells]
  · obtain ⟨b, off, rfl, hlt, hc⟩ := hr.flat_ (by omega)
    have hnews : ∀ j u, (L.flat news)[j]? = some u → w.cell? ((⟨b, off, none⟩ : Addr).add j) = some u := fun j u hu => by rw [Addr.add_lit]; exact hc j u hu
    have hl : (L.flat news).length = news.length * i.size := by rw [El.length_flat, hk]
    rcases hown with ⟨h0, _⟩ | ⟨g, ys, rfl, hcap, hbg, hm, hg⟩
    · omega
    · have hroom : xs.length + news.length ≤ xs.length + ys.length := by omega
      have hf : xs.length * i.size + (L.flat news).length ≤ (L.flat (xs ++ ys)).toArray.size := by
        simp only [List.size_toArray, El.length_flat, List.length_append, hk]
        rw [← Nat.add_mul]; exact Nat.mul_le_mul_right _ (by omega)
      have hr := run_append_room (P := P) w t ty e i ht hi g xs.length (xs.length + ys.length) _ hg ⟨b, off, none⟩ news.length c (L.flat news) hl hnews (fun u hu => El.flat_one _ hu) hroom hf
      refine ⟨_, _, hr, .inr ⟨g, ys.drop news.length, ?_, ?_, hbg, ?_, ?_⟩, ⟨rfl, rfl, rfl, by simp [World.setRow], fun k _ hk => setRow_other w g k _ (fun e => hk (by simp [Value.ownBlock, e]))⟩, rfl⟩
      · simp only [List.length_append, List.length_drop]
        congr 1; omega
      · simp only [List.length_append, List.length_drop]; omega
      · simp only [List.length_append, List.length_drop]; omega
      · rw [setRow_heap w g _ _ e _ hg]
        congr 2
        have e1 : xs.length * i.size = (L.flat xs).length := by rw [El.length_flat, hk]
        have e2 : (L.flat (xs ++ ys)).drop (xs.length * i.size + (L.flat news).length) = L.flat (ys.drop news.length) := by
          rw [El.flat_append, e1, List.drop_append]
          simp only [List.drop_eq_nil_of_le (show (L.flat xs).length ≤ (L.flat xs).length + (L.flat news).length from by omega), List.nil_append, Nat.add_sub_cancel_left]
          conv => lhs; rw [← List.take_append_drop news.length ys, El.flat_append]
          rw [El.length_flat news]
          rw [List.drop_left' (by rw [El.length_flat, List.length_take, Nat.min_eq_left (by omega)])]
        rw [e2, El.flat_append, El.flat_append, e1, El.flat_append, List.take_left]
theorem wpList_append_Cap {ops : Array Oper} {rest : List Oper} {o : Oper} {a : Act} {Q : Exit → Act → World → Prop} (hgd : o.guard = none) (s x : Operand) {t bytes : Nat}
    (ho : o.op = .call { callee := .builtin .append, args := #[s, x], argTypes := #[t, t] })
    (T : Ty L P t e bytes) (hown : OwnCap L e w B v xs n) (hr : Rd L w A news) (hs : a.eval s = v) (k c : Nat) (hx : a.eval x = .slice A k c) (hk : k = news.length) (hfit : xs.length + news.length ≤ n)
    (h : ∀ v' w', OwnCap L e w' B v' (xs ++ news) n → w.grownBy w' v.ownBlock → v'.ownBlock = v.ownBlock → wpList P ops Q rest (a.put o.dst v') w') : wpList P ops Q (o :: rest) a w := by
  subst hk
  refine wpList_plain hgd fun _ hK => ?_
  obtain ⟨v', w', hrun, h2, h3, h4⟩ := run_append_Cap (ty := o.type) T hown hr c hfit
  unfold Oper.wp execOp
  simp only [ho, resolve, invoke, builtin, Sem.run_bind, Sem.run_pure, Result.andThen_ok, List.map_toArray, List.map_cons, List.map_nil, hs, hx, hrun]
  exact hK _ _ (h v' w' h2 h3 h4)
end

set_option maxRecDepth 100000 in
set_option maxHeartbeats 1000000 in
theorem growInt (n : Nat) (w : World) (hn : n * 8 ≤ 281474976710656) :
    Calls Try.prog 93 #[.slice none 0 0, .int .i64 (n : Int)] w (fun e w' => ∃ v, e = .returned v ∧ OwnCap eInt 3 w' w.heap.size v [] n ∧ Below w.heap.size w w') := by
  by_cases h0 : n = 0
  · subst h0
    go_enter Try.func93, Try.ntmps93
    go_wp2_with fail
    go_ret
    exact ⟨_, rfl, .inl ⟨rfl, rfl, rfl⟩, Below.refl _ _⟩
  · have h63 : n ≤ maxLen := by simp [maxLen]; omega
    have hf : Builtin.nextslicecap (0 + n) 0 * 8 ≤ 281474976710656 := by rw [Nat.zero_add, show Builtin.nextslicecap n 0 = n by simp [Builtin.nextslicecap]; omega]; exact hn
    have HP : Hid (0 < 0 + n ∧ 0 + n ≤ maxLen ∧ n * 8 ≤ 281474976710656 ∧ Builtin.nextslicecap (0 + n) 0 * 8 ≤ 281474976710656) := ⟨by omega, by omega, hn, hf⟩
    clear h63 hf
    go_enter Try.func93, Try.ntmps93
    go_wp2_with (at_builtin; refine wpList_appendz_El rfl (.tmp 20) (.tmp 21) rfl tyInt Try.underlying3 Rd.nil rfl rfl rfl (0 + n) w.heap.size rfl rfl HP.out.1 HP.out.2.1 HP.out.2.2.1 HP.out.2.2.2 ?_; intro ys w1 hg1 hl1 hgr1)
    go_ret
    refine ⟨_, rfl, .inr ⟨w.heap.size, List.replicate n eInt.zero ++ ys, ?_, ?_, Nat.le_refl _, ?_, ?_⟩, (Below.refl _ _).grown hgr1 (Nat.le_refl _) (fun g hg => by cases hg)⟩
    · simp
    · simp
    · have := hl1.out; simp at this ⊢; omega
    · have := hg1.out; simpa using this

set_option maxRecDepth 100000 in
set_option maxHeartbeats 2000000 in
theorem concatInt (b off cc : Nat) (A1 A2 : Option Addr) (c1 c2 : Nat) (xs ys : List Int) (w : World) (h0 : w.cell? ⟨b, off, none⟩ = some (.slice A1 xs.length c1)) (h1 : w.cell? ⟨b, off + 1, none⟩ = some (.slice A2 ys.length c2))
    (hx : Rd eInt w A1 xs) (hy : Rd eInt w A2 ys) (hm : (xs.length + ys.length) * 8 ≤ 281474976710656) :
    Calls Try.prog 53 #[.slice (some ⟨b, off, none⟩) 2 cc] w (OwnRet eInt 3 w (xs ++ ys)) := by
  have hlt : b < w.heap.size := World.block_lt_of_cell? w _ h0
  have HG := Lib.hid (fun W => growInt (xs.length + ys.length) W hm)
  go_enter Try.func53, Try.ntmps53
  go_wp2_with fail
  go_loopw [3, 11] (fun s i wr => Hid (w = wr) ∧ ((i = .int .i64 0 ∧ s = .int .i64 0) ∨ (i = .int .i64 1 ∧ s = .int .i64 (xs.length : Int)) ∨ (i = .int .i64 2 ∧ s = .int .i64 ((xs.length + ys.length : Nat) : Int)))) (fun _ i _ => 2 - (intOf i).toNat)
  case atStart => exact ⟨rfl, .inl ⟨rfl, rfl⟩⟩
  case round =>
    obtain ⟨heq, hc⟩ := hrel
    have heq := heq.out
    subst heq
    rcases hc with ⟨rfl, rfl⟩ | ⟨rfl, rfl⟩ | ⟨rfl, rfl⟩
    · go_wp2_with fail
      go_roundw
      case rel => exact ⟨trivial, .inr (.inl ⟨rfl, rfl⟩)⟩
      case measure => simp [intOf]
    · go_wp2_with fail
      go_roundw
      case rel => exact ⟨trivial, .inr (.inr ⟨rfl, by go_num⟩)⟩
      case measure => simp [intOf]
    · go_wp2_with (go_at_call 93; refine (HG.out _).mono ?_; rintro e w1 ⟨v1, rfl, hcap1, hb1⟩
                   obtain ⟨A0, c0, rfl, _, _, _⟩ := hcap1.own.rd)
      go_loopw [6, 27] (fun v i W => Below w.heap.size w W ∧ ((i = .int .i64 0 ∧ OwnCap eInt 3 W w.heap.size v [] (xs.length + ys.length)) ∨ (i = .int .i64 1 ∧ OwnCap eInt 3 W w.heap.size v xs (xs.length + ys.length)) ∨ (i = .int .i64 2 ∧ OwnCap eInt 3 W w.heap.size v (xs ++ ys) (xs.length + ys.length)))) (fun _ i _ => 2 - (intOf i).toNat)
      case atStart => exact ⟨hb1, .inl ⟨rfl, hcap1⟩⟩
      case round =>
        obtain ⟨hb2, hc⟩ := hrel
        have hc0 := hb2.cell (p := ⟨b, off, none⟩) hlt
        have hc1 := hb2.cell (p := ⟨b, off + 1, none⟩) hlt
        rw [h0] at hc0
        rw [h1] at hc1
        have hlt2 : b < wr.heap.size := Nat.lt_of_lt_of_le hlt hb2.size
        have hx2 := hx.below hb2
        have hy2 := hy.below hb2
        clear h0 h1 hb1 hcap1
        rcases hc with ⟨rfl, hcap⟩ | ⟨rfl, hcap⟩ | ⟨rfl, hcap⟩
        · have HF : Hid (([] : List Int).length + xs.length ≤ xs.length + ys.length) := by show _ ≤ _; simp
          go_wp2_with (at_builtin; refine wpList_append_Cap rfl (.tmp 31) (.tmp 32) rfl tyInt hcap hx2 rfl _ _ rfl rfl HF.out ?_; intro v' w2 hcap2 hgr2 hob)
          go_roundw
          case rel => exact ⟨hb2.grown hgr2 hb2.size (fun g hg => (hcap.own.lt g hg).1), .inr (.inl ⟨rfl, by simpa using hcap2⟩)⟩
          case measure => simp [intOf]
        · go_wp2_with (at_builtin; refine wpList_append_Cap rfl (.tmp 31) (.tmp 32) rfl tyInt hcap hy2 rfl _ _ rfl rfl (Nat.le_refl _) ?_; intro v' w2 hcap2 hgr2 hob)
          go_roundw
          case rel => exact ⟨hb2.grown hgr2 hb2.size (fun g hg => (hcap.own.lt g hg).1), .inr (.inr ⟨rfl, hcap2⟩)⟩
          case measure => simp [intOf]
        · go_wp2_with fail
          go_ret
          exact ⟨_, rfl, hcap.own, hb2⟩

end Go.Proofs.Ythkenhbpimddpaa
namespace Go.Proofs.Ythkenhbpimddpaa
open Go.RowKit

theorem addTo_sub {xs : List Int} {n m : Int} (h : m ∈ xs) : m ∈ addTo xs n := by
  unfold addTo
  split
  · exact h
  · exact List.mem_append_left _ h
theorem addTo_self {xs : List Int} {n : Int} : n ∈ addTo xs n := by
  unfold addTo
  split
  · assumption
  · simp
theorem addRefs_sub {xs : List Int} {vs : List Nat} {m : Int} (h : m ∈ xs) : m ∈ addRefs xs vs := by
  induction vs generalizing xs with
  | nil => exact h
  | cons v vs ih =>
    refine ih ?_
    unfold addRef
    split
    · exact h
    · exact addTo_sub h
theorem addAll_sub {xs ns : List Int} {m : Int} (h : m ∈ xs) : m ∈ addAll xs ns := by
  induction ns generalizing xs with
  | nil => exact h
  | cons v vs ih => exact ih (addTo_sub h)
theorem addAll_mem {xs ns : List Int} {m : Int} (h : m ∈ ns) : m ∈ addAll xs ns := by
  induction ns generalizing xs with
  | nil => cases h
  | cons v vs ih =>
    rcases List.mem_cons.1 h with rfl | h
    · exact addAll_sub (xs := addTo xs m) (ns := vs) addTo_self
    · exact ih h
theorem reachN_sub {a : List Nat} {l : List Spot} {k : Nat} : ∀ {xs : List Int} {i : Nat} {m : Int}, m ∈ xs → m ∈ reachN a l k xs i := by
  induction k with
  | zero => exact fun h => h
  | succ k ih =>
    intro xs i m h
    rw [reachN]
    split
    · exact h
    · exact ih (addRefs_sub h)
theorem reachOf_from {a : List Nat} {fr : List Int} {n : Int} (ht : tintErr a fr = 0) (h : n ∈ fr) : n ∈ reachOf a fr := by
  rw [reachOf, if_pos ht]
  exact isort_mem.2 (reachN_sub (addAll_mem h))

theorem Good.reachN {a : List Nat} {l : List Spot} (hall : ∀ s ∈ l, SpotOk a s) (hnm : allNamed a (placesF l) l = true) : ∀ (k : Nat) {xs : List Int} {i : Nat}, Good l xs → Good l (reachN a l k xs i)
  | 0, xs, i, h => h
  | k + 1, xs, i, h => by
    rw [Go.Proofs.Ythkenhbpimddpaa.reachN]
    cases hx : xs[i]? with
    | none => exact h
    | some n => exact Good.reachN hall hnm k (h.addRefs (allNamed_mem hnm (spotOf_ok hall (h.2 n (List.mem_of_getElem? hx))).1))
theorem reachL_good {a : List Nat} {fr : List Int} (ht : tintErr a fr = 0) : Good (walkSpots a).1 (reachL a fr) := by
  obtain ⟨hc, hkn⟩ := tintErr_ok ht
  obtain ⟨hs, _, hnm⟩ := walkCheck_spots hc
  exact Good.reachN (walkSpots_all hs) hnm 300 (Good.nil.addAll hkn)
theorem reachL_len {a : List Nat} {fr : List Int} (ht : tintErr a fr = 0) : (reachL a fr).length ≤ 256 := Nat.le_trans (reachL_good ht).len walkSpots_len
theorem reachOf_len {a : List Nat} {fr : List Int} : (reachOf a fr).length ≤ 256 := by
  unfold reachOf
  split
  · rename_i ht
    rw [isort_len]; exact reachL_len ht
  · simp
/-- where one goes to that is kept -/
def cleanF (keep to : List Int) (n : Int) : Int := to.getD (idxI (fun x => x == n) keep).toNat 0
theorem cleanAt {keep to : List Int} {n : Int} (h : n ∈ keep) (hl : to.length = keep.length) : ∃ (i : Nat) (t : Int), idxI (fun x => x == n) keep = (i : Int) ∧ to[i]? = some t ∧ cleanF keep to n = t := by
  rcases idxI_cases (fun x => x == n) keep with ⟨_, h2⟩ | ⟨i, x, h1, hx, hp, _⟩
  · have := h2 n h
    simp at this
  · have hi := (List.getElem?_eq_some_iff.1 hx).1
    have ht : to[i]? = some (to[i]'(by omega)) := List.getElem?_eq_getElem _
    refine ⟨i, to[i]'(by omega), h1, ht, ?_⟩
    unfold cleanF
    rw [h1, Int.toNat_natCast, List.getD_eq_getElem?_getD, ht]; rfl
def slideClean (a : List Nat) (fr pinned : List Int) : List Nat × List Int × Int :=
  if tintErr a (fr ++ pinned) ≠ 0 then ([], [], tintErr a (fr ++ pinned))
  else if (slideSlide a (reachOf a (fr ++ pinned)) pinned).2.2 ≠ 0 then ([], [], (slideSlide a (reachOf a (fr ++ pinned)) pinned).2.2)
  else ((slideSlide a (reachOf a (fr ++ pinned)) pinned).1, fr.map (cleanF (reachOf a (fr ++ pinned)) (slideSlide a (reachOf a (fr ++ pinned)) pinned).2.1), 0)
theorem slideClean_e {a : List Nat} {fr pinned : List Int} (h : ¬ tintErr a (fr ++ pinned) = 0) : slideClean a fr pinned = ([], [], tintErr a (fr ++ pinned)) := by rw [slideClean, if_pos h]
theorem slideClean_s {a : List Nat} {fr pinned : List Int} (h : tintErr a (fr ++ pinned) = 0) (h' : ¬ (slideSlide a (reachOf a (fr ++ pinned)) pinned).2.2 = 0) : slideClean a fr pinned = ([], [], (slideSlide a (reachOf a (fr ++ pinned)) pinned).2.2) := by rw [slideClean, if_neg (by simp [h]), if_pos h']
theorem slideClean_ok {a : List Nat} {fr pinned : List Int} (h : tintErr a (fr ++ pinned) = 0) (h' : (slideSlide a (reachOf a (fr ++ pinned)) pinned).2.2 = 0) : slideClean a fr pinned = ((slideSlide a (reachOf a (fr ++ pinned)) pinned).1, fr.map (cleanF (reachOf a (fr ++ pinned)) (slideSlide a (reachOf a (fr ++ pinned)) pinned).2.1), 0) := by rw [slideClean, if_neg (by simp [h]), if_neg (by simp [h'])]
theorem slideSlide_zero {a : List Nat} {keep pinned : List Int} (h : (slideSlide a keep pinned).2.2 = 0) : (planTo a keep pinned).2 = 0 ∧ (slideSlide a keep pinned).2.1 = (planTo a keep pinned).1 ∧ (slideSlide a keep pinned).1.length = a.length := by
  by_cases h0 : (planTo a keep pinned).2 = 0
  · cases hs : slideGo a (walkSpots a).1 (nowF keep (planTo a keep pinned).1) keep (planTo a keep pinned).1 (List.replicate a.length 0) with
    | none => rw [slideSlide_h h0 hs] at h; exact absurd h (by decide)
    | some out =>
      rw [slideSlide_ok h0 hs]
      obtain ⟨_, hok⟩ := planTo_ok h0
      refine ⟨h0, rfl, ?_⟩
      show (layGaps _ out).length = _
      rw [layGaps_len]
      exact slideGo_len hok.all hok.knows hok.longs hok.fits' (Int.le_refl _) (by simp) hs
  · rw [slideSlide_e h0] at h; exact absurd h h0
theorem slideSlide_len {a : List Nat} {keep pinned : List Int} (h : (slideSlide a keep pinned).2.2 = 0) : (slideSlide a keep pinned).2.1.length = keep.length := by
  obtain ⟨h0, h1, _⟩ := slideSlide_zero h
  obtain ⟨_, hok⟩ := planTo_ok h0
  rw [h1, ← hok.fits'.len, hok.fits.len]

set_option maxRecDepth 100000 in
set_option maxHeartbeats 4000000 in
theorem slideClean_any (A D E : Option Addr) (c d f : Nat) (a : List Nat) (fr pinned : List Int) (w : World) (hp : Rd eU64 w A a) (hq : Rd eInt w D fr) (hr : Rd eInt w E pinned) (hac : a.length ≤ c) (hm : c ≤ maxLen) (hfm : fr.length * 8 ≤ 140737488355328) (hpm : pinned.length * 8 ≤ 140737488355328) (ha : Words64 a) :
    Calls Try.prog 30 #[.slice A a.length c, .slice D fr.length d, .slice E pinned.length f] w (SlideRet w (slideClean a fr pinned).1 (slideClean a fr pinned).2.1 (slideClean a fr pinned).2.2) := by
  have HVe := Lib.hid (fun h => slideClean_e (a := a) (fr := fr) (pinned := pinned) h)
  have HVs := Lib.hid (fun h h' => slideClean_s (a := a) (fr := fr) (pinned := pinned) h h')
  have HVo := Lib.hid (fun h h' => slideClean_ok (a := a) (fr := fr) (pinned := pinned) h h')
  have HM := Lib.hid (fun (h : tintErr a (fr ++ pinned) = 0) (n : Int) (hn : n ∈ fr) => reachOf_from h (List.mem_append_left pinned hn))
  obtain ⟨fp, hfp⟩ : ∃ fp, fr ++ pinned = fp := ⟨_, rfl⟩
  have hfl : fp.length ≤ maxLen := by rw [← hfp]; simp [maxLen]; omega
  have HCAT : Hid (∀ W b cc, W.cell? ⟨b, 0, none⟩ = some (.slice D fr.length d) → W.cell? ⟨b, 0 + 1, none⟩ = some (.slice E pinned.length f) → Rd eInt W D fr → Rd eInt W E pinned → Calls Try.prog 53 #[.slice (some ⟨b, 0, none⟩) 2 cc] W (OwnRet eInt 3 W fp)) := fun W b cc h1 h2 h3 h4 => by
    have := concatInt b 0 cc D E d f fr pinned W h1 h2 h3 h4 (by omega)
    rw [hfp] at this; exact this
  have HR : Hid (∀ W A' c', Rd eU64 W A a → Rd eInt W A' fp → Calls Try.prog 32 #[.slice A a.length c, .slice A' fp.length c'] W (OwnRet1 eInt 3 W (reachOf a fp) (.int .i64 (tintErr a fp)))) := fun W A' c' h1 h2 => tintReach_any A A' c c' a fp W h1 h2 hac hm hfl ha
  rw [hfp] at HVe HVs HVo HM
  obtain ⟨keep, hkp⟩ : ∃ keep, reachOf a fp = keep := ⟨_, rfl⟩
  have hkl : keep.length ≤ 256 := by rw [← hkp]; exact reachOf_len
  have hkm : keep.length ≤ maxLen := by simp [maxLen]; omega
  rw [hkp] at HR HVs HVo HM
  obtain ⟨e, he⟩ : ∃ e, tintErr a fp = e := ⟨_, rfl⟩
  rw [he] at HR HVe HVs HVo HM
  clear he hkp hfp
  by_cases h0 : e = 0
  · subst h0
    have HSL : Hid (∀ W A' c', Rd eU64 W A a → Rd eInt W A' keep → Rd eInt W E pinned → Calls Try.prog 54 #[.slice A a.length c, .slice A' keep.length c', .slice E pinned.length f] W (SlideRet W (slideSlide a keep pinned).1 (slideSlide a keep pinned).2.1 (slideSlide a keep pinned).2.2)) := fun W A' c' h1 h2 h3 => slideSlide_any A A' E c c' f a keep pinned W h1 h2 h3 hac hm hkm (by simp [maxLen]; omega) ha
    have HM1 := Lib.hid (HM.out rfl)
    by_cases h1 : (slideSlide a keep pinned).2.2 = 0
    · have HV := Lib.hid (HVo.out rfl h1)
      have HTL := Lib.hid (slideSlide_len h1)
      have hol := (slideSlide_zero h1).2.2
      obtain ⟨to, hto⟩ : ∃ to, (slideSlide a keep pinned).2.1 = to := ⟨_, rfl⟩
      obtain ⟨out, hout⟩ : ∃ out, (slideSlide a keep pinned).1 = out := ⟨_, rfl⟩
      rw [h1, hto, hout] at HSL
      rw [hto, hout] at HV
      rw [hto] at HTL
      rw [hout] at hol
      have HCA : Hid (∀ n ∈ fr, ∃ (i : Nat) (t : Int), idxI (fun x => x == n) keep = (i : Int) ∧ to[i]? = some t ∧ cleanF keep to n = t) := fun n hn => cleanAt (HM1.out n hn) HTL.out
      rw [HV.out]
      clear h1 hto hout hol HVo HVs HVe HM
      unfold maxLen at hm
      go_enter Try.func30, Try.ntmps30
      go_wp2_with (first
        | (go_at_call 53; refine (HCAT.out _ _ _ (by simp) (by simp) (hq.alloc _) (hr.alloc _)).mono ?_; rintro e w1 ⟨v1, rfl, hown1, hb1⟩
           have hb01 := ((Below.refl w.heap.size w).alloc (Nat.le_refl _) (.cells #[.slice D fr.length d, .slice E pinned.length f] 47)).trans (hb1.mono (alloc_le _ _))
           have hrd1 := hown1.rd
           obtain ⟨A1, c1, rfl, _, _, hrd1⟩ := hrd1)
        | (go_at_call 32; refine (HR.out _ A1 c1 (hp.below hb01) hrd1).mono ?_; rintro e w2 ⟨v2, rfl, hown2, hb2⟩
           have hb02 := hb01.trans (hb2.mono hb01.size)
           have hrd2 := hown2.rd
           obtain ⟨A2, c2, rfl, _, _, hrd2⟩ := hrd2)
        | (go_at_call 54; refine (HSL.out _ A2 c2 (hp.below hb02) hrd2 (hr.below hb02)).mono ?_; rintro e w3 ⟨v3, u3, rfl, hown3, hownu, hb3⟩
           have hb03 := hb02.trans (hb3.mono hb02.size)
           have hrd3 := hown3.rd
           have hrdu := hownu.rd
           obtain ⟨A3, c3, rfl, _, _, _⟩ := hrd3
           obtain ⟨A4, c4, rfl, _, _, hrdu⟩ := hrdu))
      go_loopw [13, 41] (fun v i wr => ∃ k : Nat, k ≤ fr.length ∧ i = .int .i64 k ∧ Own eInt 3 wr w3.heap.size v ((fr.take k).map (cleanF keep to)) ∧ Below w3.heap.size w3 wr) (fun _ i _ => fr.length - (intOf i).toNat)
      case atStart => exact ⟨0, by omega, rfl, Own.nil, Below.refl _ _⟩
      case round =>
        obtain ⟨k, hk, rfl, hown, hb4⟩ := hrel
        have hb04 := hb03.trans (hb4.mono hb03.size)
        by_cases hlt : k < fr.length
        · obtain ⟨y, hy⟩ : ∃ y, fr[k]? = some y := ⟨fr[k], List.getElem?_eq_getElem hlt⟩
          obtain ⟨i, t, hi, ht, hct⟩ := HCA.out y (List.mem_of_getElem? hy)
          obtain ⟨b5, off5, rfl, hlt5, cy⟩ := (hq.below hb04).int hy
          have hil := (List.getElem?_eq_some_iff.1 ht).1
          have HY := Lib.hid hy
          have HT := Lib.hid ht
          have HCT := Lib.hid hct
          have HIX : Hid (∀ W, Rd eInt W A2 keep → Calls Try.prog 55 #[.slice A2 keep.length c2, .int .i64 y] W (Ret (.int .i64 (i : Int)) W)) := fun W h => by
            have := indexInt_any A2 c2 keep y W h hkm
            rw [hi] at this; exact this
          have hkt : ((fr.take (k + 1)).map (cleanF keep to)) = (fr.take k).map (cleanF keep to) ++ [t] := by rw [List.take_add_one, hy]; simp [hct]
          have HKT := Lib.hid hkt
          have hi0 : (0 : Int) ≤ (i : Int) := by omega
          have hi1 : (i : Int) < (to.length : Int) := by omega
          have h63 : ((fr.take k).map (cleanF keep to)).length + ([t] : List Int).length ≤ maxLen := by simp [maxLen]; omega
          have hby : (((fr.take k).map (cleanF keep to)).length + ([t] : List Int).length) * 8 ≤ 140737488355328 := by simp; omega
          clear hy hi ht hct hkt
          go_wp2_with (first
            | (go_at_call 55; refine (HIX.out _ ((hrd2.below hb3).below hb4)).mono ?_; rintro e w5 ⟨rfl, hb5⟩
               have hb35 := hb4.trans (hb5.mono hb4.size)
               obtain ⟨b6, off6, rfl, hlt6, ct⟩ := (hrdu.below hb35).int HT.out)
            | (at_builtin; refine wpList_append_Own (news := [t]) rfl (.tmp 45) (.tmp 52) rfl tyInt ((hown.below hb5).alloc _) (Rd.of_block (heap_alloc_new _ _) rfl) rfl 1 1 rfl rfl (Nat.le_trans hb35.size (alloc_le _ _)) h63 hby ?_; intro v' w6 hown6 hgr6 hat6))
          go_roundw
          case rel => exact ⟨k + 1, by omega, by go_num, by rw [HKT.out]; exact hown6, (hb35.alloc hb35.size _).grown hgr6 (Nat.le_trans hb35.size (alloc_le _ _)) (fun g hg => (hown.lt g hg).1)⟩
          case measure => simp [intOf]; omega
        · have hkt : (fr.take k).map (cleanF keep to) = fr.map (cleanF keep to) := by rw [List.take_of_length_le (by omega)]
          rw [hkt] at hown
          go_wp2_with fail
          go_ret3
          exact ⟨_, _, rfl, (hown3.below hb4).mono hb02.size, hown.mono hb03.size, hb04⟩
    · have HV := Lib.hid (HVs.out rfl h1)
      obtain ⟨r, hr'⟩ : ∃ r, (slideSlide a keep pinned).2.2 = r := ⟨_, rfl⟩
      rw [HV.out, hr']
      rw [hr'] at HSL h1
      have z : (r != 0) = true := by simp [h1]
      clear h1 hr' HV HVo HVs HVe HM
      go_enter Try.func30, Try.ntmps30
      go_wp2_with (first
        | (go_at_call 53; refine (HCAT.out _ _ _ (by simp) (by simp) (hq.alloc _) (hr.alloc _)).mono ?_; rintro e w1 ⟨v1, rfl, hown1, hb1⟩
           have hb01 := ((Below.refl w.heap.size w).alloc (Nat.le_refl _) (.cells #[.slice D fr.length d, .slice E pinned.length f] 47)).trans (hb1.mono (alloc_le _ _))
           have hrd1 := hown1.rd
           obtain ⟨A1, c1, rfl, _, _, hrd1⟩ := hrd1)
        | (go_at_call 32; refine (HR.out _ A1 c1 (hp.below hb01) hrd1).mono ?_; rintro e w2 ⟨v2, rfl, hown2, hb2⟩
           have hb02 := hb01.trans (hb2.mono hb01.size)
           have hrd2 := hown2.rd
           obtain ⟨A2, c2, rfl, _, _, hrd2⟩ := hrd2)
        | (go_at_call 54; refine (HSL.out _ A2 c2 (hp.below hb02) hrd2 (hr.below hb02)).mono ?_; rintro e w3 ⟨v3, u3, rfl, hown3, hownu, hb3⟩))
      go_ret3
      exact ⟨_, _, rfl, Own.nil, Own.nil, hb02.trans (hb3.mono hb02.size)⟩
  · have HV := Lib.hid (HVe.out h0)
    rw [HV.out]
    have z : (e != 0) = true := by simp [h0]
    clear h0 HV HVo HVs HVe HM
    go_enter Try.func30, Try.ntmps30
    go_wp2_with (first
      | (go_at_call 53; refine (HCAT.out _ _ _ (by simp) (by simp) (hq.alloc _) (hr.alloc _)).mono ?_; rintro e w1 ⟨v1, rfl, hown1, hb1⟩
         have hb01 := ((Below.refl w.heap.size w).alloc (Nat.le_refl _) (.cells #[.slice D fr.length d, .slice E pinned.length f] 47)).trans (hb1.mono (alloc_le _ _))
         have hrd1 := hown1.rd
         obtain ⟨A1, c1, rfl, _, _, hrd1⟩ := hrd1)
      | (go_at_call 32; refine (HR.out _ A1 c1 (hp.below hb01) hrd1).mono ?_; rintro e w2 ⟨v2, rfl, hown2, hb2⟩))
    go_ret3
    exact ⟨_, _, rfl, Own.nil, Own.nil, hb01.trans (hb2.mono hb01.size)⟩
end Go.Proofs.Ythkenhbpimddpaa
namespace Go.Proofs.Ythkenhbpimddpaa
open Go.RowKit

def wordNew (n : Int) : List Nat × Int := if n < 0 ∨ n > 256 then ([], 4) else (List.replicate n.toNat 0, 0)
set_option maxRecDepth 100000 in
theorem wordNew_any (n : Int) (w : World) : Calls Try.prog 57 #[.int .i64 n] w (OwnRet1 eU64 25 w (wordNew n).1 (.int .i64 (wordNew n).2)) := by
  by_cases h : n < 0 ∨ n > 256
  · have HV : Hid (wordNew n = ([], 4)) := if_pos h
    rw [HV.out]
    rcases h with h | h
    · go_enter Try.func57, Try.ntmps57
      go_wp2_with fail
      go_ret2
      exact ⟨_, rfl, Own.nil, Below.refl _ _⟩
    · have h0 : ¬ n < 0 := by omega
      have h1 : 256 < n := h
      clear h
      go_enter Try.func57, Try.ntmps57
      go_wp2_with fail
      go_ret2
      exact ⟨_, rfl, Own.nil, Below.refl _ _⟩
  · obtain ⟨k, rfl⟩ := Int.eq_ofNat_of_zero_le (show 0 ≤ n by omega)
    have HV : Hid (wordNew (k : Int) = (List.replicate k 0, 0)) := by show _ = _; rw [wordNew, if_neg h]; simp
    have hk : k ≤ 256 := by omega
    have hmk2 := fun W => run_make_El (w := W) tyU64 k (by omega) (by simp [maxLen]; omega)
    rw [HV.out]
    clear h HV
    go_enter Try.func57, Try.ntmps57
    go_wp2_with fail
    go_ret2
    exact ⟨_, rfl, own_of_block (heap_alloc_new _ _) (Nat.le_refl _) (by simp [maxLen]; omega) (by simp), (Below.refl _ _).alloc (Nat.le_refl _) _⟩

set_option maxRecDepth 100000 in
set_option maxHeartbeats 1000000 in
theorem tintLong_any (A : Option Addr) (c : Nat) (a : List Nat) (s : Spot) (w : World) (g m : Nat) (v : Value) (hs : SpotOk a s)
    (hbx : w.heap[g]? = some (.cells #[.slice A a.length c, .map (some m), v] 183 (0, 0))) (hM : MapIs .i64 encHead w m (headsF (walkSpots a).1)) (hf : headsF (walkSpots a).1 (s.at_ : Int) = some s.head) :
    Calls Try.prog 97 #[.pointer (some ⟨g, 0, none⟩), .int .i64 (s.at_ : Int)] w (Ret (.int .i64 (s.head.len : Int)) w) := by
  have q1 : w.cell? ⟨g, 1, none⟩ = some (.map (some m)) := by rw [bcells hbx 1]; rfl
  obtain ⟨n, hn⟩ : ∃ n, s.head.len = n := ⟨_, rfl⟩
  have HL := Lib.hid (headLong_ok s.head n hs.check hn)
  rw [hn]
  have HF := Lib.hid hf
  obtain ⟨at_, r, b, t, fr⟩ := s
  simp only at HL HF
  clear hs hn hf
  go_enter Try.func97, Try.ntmps97
  go_wp2_with (first
    | (at_lookup; refine wpList_look rfl (.tmp 11) (.tmp 12) false rfl Try.underlying138 Try.underlying3 (zeroHead _) hM rfl _ rfl (.agg #[.int .i64 r, .int .i64 b, .int .i64 t, .bool fr]) (by rw [HF.out]; rfl) ?_)
    | (go_at_call 81; refine (HL.out _).mono ?_; rintro e w1 ⟨rfl, hb1⟩))
  go_ret
  exact ⟨rfl, hb1⟩

/-- words that are reached -/
def sumLen (l : List Spot) (ns : List Int) : Nat := (ns.map fun n => (spotOf l n).head.len).sum
theorem sumLen_at {l : List Spot} {ns : List Int} {k : Nat} {n : Int} (h : ns[k]? = some n) : sumLen l (ns.take (k + 1)) = sumLen l (ns.take k) + (spotOf l n).head.len := by
  rw [List.take_add_one, h, sumLen, List.map_append, List.sum_append]
  simp [sumLen]
theorem sumLen_perm {l : List Spot} {ns ms : List Int} (h : ns.Perm ms) : sumLen l ns = sumLen l ms := (h.map _).sum_nat
def tintWords (a : List Nat) (fr : List Int) : Int × Int := if tintErr a fr = 0 then ((sumLen (walkSpots a).1 (reachOf a fr) : Int), 0) else (0, tintErr a fr)

set_option maxRecDepth 100000 in
set_option maxHeartbeats 2000000 in
theorem tintWords_any (A D : Option Addr) (c d : Nat) (a : List Nat) (fr : List Int) (w : World) (hp : Rd eU64 w A a) (hq : Rd eInt w D fr) (hac : a.length ≤ c) (hm : c ≤ maxLen) (hfm : fr.length ≤ maxLen) (ha : Words64 a) :
    Calls Try.prog 58 #[.slice A a.length c, .slice D fr.length d] w (Ret (.tuple #[.int .i64 (tintWords a fr).1, .int .i64 (tintWords a fr).2]) w) := by
  have HR := Lib.hid (tintReach_any A D c d a fr w hp hq hac hm hfm ha)
  by_cases ht : tintErr a fr = 0
  · have HV : Hid (tintWords a fr = ((sumLen (walkSpots a).1 (reachOf a fr) : Int), 0)) := if_pos ht
    obtain ⟨hc, hkn⟩ := tintErr_ok ht
    obtain ⟨hs, _, _⟩ := walkCheck_spots hc
    have hall := walkSpots_all hs
    have hgood := reachL_good ht
    have ht0 : tintErr a [] = 0 := by rw [tintErr, if_neg (by simp [hc])]; rfl
    have HH : Hid (∀ W, Rd eU64 W A a → Calls Try.prog 61 #[.slice A a.length c, .slice none 0 0] W (NewHeapRet W A c a 0)) := fun W h1 => by
      have := newHeap_any A none c 0 a [] W h1 Rd.nil hac hm (by simp) ha
      rw [ht0] at this; exact this
    have hlen := reachOf_len (a := a) (fr := fr)
    have hok : ∀ n ∈ reachOf a fr, (headsF (walkSpots a).1 n).isSome = true := fun n hn => by
      rw [reachOf, if_pos ht] at hn
      exact hgood.2 n (isort_mem.1 hn)
    have HLO : Hid (∀ W g m v n, n ∈ reachOf a fr → W.heap[g]? = some (.cells #[.slice A a.length c, .map (some m), v] 183 (0, 0)) → MapIs .i64 encHead W m (headsF (walkSpots a).1) → Calls Try.prog 97 #[.pointer (some ⟨g, 0, none⟩), .int .i64 n] W (Ret (.int .i64 ((spotOf (walkSpots a).1 n).head.len : Int)) W) ∧ (spotOf (walkSpots a).1 n).head.len ≤ 256) := fun W g m v n hn h1 h2 => by
      obtain ⟨_, hsp, hat, hhf, _⟩ := spotOf_ok hall (hok n hn)
      have := tintLong_any A c a (spotOf (walkSpots a).1 n) W g m v hsp h1 h2 hhf
      rw [hat] at this
      have h3 := hsp.fits
      have h4 := (walkSpots_zero hs).1
      exact ⟨this, by omega⟩
    rw [HV.out]
    rw [ht] at HR
    obtain ⟨keep, hkp⟩ : ∃ keep, reachOf a fr = keep := ⟨_, rfl⟩
    rw [hkp] at HR HLO hlen ⊢
    obtain ⟨l, hl⟩ : ∃ l, (walkSpots a).1 = l := ⟨_, rfl⟩
    have HWL := Lib.hid hl
    rw [hl] at HLO ⊢
    clear ht hc hkn hs hall hgood ht0 hok hkp hl HV
    unfold maxLen at hm
    go_enter Try.func58, Try.ntmps58
    go_wp2_with (first
      | (go_at_call 32; refine HR.out.mono ?_; rintro e w1 ⟨v1, rfl, hown1, hb1⟩
         have hrd1 := hown1.rd
         obtain ⟨A1, c1, rfl, _, _, hrd1⟩ := hrd1)
      | (go_at_call 61; refine (HH.out _ (hp.below hb1)).mono ?_; rintro e w2 ⟨u, rfl, hu, hb2⟩
         obtain ⟨g, rfl, m, v, hBg, hBm, hbx, hM, _⟩ := hu rfl))
    have hb02 := hb1.trans (hb2.mono hb1.size)
    rw [HWL.out] at hM
    go_loopw [10, 29] (fun s i wr => ∃ k : Nat, k ≤ keep.length ∧ i = .int .i64 k ∧ s = .int .i64 (sumLen l (keep.take k) : Int) ∧ sumLen l (keep.take k) ≤ 256 * k ∧ Below w2.heap.size w2 wr) (fun _ i _ => keep.length - (intOf i).toNat)
    case atStart => exact ⟨0, by omega, rfl, by simp [sumLen], by simp [sumLen], Below.refl _ _⟩
    case round =>
      obtain ⟨k, hk, rfl, rfl, hsk, hb3⟩ := hrel
      by_cases hlt : k < keep.length
      · obtain ⟨y, hy⟩ : ∃ y, keep[k]? = some y := ⟨keep[k], List.getElem?_eq_getElem hlt⟩
        obtain ⟨b5, off5, rfl, hlt5, cy⟩ := ((hrd1.below hb2).below hb3).int hy
        obtain ⟨hlo, hl256⟩ := HLO.out wr g m v y (List.mem_of_getElem? hy) (heap_below hbx hb3) (hM.below hb3)
        have HLO1 := Lib.hid hlo
        have HS := Lib.hid (sumLen_at (l := l) hy)
        obtain ⟨s0, hs0⟩ : ∃ s0, sumLen l (keep.take k) = s0 := ⟨_, rfl⟩
        obtain ⟨x, hx⟩ : ∃ x, (spotOf l y).head.len = x := ⟨_, rfl⟩
        rw [hs0, hx] at HS
        rw [hx] at HLO1 hl256
        rw [hs0] at hsk ⊢
        clear hy hlo hs0 hx
        go_wp2_with (go_at_call 97; refine HLO1.out.mono ?_; rintro e w5 ⟨rfl, hb5⟩)
        go_roundw
        case rel => exact ⟨k + 1, by omega, by go_num, by rw [HS.out]; go_num, by rw [HS.out]; omega, hb3.trans (hb5.mono hb3.size)⟩
        case measure => simp [intOf]; omega
      · have hkt : keep.take k = keep := List.take_of_length_le (by omega)
        rw [hkt]
        go_wp2_with fail
        go_ret2
        exact ⟨rfl, hb02.trans (hb3.mono hb02.size)⟩
  · have HV : Hid (tintWords a fr = (0, tintErr a fr)) := if_neg ht
    rw [HV.out]
    obtain ⟨r, hr⟩ : ∃ r, tintErr a fr = r := ⟨_, rfl⟩
    rw [hr] at HR ht ⊢
    have z : (r != 0) = true := by simp [ht]
    clear ht hr HV
    go_enter Try.func58, Try.ntmps58
    go_wp2_with (go_at_call 32; refine HR.out.mono ?_; rintro e w1 ⟨v1, rfl, hown1, hb1⟩)
    go_ret2
    exact ⟨rfl, hb1⟩
end Go.Proofs.Ythkenhbpimddpaa
namespace Go.Proofs.Ythkenhbpimddpaa
open Go.RowKit

def carryOrder (a : List Nat) (fr : List Int) : List Int := if tintErr a fr = 0 then reachL a fr else []
/-- what Order keeps: in box go the row of what has been come to -/
def OrderIs (w : World) (B go : Nat) (xs : List Int) : Prop :=
  B ≤ go ∧ ∃ v, w.heap[go]? = some (.cells #[v] 47 (0, 0)) ∧ Own eInt 3 w B v xs
theorem addTo_at {xs : List Int} {n y : Int} {i : Nat} (h : xs[i]? = some y) : (addTo xs n)[i]? = some y := by
  unfold addTo
  split
  · exact h
  · rw [List.getElem?_append_left (List.getElem?_eq_some_iff.1 h).1]; exact h
theorem addRefs_same {xs : List Int} {vs : List Nat} {y : Int} {i : Nat} (h : xs[i]? = some y) : (addRefs xs vs)[i]? = some y := by
  induction vs generalizing xs with
  | nil => exact h
  | cons v vs ih =>
    refine ih ?_
    unfold addRef
    split
    · exact h
    · exact addTo_at h

set_option maxRecDepth 100000 in
set_option maxHeartbeats 2000000 in
theorem orderAdd (w : World) (B go : Nat) (xs : List Int) (n : Int) (h : OrderIs w B go xs) (hlen : xs.length ≤ 1000000) (hB : B ≤ w.heap.size) :
    Calls Try.prog 96 (#[.int .i64 n] ++ #[.pointer (some ⟨go, 0, none⟩)]) w (fun e w' => e = .returned (.tuple #[]) ∧ OrderIs w' B go (addTo xs n) ∧ Below B w w') := by
  suffices hs : Calls Try.prog 96 #[.int .i64 n, .pointer (some ⟨go, 0, none⟩)] w (fun e w' => e = .returned (.tuple #[]) ∧ OrderIs w' B go (addTo xs n) ∧ Below B w w') by simpa using hs
  obtain ⟨hg2, v, q2, hown⟩ := h
  obtain ⟨A0, c0, rfl, _, _, hrd⟩ := hown.rd
  have c2 := box_cell q2
  have HC := Lib.hid (containsInt_any A0 c0 xs n w hrd (by simp [maxLen]; omega))
  by_cases hin : n ∈ xs
  · have HA := Lib.hid (addTo_yes hin)
    have hhas : hasI xs n = true := hasI_iff.2 hin
    rw [hhas] at HC
    clear hin hhas
    go_enter Try.func96, Try.ntmps96
    go_wp2_with (go_at_call 73; refine HC.out.mono ?_; rintro e w1 ⟨rfl, hb1⟩)
    go_end0
    exact ⟨rfl, by rw [HA.out]; exact ⟨hg2, _, heap_below q2 hb1, hown.below hb1⟩, hb1.mono hB⟩
  · have HA := Lib.hid (addTo_no hin)
    have hhas : hasI xs n = false := by
      cases hh : hasI xs n
      · rfl
      · exact absurd (hasI_iff.1 hh) hin
    rw [hhas] at HC
    have h63 : xs.length + ([n] : List Int).length ≤ maxLen := by simp [maxLen]; omega
    have hby : (xs.length + ([n] : List Int).length) * 8 ≤ 140737488355328 := by simp; omega
    have hneo : (Value.slice A0 xs.length c0).ownBlock ≠ some go := own_ne hown q2 (by decide)
    have hl6 : (xs ++ [n]).length = xs.length + 1 := by simp
    clear hin hhas
    go_enter Try.func96, Try.ntmps96
    go_wp2_with (first
      | (go_at_call 73; refine HC.out.mono ?_; rintro e w1 ⟨rfl, hb1⟩
         have q12 := heap_below q2 hb1
         have c12 := box_cell q12
         have hl2 := (Array.getElem?_eq_some_iff.1 q12).1
         have hB1 : B ≤ (w1.alloc (.cells (eInt.flat [n]).toArray 3)).heap.size := Nat.le_trans hB (Nat.le_trans hb1.size (alloc_le _ _))
         have hl3 : go < (w1.alloc (.cells (eInt.flat [n]).toArray 3)).heap.size := Nat.lt_of_lt_of_le hl2 (alloc_le _ _))
      | (at_builtin; refine wpList_append_Own (news := [n]) rfl (.tmp 7) (.tmp 9) rfl tyInt ((hown.below hb1).alloc _) (Rd.of_block (heap_alloc_new _ _) rfl) rfl 1 1 rfl rfl hB1 h63 hby ?_; intro v' w2 hown2 hgr2 hat
         have q22 : w2.heap[go]? = some (.cells #[.slice A0 xs.length c0] 47 (0, 0)) := (hgr2.block _ hl3 (fun e => hneo e.symm)).trans (heap_alloc_keep q12)
         have c22 := box_cell q22
         have f22 : w2.frozen? ⟨go, 0, none⟩ = false := own_free q22
         obtain ⟨A6, c6, rfl, _, _, _⟩ := hown2.rd))
    rw [hl6] at hown2
    go_end0
    refine ⟨rfl, by rw [HA.out]; exact ⟨hg2, _, box_set q22, hown2.box q22 (by decide) 0 _⟩, ?_⟩
    exact (((hb1.mono hB).alloc (Nat.le_trans hB hb1.size) _).grown hgr2 hB1 (fun g hg => (hown.lt g hg).1)).setCell (p := ⟨go, 0, none⟩) hg2 _

set_option maxRecDepth 100000 in
set_option maxHeartbeats 4000000 in
theorem carryOrder_any (A D : Option Addr) (c d : Nat) (a : List Nat) (fr : List Int) (w : World) (hp : Rd eU64 w A a) (hq : Rd eInt w D fr) (hac : a.length ≤ c) (hm : c ≤ maxLen) (hfm : fr.length ≤ maxLen) (ha : Words64 a) :
    Calls Try.prog 56 #[.slice A a.length c, .slice D fr.length d] w (OwnRet1 eInt 3 w (carryOrder a fr) (.int .i64 (tintErr a fr))) := by
  have heg : Enters Try.prog 96 := enters Try.func96 (by kernel_rfl) (by kernel_rfl)
  have HR := Lib.hid (tintReach_any A D c d a fr w hp hq hac hm hfm ha)
  by_cases ht : tintErr a fr = 0
  · have HO : Hid (carryOrder a fr = reachN a (walkSpots a).1 300 (addAll [] fr) 0) := by show _ = _; rw [carryOrder, if_pos ht]; rfl
    obtain ⟨hc, hkn⟩ := tintErr_ok ht
    obtain ⟨hs, _, hnm⟩ := walkCheck_spots hc
    have hall := walkSpots_all hs
    have h256 := walkSpots_len (a := a)
    have hal : a.length ≤ 256 := (walkSpots_zero hs).1
    have HAT : Hid (∀ W y, Rd eU64 W A a → (headsF (walkSpots a).1 y).isSome = true → ∃ s : Spot, (s.at_ : Int) = y ∧ spotOf (walkSpots a).1 y = s ∧ s ∈ (walkSpots a).1 ∧ SpotOk a s ∧ Calls Try.prog 59 #[.slice A a.length c, .int .i64 y] W (AtLen W s.head.refs.toNat s.head.body.toNat)) := fun W y h1 h2 => by
      obtain ⟨hmem, hsp, hat, _, _⟩ := spotOf_ok hall h2
      refine ⟨_, hat, rfl, hmem, hsp, ?_⟩
      have := walkAtLen A c a (spotOf (walkSpots a).1 y) W h1 hac hm ha hc hsp (by rw [hat]; exact h2) (by rw [hat])
      rw [hat] at this; exact this
    obtain ⟨l, hl⟩ : ∃ l, (walkSpots a).1 = l := ⟨_, rfl⟩
    rw [hl] at hkn hnm hall h256 HO HAT
    have hl256 : ∀ s ∈ l, s.at_ ≤ 256 := fun s hs => by have := (hall s hs).lt; omega
    have HF : Hid ((∀ s ∈ l, SpotOk a s) ∧ allNamed a (placesF l) l = true ∧ known (headsF l) fr = true ∧ (∀ s ∈ l, s.at_ ≤ 256)) := ⟨hall, hnm, hkn, hl256⟩
    rw [HO.out, ht]
    rw [ht] at HR
    clear ht hc hkn hs hnm hall hl hl256
    unfold maxLen at hm hfm
    unfold Enters at heg
    go_enter Try.func56, Try.ntmps56
    go_wp2_with (go_at_call 32; refine HR.out.mono ?_; rintro e w1 ⟨v1, rfl, hown1, hb1⟩)
    have hp1 := hp.below hb1
    have hq1 := hq.below hb1
    have hO0 : OrderIs (w1.alloc (.cells #[.slice none 0 0] 47)) w1.heap.size w1.heap.size [] := ⟨Nat.le_refl _, _, heap_alloc_new _ _, Own.nil⟩
    have hB0 : Below w1.heap.size w1 (w1.alloc (.cells #[.slice none 0 0] 47)) := (Below.refl _ _).alloc (Nat.le_refl _) _
    clear hown1
    go_loopw [29] (fun i wr => ∃ k : Nat, k ≤ fr.length ∧ i = .int .i64 k ∧ OrderIs wr w1.heap.size w1.heap.size (addAll [] (fr.take k)) ∧ Below w1.heap.size w1 wr) (fun i _ => fr.length - (intOf i).toNat)
    case atStart => exact ⟨0, by omega, rfl, hO0, hB0⟩
    case round =>
      obtain ⟨k, hk, rfl, hR, hb3⟩ := hrel
      by_cases hlt : k < fr.length
      · obtain ⟨y, hy⟩ : ∃ y, fr[k]? = some y := ⟨fr[k], List.getElem?_eq_getElem hlt⟩
        obtain ⟨b5, off5, rfl, hlt5, cy⟩ := (hq1.below hb3).int hy
        have hgd : Good l (addAll [] (fr.take k)) := Good.nil.addAll (known_take HF.out.2.2.1 k)
        have hadd := orderAdd wr w1.heap.size w1.heap.size (addAll [] (fr.take k)) y hR (by have := hgd.len; omega) hb3.size
        rw [← addAll_at hy] at hadd
        have HADD := Lib.hid hadd
        clear hy hadd hgd
        go_wp2_with fail
        refine HADD.out.mono ?_
        rintro e w5 ⟨rfl, hR5, hb5⟩
        go_wp2_with fail
        go_roundw
        case rel => exact ⟨k + 1, by omega, by go_num, hR5, hb3.trans hb5⟩
        case measure => simp [intOf]; omega
      · obtain rfl : k = fr.length := by omega
        rw [List.take_length] at hR
        have HG0 : Hid (Good l (addAll [] fr)) := Good.nil.addAll HF.out.2.2.1
        obtain ⟨wo, rfl⟩ : ∃ wo : World, wo = wr := ⟨_, rfl⟩
        go_wp2_with fail
        go_loopw [12] (fun i wr => ∃ (k n : Nat) (xs : List Int), i = .int .i64 k ∧ k + n = 300 ∧ k ≤ xs.length ∧ Hid (Good l xs) ∧ Hid (reachN a l 300 (addAll [] fr) 0 = reachN a l n xs k) ∧ OrderIs wr w1.heap.size w1.heap.size xs ∧ Below w1.heap.size w1 wr) (fun i _ => 300 - (intOf i).toNat)
        case atStart => exact ⟨0, 300, _, rfl, by omega, by omega, HG0, rfl, hR, hb3⟩
        case round =>
          obtain ⟨k, n, xs, rfl, hkn, hkx, HG, HN, hR4, hb4⟩ := hrel
          have hx256 : xs.length ≤ 256 := Nat.le_trans HG.out.len h256
          have hR4' := Lib.hid hR4
          obtain ⟨_, v4, q2, hown4⟩ := hR4
          obtain ⟨A4, c4, rfl, _, _, hrd4⟩ := hown4.rd
          have e2 := box_cell q2
          by_cases hlx : k < xs.length
          · obtain ⟨y, hy⟩ : ∃ y, xs[k]? = some y := ⟨xs[k], List.getElem?_eq_getElem hlx⟩
            obtain ⟨b5, off5, rfl, hlt5, cy⟩ := hrd4.int hy
            obtain ⟨n, rfl⟩ : ∃ n', n = n' + 1 := ⟨n - 1, by omega⟩
            have hgy := HG.out.2 y (List.mem_of_getElem? hy)
            obtain ⟨s, hsy, hso, hsm, hsp, hca⟩ := HAT.out wr y (hp1.below hb4) hgy
            have hnam := allNamed_mem HF.out.2.1 hsm
            have HNS := Lib.hid (named_small HF.out.2.2.2 hnam)
            have HN2 : Hid (reachN a l 300 (addAll [] fr) 0 = reachN a l n (addRefs xs (refsOf a s)) (k + 1)) := by show _ = _; rw [HN.out, reachN_step hy, hso]
            have HG2 : Hid (∀ j, Good l (addRefs xs ((refsOf a s).take j))) := fun j => HG.out.addRefs (by
              simp only [named, List.all_eq_true] at hnam ⊢
              exact fun x hx => hnam x (List.take_subset _ _ hx))
            have hrl := refsOf_length hsp
            obtain ⟨n1, n2, n3, n4, n5, _⟩ := headCheck_ok hsp.check
            have hfit := hsp.fits
            have HRF : Hid (∀ j x, (refsOf a s)[j]? = some x → a[s.at_ + 1 + j]? = some x) := fun j x hx => by
              have hjl := (List.getElem?_eq_some_iff.1 hx).1
              rw [refsOf, List.getElem?_take] at hx
              split at hx
              · rw [List.getElem?_drop] at hx; exact hx
              · cases hx
            have HCA := Lib.hid hca
            have HY := Lib.hid hy
            clear hy hgy hso hsm hsp hca hnam
            subst hsy
            obtain ⟨at_, r, b, tg, f0⟩ := s
            simp only at n1 n2 n3 n4 n5 HCA hrl cy HRF HY
            obtain ⟨r, rfl⟩ := Int.eq_ofNat_of_zero_le n1
            obtain ⟨b, rfl⟩ := Int.eq_ofNat_of_zero_le n2
            simp only [Head.len, Int.toNat_natCast] at hfit hrl HCA
            obtain ⟨rs, hrs⟩ : ∃ rs, refsOf a ⟨at_, ⟨r, b, tg, f0⟩⟩ = rs := ⟨_, rfl⟩
            rw [hrs] at hrl HRF HNS HN2 HG2
            clear hrs
            have hk0 : (0 : Int) ≤ (k : Int) := by omega
            have hk1 : (k : Int) < (xs.length : Int) := by omega
            go_wp2_with (go_at_call 59; refine HCA.out.mono ?_; rintro e w5 ⟨ot, A8, c8, A9, c9, ofr, rfl, hb5⟩)
            have hR5 : OrderIs (w5.alloc (.cells #[.int .i64 ot, .slice A8 r c8, .slice A9 b c9, .bool ofr] 118)) w1.heap.size w1.heap.size xs := ⟨Nat.le_refl _, _, heap_alloc_keep (heap_below q2 hb5), (hown4.below hb5).alloc _⟩
            have hb15 := (hb4.trans (hb5.mono hb4.size)).alloc (Nat.le_trans hb4.size hb5.size) (.cells #[.int .i64 ot, .slice A8 r c8, .slice A9 b c9, .bool ofr] 118)
            go_loopw [55] (fun i wr => ∃ j : Nat, j ≤ r ∧ i = .int .i64 j ∧ OrderIs wr w1.heap.size w1.heap.size (addRefs xs (rs.take j)) ∧ Below w1.heap.size w1 wr) (fun i _ => r - (intOf i).toNat)
            case atStart => exact ⟨0, by omega, rfl, hR5, hb15⟩
            case round =>
              obtain ⟨j, hj, rfl, hR6, hb6⟩ := hrel
              by_cases hlj : j < r
              · obtain ⟨v, hv⟩ : ∃ v, rs[j]? = some v := ⟨rs[j]'(by omega), List.getElem?_eq_getElem _⟩
                have hav := HRF.out j v hv
                obtain ⟨b7, off7, rfl, hlt7, cv⟩ := (hp1.below hb6).u64 hav
                have hvs := HNS.out v (List.mem_of_getElem? hv)
                have hR6' := hR6
                obtain ⟨_, v6, q6, hown6⟩ := hR6'
                obtain ⟨A6, c6, rfl, _, _, hrd6⟩ := hown6.rd
                have e6 := box_cell q6
                have hyx := addRefs_same (vs := rs.take j) HY.out
                have hkl6 := (List.getElem?_eq_some_iff.1 hyx).1
                obtain ⟨b8, off8, rfl, hlt8, cy8⟩ := hrd6.int hyx
                have hk6 : (k : Int) < ((addRefs xs (rs.take j)).length : Int) := by omega
                have ha0 : (0 : Int) ≤ (at_ : Int) + 1 + (j : Int) := by omega
                have ha1 : (at_ : Int) + 1 + (j : Int) < (a.length : Int) := by omega
                have hg6 := (HG2.out j).len
                have HAD := Lib.hid (fun n => orderAdd wr w1.heap.size w1.heap.size (addRefs xs (rs.take j)) n hR6 (by omega) hb6.size)
                have HV := Lib.hid (addRefs_at hv xs)
                clear hv hav hyx hg6
                cases v with
                | zero =>
                  have HE : Hid (addRefs xs (rs.take (j + 1)) = addRefs xs (rs.take j)) := by show _ = _; rw [HV.out, addRef, if_pos rfl]
                  go_wp2_with fail
                  go_roundw
                  case rel => exact ⟨j + 1, by omega, by go_num, by rw [HE.out]; exact hR6, hb6⟩
                  case measure => simp [intOf]; omega
                | succ v =>
                  have HE : Hid (addRefs xs (rs.take (j + 1)) = addTo (addRefs xs (rs.take j)) (v : Int)) := by show _ = _; rw [HV.out, addRef, if_neg (by omega)]; congr 1; omega
                  have HADD := Lib.hid (HAD.out (v : Int))
                  go_wp2_with fail
                  refine HADD.out.mono ?_
                  rintro e w9 ⟨rfl, hR9, hb9⟩
                  go_wp2_with fail
                  go_roundw
                  case rel => exact ⟨j + 1, by omega, by go_num, by rw [HE.out]; exact hR9, hb6.trans hb9⟩
                  case measure => simp [intOf]; omega
              · obtain rfl : j = r := by omega
                have hrr : rs.take j = rs := List.take_of_length_le (by omega)
                rw [hrr] at hR6
                have hgr := addRefs_grow (xs := xs) (vs := rs)
                have HG3 : Hid (Good l (addRefs xs rs)) := by have := HG2.out j; rw [hrr] at this; exact this
                clear hrr
                go_wp2_with fail
                go_roundw
                case rel => exact ⟨k + 1, n, _, by go_num, by omega, by omega, HG3, HN2, hR6, hb6⟩
                case measure => simp [intOf]; omega
          · have HE : Hid (reachN a l 300 (addAll [] fr) 0 = xs) := by show _ = _; rw [HN.out, reachN_end hlx]
            go_wp2_with fail
            go_ret2
            exact ⟨_, rfl, by rw [HE.out]; exact hown4.mono hb1.size, hb1.trans (hb4.mono hb1.size)⟩
  · have HO : Hid (carryOrder a fr = []) := by show _ = _; rw [carryOrder, if_neg ht]
    obtain ⟨r, hr⟩ : ∃ r, tintErr a fr = r := ⟨_, rfl⟩
    rw [hr] at HR ht
    rw [HO.out, hr]
    have z : (r != 0) = true := by simp [ht]
    clear ht hr HO heg
    go_enter Try.func56, Try.ntmps56
    go_wp2_with (go_at_call 32; refine HR.out.mono ?_; rintro e w1 ⟨v1, rfl, hown1, hb1⟩)
    go_ret2
    exact ⟨_, rfl, Own.nil, hb1⟩
end Go.Proofs.Ythkenhbpimddpaa
namespace Go.Proofs.Ythkenhbpimddpaa
open Go.RowKit

def lenOf (l : List Spot) (n : Int) : Nat := (spotOf l n).head.len
theorem sumLen_split {l : List Spot} (xs ys : List Int) : sumLen l (xs ++ ys) = sumLen l xs + sumLen l ys := by simp [sumLen]
theorem sumLen_le {l : List Spot} {ns : List Int} {k : Nat} {n : Int} (h : ns[k]? = some n) : sumLen l (ns.take k) + lenOf l n ≤ sumLen l ns := by
  have h1 := sumLen_at (l := l) h
  have h2 := sumLen_split (l := l) (ns.take (k + 1)) (ns.drop (k + 1))
  rw [List.take_append_drop] at h2
  unfold lenOf
  omega
theorem sumLen_take {l : List Spot} {ns : List Int} (k : Nat) : sumLen l (ns.take k) ≤ sumLen l ns := by
  have h2 := sumLen_split (l := l) (ns.take k) (ns.drop k)
  rw [List.take_append_drop] at h2
  omega
/-- where each begins, one behind the other -/
def startsGo (l : List Spot) : List Int → Nat → List Int
  | [], _ => []
  | n :: ns, e => (e : Int) :: startsGo l ns (e + lenOf l n)
theorem startsGo_len {l : List Spot} : ∀ (ns : List Int) (e : Nat), (startsGo l ns e).length = ns.length
  | [], _ => rfl
  | n :: ns, e => by simp [startsGo, startsGo_len ns]
theorem startsGo_at {l : List Spot} : ∀ {ns : List Int} {e k : Nat}, k < ns.length → (startsGo l ns e)[k]? = some ((e + sumLen l (ns.take k) : Nat) : Int)
  | [], _, _, h => by simp at h
  | n :: ns, e, 0, _ => by simp [startsGo, sumLen]
  | n :: ns, e, k + 1, h => by
    rw [startsGo, List.getElem?_cons_succ, startsGo_at (by simpa using h), List.take_succ_cons]
    congr 2
    simp only [sumLen, List.map_cons, List.sum_cons, lenOf]
    omega
def copyGo (a : List Nat) (l : List Spot) : List Int → Nat → List Nat → List Nat
  | n :: ns, e, out => copyGo a l ns (e + lenOf l n) (splice out e ((a.drop (spotOf l n).at_).take (lenOf l n)))
  | [], _, out => out
theorem copyGo_at {a : List Nat} {l : List Spot} {ns : List Int} {k : Nat} {n : Int} (h : ns[k]? = some n) (e : Nat) (out : List Nat) : copyGo a l (ns.drop k) e out = copyGo a l (ns.drop (k + 1)) (e + lenOf l n) (splice out e ((a.drop (spotOf l n).at_).take (lenOf l n))) := by
  obtain ⟨hk, rfl⟩ := List.getElem?_eq_some_iff.1 h
  rw [List.drop_eq_getElem_cons hk, copyGo]
theorem copyGo_end {a : List Nat} {l : List Spot} {ns : List Int} {k : Nat} (h : ¬ k < ns.length) (e : Nat) (out : List Nat) : copyGo a l (ns.drop k) e out = out := by
  rw [List.drop_of_length_le (by omega), copyGo]
/-- the Refs of one that has been copied, told anew where they stand -/
def fixRow (f : Int → Option Nat) (zs : List Nat) (t r : Nat) : List Nat := splice zs (t + 1) (((zs.drop (t + 1)).take r).map fun (v : Nat) => (f (v : Int)).getD 0)
def fixGo (f : Int → Option Nat) (l : List Spot) : List Int → List Int → List Nat → List Nat
  | n :: ns, t :: ts, zs => fixGo f l ns ts (fixRow f zs t.toNat (spotOf l n).head.refs.toNat)
  | _, _, zs => zs
theorem fixGo_at {f : Int → Option Nat} {l : List Spot} {ns ts : List Int} {k : Nat} {n t : Int} (hn : ns[k]? = some n) (ht : ts[k]? = some t) (zs : List Nat) : fixGo f l (ns.drop k) (ts.drop k) zs = fixGo f l (ns.drop (k + 1)) (ts.drop (k + 1)) (fixRow f zs t.toNat (spotOf l n).head.refs.toNat) := by
  obtain ⟨h1, rfl⟩ := List.getElem?_eq_some_iff.1 hn
  obtain ⟨h2, rfl⟩ := List.getElem?_eq_some_iff.1 ht
  rw [List.drop_eq_getElem_cons h1, List.drop_eq_getElem_cons h2, fixGo]
theorem fixGo_end {f : Int → Option Nat} {l : List Spot} {ns ts : List Int} {k : Nat} (hn : ¬ k < ns.length) (zs : List Nat) : fixGo f l (ns.drop k) (ts.drop k) zs = zs := by
  rw [List.drop_of_length_le (by omega)]
  simp [fixGo]
theorem seg_get {zs : List Nat} {t r j : Nat} (hj : j < r) : ((zs.drop t).take r)[j]? = zs[t + j]? := by
  rw [List.getElem?_take, if_pos hj, List.getElem?_drop]
theorem seg_step (F : Nat → Nat) {sg : List Nat} {j v : Nat} (hv : sg[j]? = some v) : ((sg.take j).map F ++ sg.drop j)[j]? = some v ∧ ((sg.take j).map F ++ sg.drop j).set j (F v) = (sg.take (j + 1)).map F ++ sg.drop (j + 1) := by
  obtain ⟨hj, h2⟩ := List.getElem?_eq_some_iff.1 hv
  have hl : ((sg.take j).map F).length = j := by simp; omega
  refine ⟨?_, ?_⟩
  · rw [List.getElem?_append_right (by omega), hl, Nat.sub_self, List.getElem?_drop]
    simpa using hv
  · rw [List.set_append_right _ _ (by omega), hl, Nat.sub_self, List.drop_eq_getElem_cons hj, List.set_cons_zero, List.take_add_one, hv, List.map_append, List.append_assoc]
    rfl
/-- the words behind the copying -/
def carryOut (a : List Nat) (l : List Spot) (ns : List Int) (n : Nat) : List Nat :=
  let zs := fixGo (nowF ns (startsGo l ns 0)) l ns (startsGo l ns 0) (copyGo a l ns 0 (List.replicate n 0))
  if sumLen l ns < n then zs.set (sumLen l ns) (gapWord ((n : Int) - (sumLen l ns : Int))) else zs
def carryCopy (a : List Nat) (fr : List Int) (n : Int) : List Nat × List Int × List Int × Int :=
  if tintErr a fr ≠ 0 then ([], [], [], tintErr a fr)
  else if (wordNew n).2 ≠ 0 then ([], [], [], (wordNew n).2)
  else if (sumLen (walkSpots a).1 (reachL a fr) : Int) > n then ([], [], [], 7)
  else (carryOut a (walkSpots a).1 (reachL a fr) n.toNat, reachL a fr, startsGo (walkSpots a).1 (reachL a fr) 0, 0)
theorem carryCopy_e {a : List Nat} {fr : List Int} {n : Int} (h : ¬ tintErr a fr = 0) : carryCopy a fr n = ([], [], [], tintErr a fr) := by rw [carryCopy, if_pos h]
theorem carryCopy_n {a : List Nat} {fr : List Int} {n : Int} (h : tintErr a fr = 0) (h' : ¬ (wordNew n).2 = 0) : carryCopy a fr n = ([], [], [], (wordNew n).2) := by rw [carryCopy, if_neg (by simp [h]), if_pos h']
theorem carryCopy_f {a : List Nat} {fr : List Int} {n : Int} (h : tintErr a fr = 0) (h' : (wordNew n).2 = 0) (h2 : (sumLen (walkSpots a).1 (reachL a fr) : Int) > n) : carryCopy a fr n = ([], [], [], 7) := by rw [carryCopy, if_neg (by simp [h]), if_neg (by simp [h']), if_pos h2]
theorem carryCopy_ok {a : List Nat} {fr : List Int} {n : Int} (h : tintErr a fr = 0) (h' : (wordNew n).2 = 0) (h2 : ¬ (sumLen (walkSpots a).1 (reachL a fr) : Int) > n) : carryCopy a fr n = (carryOut a (walkSpots a).1 (reachL a fr) n.toNat, reachL a fr, startsGo (walkSpots a).1 (reachL a fr) 0, 0) := by rw [carryCopy, if_neg (by simp [h]), if_neg (by simp [h']), if_neg h2]
theorem wordNew_zero {n : Int} (h : (wordNew n).2 = 0) : 0 ≤ n ∧ n ≤ 256 := by
  unfold wordNew at h
  split at h
  · exact absurd h (by decide)
  · omega
theorem tintWords_reach {a : List Nat} {fr : List Int} (ht : tintErr a fr = 0) : tintWords a fr = ((sumLen (walkSpots a).1 (reachL a fr) : Int), 0) := by
  rw [tintWords, if_pos ht, reachOf, if_pos ht, sumLen_perm (isort_perm _)]

set_option maxRecDepth 100000 in
/-- New, where there may be so many -/
theorem wordNew_row (k : Nat) (hk : k ≤ 256) (w : World) : Calls Try.prog 57 #[.int .i64 (k : Int)] w (fun en w' => ∃ g, en = .returned (.tuple #[.slice (some ⟨g, 0, none⟩) k k, .int .i64 0]) ∧ w.heap.size ≤ g ∧ w'.heap[g]? = some (.cells (eU64.flat (List.replicate k 0)).toArray 25 (0, 0)) ∧ Below w.heap.size w w') := by
  have hmk2 := fun W => run_make_El (w := W) tyU64 k (by omega) (by simp [maxLen]; omega)
  go_enter Try.func57, Try.ntmps57
  go_wp2_with fail
  go_ret2
  exact ⟨_, rfl, Nat.le_refl _, heap_alloc_new _ _, (Below.refl _ _).alloc (Nat.le_refl _) _⟩
theorem results_tmp4 {fn : Func} {t u v x : Tmp} (h : fn.results = #[.tmp t, .tmp u, .tmp v, .tmp x]) (tmps : Array Value) (P : Program) (w : World) :
    (results fn tmps).run P w = .ok (.tuple #[tmps.getD t undef, tmps.getD u undef, tmps.getD v undef, tmps.getD x undef]) w := by
  simp [results, h]
def CopyRet (w : World) (out : List Nat) (order to : List Int) (r : Int) (en : Ending) (w' : World) : Prop :=
  ∃ v u x, en = .returned (.tuple #[v, u, x, .int .i64 r]) ∧ Own eU64 25 w' w.heap.size v out ∧ Own eInt 3 w' w.heap.size u order ∧ Own eInt 3 w' w.heap.size x to ∧ Below w.heap.size w w'
end Go.Proofs.Ythkenhbpimddpaa
namespace Go.Proofs.Ythkenhbpimddpaa
open Go.RowKit

theorem lookU64 (f : Int → Option Nat) (v : Nat) : lookV false encU (.int .u64 0) (f (v : Int)) = .int .u64 (((f (v : Int)).getD 0 : Nat) : Int) := by
  unfold lookV; cases f (v : Int) <;> rfl

set_option maxRecDepth 100000 in
set_option maxHeartbeats 4000000 in
theorem carryCopy_any (A D : Option Addr) (c d : Nat) (a : List Nat) (fr : List Int) (n : Int) (w : World) (hp : Rd eU64 w A a) (hq : Rd eInt w D fr) (hac : a.length ≤ c) (hm : c ≤ maxLen) (hfm : fr.length ≤ maxLen) (ha : Words64 a) :
    Calls Try.prog 31 #[.slice A a.length c, .slice D fr.length d, .int .i64 n] w (CopyRet w (carryCopy a fr n).1 (carryCopy a fr n).2.1 (carryCopy a fr n).2.2.1 (carryCopy a fr n).2.2.2) := by
  have HO := Lib.hid (carryOrder_any A D c d a fr w hp hq hac hm hfm ha)
  by_cases ht : tintErr a fr = 0
  · by_cases hn : (wordNew n).2 = 0
    · obtain ⟨hn0, hn1⟩ := wordNew_zero hn
      have HWo : Hid (∀ W, Rd eU64 W A a → Rd eInt W D fr → Calls Try.prog 58 #[.slice A a.length c, .slice D fr.length d] W (Ret (.tuple #[.int .i64 (sumLen (walkSpots a).1 (reachL a fr) : Int), .int .i64 0]) W)) := fun W h1 h2 => by
        have := tintWords_any A D c d a fr W h1 h2 hac hm hfm ha
        rw [tintWords_reach ht] at this; exact this
      have HVf := Lib.hid (fun h => carryCopy_f (a := a) (fr := fr) ht hn h)
      have HVo := Lib.hid (fun h => carryCopy_ok (a := a) (fr := fr) ht hn h)
      obtain ⟨N, rfl⟩ := Int.eq_ofNat_of_zero_le hn0
      have HNe := Lib.hid (fun W => wordNew_row N (by omega) W)
      have hco : carryOrder a fr = reachL a fr := by rw [carryOrder, if_pos ht]
      have hgood := reachL_good ht
      obtain ⟨hc, _⟩ := tintErr_ok ht
      obtain ⟨hs, _, _⟩ := walkCheck_spots hc
      have hall := walkSpots_all hs
      have hx256 := reachL_len ht
      have HAT : Hid (∀ y, y ∈ reachL a fr → ∃ s : Spot, (s.at_ : Int) = y ∧ spotOf (walkSpots a).1 y = s ∧ SpotOk a s ∧ ∀ W, Rd eU64 W A a → Calls Try.prog 59 #[.slice A a.length c, .int .i64 y] W (AtLen W s.head.refs.toNat s.head.body.toNat)) := fun y hy => by
        have h2 := hgood.2 y hy
        obtain ⟨hmem, hsp, hat, _, _⟩ := spotOf_ok hall h2
        refine ⟨_, hat, rfl, hsp, fun W h1 => ?_⟩
        have := walkAtLen A c a (spotOf (walkSpots a).1 y) W h1 hac hm ha hc hsp (by rw [hat]; exact h2) (by rw [hat])
        rw [hat] at this; exact this
      rw [ht, hco] at HO
      obtain ⟨l, hl⟩ : ∃ l, (walkSpots a).1 = l := ⟨_, rfl⟩
      obtain ⟨xs, hxs⟩ : ∃ xs, reachL a fr = xs := ⟨_, rfl⟩
      rw [hl, hxs] at HWo HVf HVo HAT
      rw [hxs] at HO hx256
      rw [Int.toNat_natCast] at HVo
      obtain ⟨S, hS⟩ : ∃ S, sumLen l xs = S := ⟨_, rfl⟩
      have HS := Lib.hid hS
      rw [hS] at HWo HVf HVo
      have hN256 : N ≤ 256 := by omega
      clear ht hn hn0 hn1 hco hgood hc hs hall hl hxs hS
      by_cases hSN : (S : Int) > (N : Int)
      · have HV := Lib.hid (HVf.out hSN)
        rw [HV.out]
        have hgt : (N : Int) < (S : Int) := hSN
        clear hSN HVf HVo HV
        go_enter Try.func31, Try.ntmps31
        go_wp2_with (first
          | (go_at_call 56; refine HO.out.mono ?_; rintro e w1 ⟨v1, rfl, hown1, hb1⟩)
          | (go_at_call 57; refine (HNe.out _).mono ?_; rintro e w2 ⟨g, rfl, hBg, hg2, hb2⟩
             have hb02 := hb1.trans (hb2.mono hb1.size))
          | (go_at_call 58; refine (HWo.out _ (hp.below hb02) (hq.below hb02)).mono ?_; rintro e w3 ⟨rfl, hb3⟩))
        (try simp only [Exit.inBlock, Exit.then]); refine bodyPost_ret (results_tmp4 rfl _ _ _) rfl ?_
        exact ⟨_, _, _, rfl, Own.nil, Own.nil, Own.nil, hb02.trans (hb3.mono hb02.size)⟩
      · have HV := Lib.hid (HVo.out hSN)
        rw [HV.out]
        have hle : (S : Int) ≤ (N : Int) := by omega
        obtain ⟨T, hT⟩ : ∃ T, startsGo l xs 0 = T := ⟨_, rfl⟩
        have hTl : T.length = xs.length := by rw [← hT]; exact startsGo_len xs 0
        have HTA : Hid (∀ k, k < xs.length → T[k]? = some ((sumLen l (xs.take k) : Nat) : Int)) := fun k hk => by rw [← hT, startsGo_at hk, Nat.zero_add]
        have HCO : Hid (carryOut a l xs N = if S < N then (fixGo (nowF xs T) l xs T (copyGo a l xs 0 (List.replicate N 0))).set S (gapWord ((N : Int) - (S : Int))) else fixGo (nowF xs T) l xs T (copyGo a l xs 0 (List.replicate N 0))) := by show _ = _; rw [carryOut, HS.out, hT]
        rw [hT]
        clear hSN HVf HVo HV hT
        have hmk := fun W => run_makeMap (P := Try.prog) 116 W
        unfold maxLen at hm
        go_enter Try.func31, Try.ntmps31
        go_wp2_with (first
          | (go_at_call 56; refine HO.out.mono ?_; rintro e w1 ⟨v1, rfl, hown1, hb1⟩
             have hrd1 := hown1.rd
             obtain ⟨A1, c1, rfl, _, _, hrd1⟩ := hrd1)
          | (go_at_call 57; refine (HNe.out _).mono ?_; rintro e w2 ⟨g, rfl, hBg, hg2, hb2⟩
             have hb02 := hb1.trans (hb2.mono hb1.size))
          | (go_at_call 58; refine (HWo.out _ (hp.below hb02) (hq.below hb02)).mono ?_; rintro e w3 ⟨rfl, hb3⟩)
          | (refine wpList_mput (enc := encU) rfl (.tmp 54) _ _ (.inr rfl) Try.underlying116 Try.underlying25 (MapIs.new _) rfl 0 rfl 0 rfl ?_; intro w4 hM4 hgr4))
        have hg3 := heap_below hg2 hb3
        have hgl3 := (Array.getElem?_eq_some_iff.1 hg3).1
        have hb34 : Below w3.heap.size w3 w4 := ((Below.refl _ _).alloc (Nat.le_refl _) _).grown hgr4 (alloc_le _ _) (fun g hg => by injection hg with hg; omega)
        have hg4 := heap_below hg3 hb34
        have hb03 := hb02.trans (hb3.mono hb02.size)
        have hb04 := hb03.trans (hb34.mono hb03.size)
        have hb14 : Below w1.heap.size w1 w4 := (hb2.trans (hb3.mono hb2.size)).trans (hb34.mono (Nat.le_trans hb2.size hb3.size))
        have hml4 := hM4.lt
        have hs13 : w1.heap.size ≤ w3.heap.size := Nat.le_trans hb2.size hb3.size
        have hs01 := hb1.size
        clear hg2 hg3 hmk
        go_loopw [15, 17, 58] (fun v e i wr => ∃ (k : Nat) (zs : List Nat) (F0 : Int → Option Nat), k ≤ xs.length ∧ i = .int .i64 k ∧ e = .int .i64 ((sumLen l (xs.take k) : Nat) : Int) ∧ zs.length = N ∧ Own eInt 3 wr w4.heap.size v (T.take k) ∧ Hid (copyGo a l xs 0 (List.replicate N 0) = copyGo a l (xs.drop k) (sumLen l (xs.take k)) zs) ∧ Hid (nowGo (xs.drop k) (T.drop k) F0 = nowF xs T) ∧ wr.heap[g]? = some (.cells (eU64.flat zs).toArray 25 (0, 0)) ∧ MapIs .u64 encU wr w3.heap.size F0 ∧ GrownS (fun i => i = g ∨ i = w3.heap.size) w4 wr) (fun _ _ i _ => xs.length - (intOf i).toNat)
        case atStart => exact ⟨0, List.replicate N 0, _, by omega, rfl, by simp [sumLen], by simp, Own.nil, by simp [Hid, sumLen], rfl, hg4, hM4, GrownS.refl _ _⟩
        case round =>
          obtain ⟨k, zs, F0, hk, rfl, rfl, hzl, hown, HZ, HF, qz, hM, hG⟩ := hrel
          have hbr1 : Below w1.heap.size w1 wr := hb14.trans (hG.toBelow hb14.size (fun i hi => by omega))
          have hbr : Below w.heap.size w wr := hb1.trans (hbr1.mono hb1.size)
          by_cases hlt : k < xs.length
          · obtain ⟨y, hy⟩ : ∃ y, xs[k]? = some y := ⟨xs[k], List.getElem?_eq_getElem hlt⟩
            obtain ⟨s, hsy, hso, hsp, hca⟩ := HAT.out y (List.mem_of_getElem? hy)
            obtain ⟨b5, off5, rfl, hlt5, cy⟩ := (hrd1.below hbr1).int hy
            have hTk := HTA.out k hlt
            have HCG := Lib.hid (copyGo_at (a := a) (l := l) hy (sumLen l (xs.take k)) zs)
            have HNG := Lib.hid (nowGo_at hy hTk F0)
            have hTt : T.take (k + 1) = T.take k ++ [((sumLen l (xs.take k) : Nat) : Int)] := by rw [List.take_add_one, hTk]; rfl
            have hsl := sumLen_le (l := l) hy
            have HSA := Lib.hid (sumLen_at (l := l) hy)
            rw [HS.out] at hsl
            unfold lenOf at hsl HCG
            rw [hso] at hsl HCG HSA
            have HTT := Lib.hid hTt
            have HCA := Lib.hid hca
            obtain ⟨n1, n2, n3, n4, n5, _⟩ := headCheck_ok hsp.check
            have hfit := hsp.fits
            have HSO := Lib.hid hso
            have hTl2 : (T.take k).length = k := by rw [List.length_take]; omega
            clear hy hTk hTt hsp hca hso
            subst hsy
            obtain ⟨at_, r, b, tg, f0⟩ := s
            simp only at n1 n2 n3 n4 n5 HCA cy HNG
            obtain ⟨r, rfl⟩ := Int.eq_ofNat_of_zero_le n1
            obtain ⟨b, rfl⟩ := Int.eq_ofNat_of_zero_le n2
            simp only [Head.len, Int.toNat_natCast] at hfit HCA hsl HCG HSA
            generalize sumLen l (xs.take k) = e0 at *
            have h63 : (T.take k).length + ([(e0 : Int)] : List Int).length ≤ maxLen := by rw [hTl2]; simp [maxLen]; omega
            have hby : ((T.take k).length + ([(e0 : Int)] : List Int).length) * 8 ≤ 140737488355328 := by rw [hTl2]; simp; omega
            have hB5 : w4.heap.size ≤ (wr.alloc (.cells (eInt.flat [(e0 : Int)]).toArray 3)).heap.size := Nat.le_trans hG.size (alloc_le _ _)
            have hng : g ≠ w3.heap.size := by omega
            have hgw := (Array.getElem?_eq_some_iff.1 qz).1
            go_wp2_with (first
              | (at_builtin; refine wpList_append_Own (news := [(e0 : Int)]) rfl (.tmp 62) (.tmp 64) rfl tyInt (hown.alloc _) (Rd.of_block (heap_alloc_new _ _) rfl) rfl 1 1 rfl rfl hB5 h63 hby ?_; intro v' w5 hown5 hgr5 hat5
                 have hM5 := (hM.alloc (.cells (eInt.flat [(e0 : Int)]).toArray 3)).grown hgr5 (fun h => by have := (hown.lt _ h).1; omega)
                 have q5 : w5.heap[g]? = some (.cells (eU64.flat zs).toArray 25 (0, 0)) := (hgr5.block g (Nat.lt_of_lt_of_le hgw (alloc_le _ _)) (fun h => by have := (hown.lt _ h.symm).1; omega)).trans (heap_alloc_keep qz)
                 have hG5 := (hG.alloc (.cells (eInt.flat [(e0 : Int)]).toArray 3)).grown hgr5 (fun g' h => .inr (hown.lt g' h).1))
              | (refine wpList_mput (enc := encU) rfl (.tmp 66) _ _ (.inl rfl) Try.underlying116 Try.underlying25 hM5 rfl _ (by rfl) (e0 + 1) (by rfl) ?_; intro w6 hM6 hgr6
                 have hown6 := hown5.map_grown hM5 hgr6
                 have q6 : w6.heap[g]? = some (.cells (eU64.flat zs).toArray 25 (0, 0)) := (hgr6.block g (Array.getElem?_eq_some_iff.1 q5).1 (fun h => hng (by injection h))).trans q5
                 have hG6 := hG5.grown hgr6 (fun g' h => .inl (.inr (by injection h with h; exact h.symm)))
                 have hbr6 : Below w.heap.size w w6 := hb04.trans (hG6.toBelow hb04.size (fun i hi => by omega)))
              | (go_at_call 59; refine (HCA.out _ (hp.below hbr6)).mono ?_; rintro e w7 ⟨ot, A8, c8, A9, c9, ofr, rfl, hb7⟩))
            have q8 := heap_alloc_keep (o' := .cells #[.int .i64 ot, .slice A8 r c8, .slice A9 b c9, .bool ofr] 118) (heap_below q6 hb7)
            have hG8 := (hG6.below hb7).alloc (.cells #[.int .i64 ot, .slice A8 r c8, .slice A9 b c9, .bool ofr] 118)
            have hown8 := (hown6.below hb7).alloc (.cells #[.int .i64 ot, .slice A8 r c8, .slice A9 b c9, .bool ofr] 118)
            have hM8 := (hM6.below hb7).alloc (.cells #[.int .i64 ot, .slice A8 r c8, .slice A9 b c9, .bool ofr] 118)
            generalize w7.alloc (.cells #[.int .i64 ot, .slice A8 r c8, .slice A9 b c9, .bool ofr] 118) = w8 at q8 hG8 hown8 hM8 ⊢
            have hp8 : Rd eU64 w8.drew (Option.map (fun x => x.add at_) A) ((a.drop at_).take (1 + r + b)) := (((hp.below (hb04.trans (hG8.toBelow hb04.size (fun i hi => by omega)))).drew).drop at_ (Option.map (fun x => x.add at_) A) (fun b off hA _ => by subst hA; simp [eU64, Addr.add_lit])).take (1 + r + b)
            have HN : Hid (at_ + (1 + r + b) - at_ = ((a.drop at_).take (1 + r + b)).length) := by show _ = _; simp; omega
            have HMM : Hid (1 + r + b = Nat.min (at_ + (1 + r + b) - at_) (N - e0)) := by show 1 + r + b = min (at_ + (1 + r + b) - at_) (N - e0); omega
            have HFT : Hid (e0 + (1 + r + b) ≤ zs.length) := by show _ ≤ _; omega
            have f1 : e0 ≤ N := by omega
            have f2 : ¬ N = e0 := by omega
            have f3 : IntKind.i64.wrap ((at_ : Int) + (1 + (r : Int) + (b : Int))) = (at_ : Int) + (1 + (r : Int) + (b : Int)) := by rw [IntKind.wrap_i64]; omega
            have f4 : ((at_ : Int) + (1 + (r : Int) + (b : Int))).toNat = at_ + (1 + r + b) := by omega
            have f5 : at_ + (1 + r + b) ≤ c := by omega
            have f6 : ¬ c = at_ := by omega
            have f7 : (0 : Int) ≤ (at_ : Int) + (1 + (r : Int) + (b : Int)) := by omega
            have f8 : (at_ : Int) + (1 + (r : Int) + (b : Int)) ≤ (c : Int) := by omega
            go_region_law (refine step_copy_El (d0 := e0) (m := 1 + r + b) (dp := some ⟨g, e0, none⟩) (dl := N - e0) (dc := N - e0) (n := at_ + (1 + r + b) - at_) (c := c - at_) rfl (.tmp 89) (.tmp 95) rfl tyU64 (show w8.drew.heap[g]? = _ from q8) hp8 HN.out (by simp [Act.eval, Act.put]) (by simp [Act.eval, Act.put]) HMM.out (fun _ => by simp [eU64]) HFT.out ?_; intro w9 hz9 hgr9 hs9)
            have hg4l := (Array.getElem?_eq_some_iff.1 hg4).1
            have hown9 := hown8.drew.grown hgr9 (.inr (fun h => by have := (hown8.lt g h).1; omega))
            have hM9 := hM8.drew.grown hgr9 (fun h => hng (by injection h))
            have hG9 := hG8.drew.grown hgr9 (fun g' h => .inl (.inl (by injection h with h; exact h.symm)))
            have hspl : (splice zs e0 (((a.drop at_).take (1 + r + b)).take (1 + r + b))).length = N := by rw [splice_len (by simp; omega)]; exact hzl
            have H1 : Hid (copyGo a l xs 0 (List.replicate N 0) = copyGo a l (xs.drop (k + 1)) (sumLen l (xs.take (k + 1))) (splice zs e0 (((a.drop at_).take (1 + r + b)).take (1 + r + b)))) := by
              show _ = _
              rw [HZ.out, HCG.out, HSA.out, List.take_take, Nat.min_self]
            have H2 : Hid (nowGo (xs.drop (k + 1)) (T.drop (k + 1)) (fput F0 ((at_ : Int) + 1) (e0 + 1)) = nowF xs T) := by show _ = _; rw [← HF.out, HNG.out]; rfl
            clear f1 f2 f3 f4 f5 f6 f7 f8 HN HMM HFT hp8
            go_wp2_with fail
            go_roundw
            case rel => exact ⟨k + 1, _, _, by omega, by go_num, by rw [HSA.out]; go_num, hspl, by rw [HTT.out]; exact hown9, H1, H2, hz9.out, hM9, hG9⟩
            case measure => simp [intOf]; omega
          · have hTk : T.take k = T := List.take_of_length_le (by omega)
            have hxk : xs.take k = xs := List.take_of_length_le (by omega)
            have HZ1 : Hid (copyGo a l xs 0 (List.replicate N 0) = zs) := by show _ = _; rw [HZ.out, copyGo_end hlt]
            have HF1 : Hid (F0 = nowF xs T) := by show _ = _; rw [← HF.out, nowGo_end hlt]
            rw [hTk] at hown
            rw [HF1.out] at hM
            rw [hxk, HS.out]
            obtain ⟨A15, c15, rfl, _, _, hrd15⟩ := hown.rd
            rw [hTl] at hown ⊢
            obtain ⟨wo, rfl⟩ : ∃ wo : World, wo = wr := ⟨_, rfl⟩
            clear hTk hxk HF1 HF HZ
            go_wp2_with fail
            have hgw := (Array.getElem?_eq_some_iff.1 qz).1
            have hml := hM.lt
            have hg4l := (Array.getElem?_eq_some_iff.1 hg4).1
            have hA15 : ∀ q, A15 = some q → ¬ q.block = g := fun q h => by
              subst h
              have := (hown.lt q.block rfl).1
              omega
            go_loopw [103] (fun i wr => ∃ (k : Nat) (zs2 : List Nat), k ≤ xs.length ∧ i = .int .i64 k ∧ zs2.length = N ∧ Hid (fixGo (nowF xs T) l xs T zs = fixGo (nowF xs T) l (xs.drop k) (T.drop k) zs2) ∧ wr.heap[g]? = some (.cells (eU64.flat zs2).toArray 25 (0, 0)) ∧ GrownS (fun i => i = g) wo wr) (fun i _ => xs.length - (intOf i).toNat)
            case atStart => exact ⟨0, zs, by omega, rfl, hzl, by simp [Hid], qz, GrownS.refl _ _⟩
            case round =>
              obtain ⟨k, zs2, hk, rfl, hzl2, HZ2, qz2, hG2⟩ := hrel
              have hbo1 : Below w1.heap.size w1 wr := hbr1.trans (hG2.toBelow hbr1.size (fun i hi => by omega))
              have hbo : Below w.heap.size w wr := hb1.trans (hbo1.mono hb1.size)
              by_cases hlt2 : k < xs.length
              · obtain ⟨y, hy⟩ : ∃ y, xs[k]? = some y := ⟨xs[k], List.getElem?_eq_getElem hlt2⟩
                obtain ⟨s, hsy, hso, hsp, hca⟩ := HAT.out y (List.mem_of_getElem? hy)
                obtain ⟨b5, off5, rfl, hlt5, cy⟩ := (hrd1.below hbo1).int hy
                have hTk := HTA.out k hlt2
                have HFG := Lib.hid (fixGo_at (f := nowF xs T) (l := l) hy hTk zs2)
                have hsl := sumLen_le (l := l) hy
                rw [HS.out] at hsl
                unfold lenOf at hsl
                rw [hso] at hsl HFG
                have HCA := Lib.hid (hca _ (hp.below hbo))
                obtain ⟨n1, n2, n3, n4, n5, _⟩ := headCheck_ok hsp.check
                have HTK := Lib.hid hTk
                clear hy hTk hsp hca hso
                subst hsy
                obtain ⟨at_, r, b, tg, f0⟩ := s
                simp only at n1 n2 n3 n4 n5 HCA cy
                obtain ⟨r, rfl⟩ := Int.eq_ofNat_of_zero_le n1
                obtain ⟨b, rfl⟩ := Int.eq_ofNat_of_zero_le n2
                simp only [Head.len, Int.toNat_natCast] at HCA hsl HFG
                generalize sumLen l (xs.take k) = e0 at *
                go_wp2_with (go_at_call 59; refine HCA.out.mono ?_; rintro e w7 ⟨ot, A8, c8, A9, c9, ofr, rfl, hb7⟩)
                have q8 := heap_alloc_keep (o' := .cells #[.int .i64 ot, .slice A8 r c8, .slice A9 b c9, .bool ofr] 118) (heap_below qz2 hb7)
                have hG8 := (hG2.below hb7).alloc (.cells #[.int .i64 ot, .slice A8 r c8, .slice A9 b c9, .bool ofr] 118)
                generalize w7.alloc (.cells #[.int .i64 ot, .slice A8 r c8, .slice A9 b c9, .bool ofr] 118) = w8 at q8 hG8 ⊢
                obtain ⟨sg, hsg⟩ : ∃ sg, (zs2.drop (e0 + 1)).take r = sg := ⟨_, rfl⟩
                have hsgl : sg.length = r := by rw [← hsg]; simp; omega
                have HSG : Hid (∀ j, j < r → zs2[e0 + 1 + j]? = sg[j]?) := fun j hj => by rw [← hsg, seg_get hj]
                have HFX : Hid (fixRow (nowF xs T) zs2 e0 r = splice zs2 (e0 + 1) (sg.map fun (v : Nat) => (nowF xs T (v : Int)).getD 0)) := by show _ = _; rw [fixRow, hsg]
                have hsp0 : splice zs2 (e0 + 1) sg = zs2 := by
                  rw [← hsg, splice]
                  have : ((zs2.drop (e0 + 1)).take r).length = r := by simp; omega
                  rw [this, show zs2.drop (e0 + 1 + r) = (zs2.drop (e0 + 1)).drop r by rw [List.drop_drop], List.take_append_drop, List.take_append_drop]
                clear hsg
                go_loopw [117] (fun i wr => ∃ (j : Nat) (zs' : List Nat), j ≤ r ∧ i = .int .i64 j ∧ Hid (zs' = splice zs2 (e0 + 1) (((sg.take j).map fun (v : Nat) => (nowF xs T (v : Int)).getD 0) ++ sg.drop j)) ∧ wr.heap[g]? = some (.cells (eU64.flat zs').toArray 25 (0, 0)) ∧ GrownS (fun i => i = g) wo wr) (fun i _ => r - (intOf i).toNat)
                case atStart => exact ⟨0, zs2, by omega, rfl, by simp [Hid, hsp0], q8, hG8⟩
                case round =>
                  obtain ⟨j, zs', hj, rfl, hZ', q9, hG9⟩ := hrel
                  by_cases hlj : j < r
                  · obtain ⟨v, hv⟩ : ∃ v, sg[j]? = some v := ⟨sg[j]'(by omega), List.getElem?_eq_getElem _⟩
                    obtain ⟨x1, x2⟩ := seg_step (fun (v : Nat) => (nowF xs T (v : Int)).getD 0) hv
                    have hcl : (((sg.take j).map fun (v : Nat) => (nowF xs T (v : Int)).getD 0) ++ sg.drop j).length = r := by simp; omega
                    have hz9 : zs'[e0 + 1 + j]? = some v := by rw [hZ'.out, splice_get (by omega) (by omega)]; exact x1
                    have HST := Lib.hid (fun x : Nat => store_u64 (w := wr.drew) (x := x) q9 (by rw [hZ'.out, splice_len (by omega)]; omega : e0 + 1 + j < zs'.length))
                    have HSE : Hid (zs'.set (e0 + 1 + j) ((nowF xs T (v : Int)).getD 0) = splice zs2 (e0 + 1) (((sg.take (j + 1)).map fun (v : Nat) => (nowF xs T (v : Int)).getD 0) ++ sg.drop (j + 1))) := by show _ = _; rw [hZ'.out, splice_set (by omega) (by omega), x2]
                    have c9 : wr.cell? ⟨g, e0 + 1 + j, none⟩ = some (.int .u64 (v : Int)) := own_u64 q9 hz9
                    have hfz : wr.frozen? ⟨g, e0 + 1 + j, none⟩ = false := own_free q9
                    obtain ⟨b6, off6, rfl, hlt6, cT⟩ := (hrd15.keepS hG9 hA15).int HTK.out
                    have hM9 := hM.keepS hG9 (by omega)
                    have hl : (Instr.lookup 116 (.map (some w3.heap.size)) (.int .u64 (v : Int)) false).run Try.prog wr.drew = .ok (.int .u64 (((nowF xs T (v : Int)).getD 0 : Nat) : Int)) wr.drew := by
                      rw [run_look (P := Try.prog) false hM9.drew Try.underlying116 Try.underlying25 (zeroU64 _), lookU64]
                    generalize (nowF xs T (v : Int)).getD 0 = x at *
                    have hk0 : (0 : Int) ≤ (k : Int) := by omega
                    have hk1 : (k : Int) < (T.length : Int) := by omega
                    have hi0 : (0 : Int) ≤ (e0 : Int) + 1 + (j : Int) := by omega
                    have hi1 : (e0 : Int) + 1 + (j : Int) < (N : Int) := by omega
                    have hw1 : IntKind.i64.wrap ((e0 : Int) + 1) = (e0 : Int) + 1 := by rw [IntKind.wrap_i64]; omega
                    have hw2 : IntKind.i64.wrap ((e0 : Int) + 1 + (j : Int)) = (e0 : Int) + 1 + (j : Int) := by rw [IntKind.wrap_i64]; omega
                    have hw3 : ((e0 : Int) + 1 + (j : Int)).toNat = e0 + 1 + j := by omega
                    clear x1 x2 hz9 hv hcl
                    go_wp2_with fail
                    go_region
                    go_wp2_with fail
                    go_roundw
                    case rel => exact ⟨j + 1, _, by omega, by go_num, HSE, HST.out x, hG9.drew.setCell (.inl rfl) _⟩
                    case measure => simp [intOf]; omega
                  · have htj : sg.take j = sg := List.take_of_length_le (by omega)
                    have hdj : sg.drop j = [] := List.drop_of_length_le (by omega)
                    have H1 : Hid (fixGo (nowF xs T) l xs T zs = fixGo (nowF xs T) l (xs.drop (k + 1)) (T.drop (k + 1)) zs') := by
                      show _ = _
                      rw [HZ2.out, HFG.out, HFX.out, hZ'.out, htj, hdj, List.append_nil]
                    have H2 : zs'.length = N := by
                      rw [hZ'.out, htj, hdj, List.append_nil, splice_len (by simp; omega)]; exact hzl2
                    clear htj hdj
                    go_wp2_with fail
                    go_roundw
                    case rel => exact ⟨k + 1, zs', by omega, by go_num, H2, H1, q9, hG9⟩
                    case measure => simp [intOf]; omega
              · have HZ3 : Hid (fixGo (nowF xs T) l xs T zs = zs2) := by show _ = _; rw [HZ2.out, fixGo_end hlt2]
                have hto := hown.keepS hG2 (fun q h => by have := (hown.lt q h).1; omega)
                have horder := hown1.below hbo1
                have hs04 := hb04.size
                by_cases hend : S < N
                · have HC1 : Hid (carryOut a l xs N = zs2.set S (gapWord ((N : Int) - (S : Int)))) := by show _ = _; rw [HCO.out, if_pos hend, HZ1.out, HZ3.out]
                  have HW : Hid (∀ W, Calls Try.prog 60 #[.agg #[.int .i64 0, .int .i64 ((N : Int) - (S : Int) - 1), .int .i64 0, .bool true]] W (Ret (.tuple #[.int .u64 (gapWord ((N : Int) - (S : Int)) : Int), .int .i64 (headCheck ⟨0, (N : Int) - (S : Int) - 1, 0, true⟩)]) W)) := fun W => by
                    have := headWord_any ⟨0, (N : Int) - (S : Int) - 1, 0, true⟩ W
                    rw [gapWord_eq (n := (N : Int) - (S : Int)) (by omega) (by omega)] at this; exact this
                  obtain ⟨gw, hgw'⟩ : ∃ gw, gapWord ((N : Int) - (S : Int)) = gw := ⟨_, rfl⟩
                  rw [hgw'] at HW HC1
                  obtain ⟨zo, hzo⟩ : ∃ zo, zs2[S]? = some zo := ⟨zs2[S]'(by omega), List.getElem?_eq_getElem _⟩
                  have HZO := Lib.hid hzo
                  clear hzo hgw'
                  go_wp2_with (go_at_call 60; refine (HW.out _).mono ?_; rintro e w8 ⟨rfl, hb8⟩
                               have hq8 := Lib.hid (heap_below qz2 hb8)
                               have hc8 := own_u64 hq8.out HZO.out
                               have hf8 : w8.frozen? ⟨g, S, none⟩ = false := own_free hq8.out)
                  (try simp only [Exit.inBlock, Exit.then]); refine bodyPost_ret (results_tmp4 rfl _ _ _) rfl ?_
                  have hst := store_u64 (x := gw) hq8.out (show S < zs2.length by omega)
                  refine ⟨_, _, _, rfl, by rw [HC1.out]; exact own_of_block hst (by omega) (by simp [maxLen]; omega) (by rw [List.length_set]; exact hzl2), (horder.below hb8).box hq8.out (by decide) _ _, ((hto.below hb8).box hq8.out (by decide) _ _).mono hs04, (hbo.trans (hb8.mono hbo.size)).setCell (p := ⟨g, S, none⟩) (by simp only; omega) _⟩
                · have HC1 : Hid (carryOut a l xs N = zs2) := by show _ = _; rw [HCO.out, if_neg hend, HZ1.out, HZ3.out]
                  go_wp2_with fail
                  (try simp only [Exit.inBlock, Exit.then]); refine bodyPost_ret (results_tmp4 rfl _ _ _) rfl ?_
                  exact ⟨_, _, _, rfl, by rw [HC1.out]; exact own_of_block qz2 (by omega) (by simp [maxLen]; omega) hzl2, horder, hto.mono hs04, hbo⟩
    · have HV := Lib.hid (carryCopy_n ht hn)
      rw [HV.out]
      have HNe := Lib.hid (fun W => wordNew_any n W)
      obtain ⟨r, hr⟩ : ∃ r, (wordNew n).2 = r := ⟨_, rfl⟩
      rw [ht] at HO
      rw [hr] at HNe hn ⊢
      have z : (r != 0) = true := by simp [hn]
      clear ht hn hr HV
      go_enter Try.func31, Try.ntmps31
      go_wp2_with (first
        | (go_at_call 56; refine HO.out.mono ?_; rintro e w1 ⟨v1, rfl, hown1, hb1⟩
           have hrd1 := hown1.rd
           obtain ⟨A1, c1, rfl, _, _, hrd1⟩ := hrd1)
        | (go_at_call 57; refine (HNe.out _).mono ?_; rintro e w2 ⟨v2, rfl, hown2, hb2⟩))
      (try simp only [Exit.inBlock, Exit.then]); refine bodyPost_ret (results_tmp4 rfl _ _ _) rfl ?_
      exact ⟨_, _, _, rfl, Own.nil, Own.nil, Own.nil, hb1.trans (hb2.mono hb1.size)⟩
  · have HV := Lib.hid (carryCopy_e (n := n) ht)
    rw [HV.out]
    obtain ⟨r, hr⟩ : ∃ r, tintErr a fr = r := ⟨_, rfl⟩
    rw [hr] at HO ht ⊢
    have z : (r != 0) = true := by simp [ht]
    clear ht hr HV
    go_enter Try.func31, Try.ntmps31
    go_wp2_with (go_at_call 56; refine HO.out.mono ?_; rintro e w1 ⟨v1, rfl, hown1, hb1⟩)
    (try simp only [Exit.inBlock, Exit.then]); refine bodyPost_ret (results_tmp4 rfl _ _ _) rfl ?_
    exact ⟨_, _, _, rfl, Own.nil, Own.nil, Own.nil, hb1⟩
end Go.Proofs.Ythkenhbpimddpaa
