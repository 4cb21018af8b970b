/- Package pin: find, Many, Add, Drop. -/
import Derived.Test.YthkenhbpimddpaaPinF
import Derived.Test.YthkenhbpimddpaaDel
import Derived.Test.YthkenhbpimddpaaW6
namespace Go.Proofs.Ythkenhbpimddpaa
open Go.RowKit

def pinErr (p : List Pin) (a : Int) : Int := if pinCheck p = 0 then (if there a = true then 0 else 4) else pinCheck p
theorem pinErr_ok {p : List Pin} {a : Int} (h : pinErr p a = 0) : pinCheck p = 0 ∧ there a = true := by
  unfold pinErr at h
  split at h
  · rename_i h0
    split at h
    · exact ⟨h0, ‹_›⟩
    · exact absurd h (by decide)
  · contradiction

def pinFindV (p : List Pin) (a : Int) : Value := if pinErr p a = 0 then .tuple #[.int .i64 (pinLb p a), .bool (pinHas p a), .int .i64 0] else .tuple #[.int .i64 0, .bool false, .int .i64 (pinErr p a)]
theorem pinFindV_ok {p : List Pin} {a : Int} (h : pinErr p a = 0) : pinFindV p a = .tuple #[.int .i64 (pinLb p a), .bool (pinHas p a), .int .i64 0] := by simp [pinFindV, h]
theorem pinFindV_no {p : List Pin} {a : Int} (h : ¬ pinErr p a = 0) : pinFindV p a = .tuple #[.int .i64 0, .bool false, .int .i64 (pinErr p a)] := by simp [pinFindV, h]

set_option maxRecDepth 100000 in
set_option maxHeartbeats 1000000 in
theorem pinFind_any (A : Option Addr) (c : Nat) (p : List Pin) (a : Int) (w : World) (hp : Rd ePin w A p) (hm : p.length ≤ maxLen) :
    Calls Try.prog 39 #[.slice A p.length c, .int .i64 a] w
      (Ret (pinFindV p a) w) := by
  by_cases hc : pinCheck p = 0
  · obtain ⟨h16, _, hs⟩ := pinCheck_ok hc
    cases ht : there a
    · have HE : Hid (pinErr p a = 4) := by simp [pinErr, Hid, hc, ht]
      have hz : (pinCheck p == 0) = true := by simp [hc]
      have HC := Lib.hid hc
      clear hc
      go_enter Try.func39, Try.ntmps39
      go_wp2_with (first
        | (go_at_call 83; refine (pinCheck_any _ _ _ _ hp hm).mono ?_; rintro e w' ⟨rfl, hb⟩)
        | (go_at_call 84; refine (pinThere_any _ _).mono ?_; rintro e w' ⟨rfl, rfl⟩))
      go_ret3
      exact ⟨by rw [pinFindV_no (by rw [HE.out]; decide), HE.out]; rfl, hb⟩
    · have HE : Hid (pinErr p a = 0) := by simp [pinErr, Hid, hc, ht]
      have hz : (pinCheck p == 0) = true := by simp [hc]
      have hz' : (pinCheck p != 0) = false := by simp [hc]
      have HS := Lib.hid hs
      clear hc hs
      go_enter Try.func39, Try.ntmps39
      go_wp2_with (first
        | (go_at_call 83; refine (pinCheck_any _ _ _ _ hp hm).mono ?_; rintro e w' ⟨rfl, hb⟩)
        | (go_at_call 84; refine (pinThere_any _ _).mono ?_; rintro e w' ⟨rfl, rfl⟩)
        | (go_at_call 85; refine (pinBsearch _ _ _ _ _ (hp.below hb) (by omega) HS.out).mono ?_; rintro e w' ⟨rfl, hb2⟩))
      go_ret3
      exact ⟨by rw [pinFindV_ok HE.out]; rfl, hb.trans (hb2.mono hb.size)⟩
  · have HE : Hid (pinErr p a = pinCheck p ∧ ¬ pinCheck p = 0) := by simp [pinErr, Hid, hc]
    have hz : (pinCheck p == 0) = false := by simp [hc]
    have hz' : (pinCheck p != 0) = true := by simp [hc]
    clear hc
    go_enter Try.func39, Try.ntmps39
    go_wp2_with (first
      | (go_at_call 83; refine (pinCheck_any _ _ _ _ hp hm).mono ?_; rintro e w' ⟨rfl, hb⟩)
      | (go_at_call 84; refine (pinThere_any _ _).mono ?_; rintro e w' ⟨rfl, rfl⟩))
    go_ret3
    exact ⟨by rw [pinFindV_no (by rw [HE.out.1]; exact HE.out.2), HE.out.1]; rfl, hb⟩

def pinMany (p : List Pin) (a : Int) : Int := if pinErr p a = 0 ∧ pinHas p a = true then (match p[pinLb p a]? with | some x => x.many | none => 0) else 0
def pinAdd (p : List Pin) (a : Int) : List Pin × Int × Int :=
  if pinErr p a = 0 then
    if pinHas p a = true then match p[pinLb p a]? with
      | some x => if x.many = 1000000 then ([], 0, 7) else (p.set (pinLb p a) ⟨x.at_, x.many + 1⟩, x.many + 1, 0)
      | none => ([], 0, 7)
    else if p.length = 16 then ([], 0, 7) else (insAt p (pinLb p a) ⟨a, 1⟩, 1, 0)
  else ([], 0, pinErr p a)
def pinDrop (p : List Pin) (a : Int) : List Pin × Int × Int :=
  if pinErr p a = 0 then
    if pinHas p a = true then match p[pinLb p a]? with
      | some x => if x.many = 1 then (delAt p (pinLb p a), 0, 0) else (p.set (pinLb p a) ⟨x.at_, x.many - 1⟩, x.many - 1, 0)
      | none => ([], 0, 5)
    else ([], 0, 5)
  else ([], 0, pinErr p a)

set_option maxRecDepth 100000 in
set_option maxHeartbeats 1000000 in
theorem pinAdd_any (A : Option Addr) (c : Nat) (p : List Pin) (a : Int) (w : World) (hp : Rd ePin w A p) (hm : p.length ≤ maxLen) :
    Calls Try.prog 13 #[.slice A p.length c, .int .i64 a] w (OwnRet2 ePin 29 w (pinAdd p a).1 (.int .i64 (pinAdd p a).2.1) (.int .i64 (pinAdd p a).2.2)) := by
  by_cases he : pinErr p a = 0
  · obtain ⟨hc, ht⟩ := pinErr_ok he
    obtain ⟨h16, hall, hs⟩ := pinCheck_ok hc
    have HV := Lib.hid (pinFindV_ok he)
    cases hh : pinHas p a
    · by_cases hl : p.length = 16
      · have HA : Hid (pinAdd p a = ([], 0, 7)) := by simp [pinAdd, Hid, he, hh, hl]
        have hz : ((p.length : Int) == 16) = true := by simp [hl]
        rw [HA.out]
        rw [hh] at HV
        clear he hh hl hs
        go_enter Try.func13, Try.ntmps13
        go_wp2_with (go_at_call 39; refine (pinFind_any _ _ _ _ _ hp hm).mono ?_; rw [HV.out]; rintro e w' ⟨rfl, hb⟩)
        go_ret3
        exact ⟨_, rfl, Own.nil, hb⟩
      · have HA : Hid (pinAdd p a = (insAt p (pinLb p a) ⟨a, 1⟩, 1, 0)) := by simp [pinAdd, Hid, he, hh, hl]
        have hz : ((p.length : Int) == 16) = false := by simp; omega
        rw [HA.out]
        rw [hh] at HV
        have hle := pinLb_le p a
        clear he hh hl hs
        go_enter Try.func13, Try.ntmps13
        go_wp2_with (first
          | (go_at_call 39; refine (pinFind_any _ _ _ _ _ hp hm).mono ?_; rw [HV.out]; rintro e w' ⟨rfl, hb⟩)
          | (go_at_call 8; refine (clonePin _ _ _ _ (hp.below hb) (by omega)).mono ?_; rintro e w2 ⟨v2, rfl, hown2, hb2⟩)
          | (go_at_call 40
             refine (insertPin v2 p _ ⟨a, 0⟩ _ w.heap.size w2.heap.size ((hown2.alloc _).mono hb.size) hle (heap_alloc_new _ _) (fun h => by have := (hown2.lt _ h).2; omega) (by omega) (by have := hb.size; have := hb2.size; simp; omega)).mono ?_
             rintro e w3 ⟨v3, rfl, hown3, hgr3, hat3⟩
             obtain ⟨g, ys, rfl, hg0, hcap, hg⟩ := hown3.form (by rw [length_insAt _ _ _ hle]; omega)
             rw [length_insAt _ _ _ hle]
             have hx : (insAt p (pinLb p a) ⟨a, 0⟩ ++ ys)[pinLb p a]? = some ⟨a, 0⟩ := by
               rw [insAt, List.append_assoc, List.getElem?_append_right (by simp; omega)]; simp [Nat.min_eq_left hle]
             have c1 : w3.cell? ⟨g, pinLb p a * 2 + 1, none⟩ = some (.int .i64 0) := own_cell (j := 1) hg hx rfl
             have f1 : w3.frozen? ⟨g, pinLb p a * 2 + 1, none⟩ = false := own_free hg
             have b1 : (pinLb p a : Int) < (p.length : Int) + 1 := by omega
             have b0 : (0 : Int) ≤ (pinLb p a : Int) := by omega
             have hst := heap_store_El (j := 1) (x' := (⟨a, 1⟩ : Pin)) (u := .int .i64 1) hg hx (by decide) rfl
             have hx1 : ((insAt p (pinLb p a) ⟨a, 0⟩ ++ ys).set (pinLb p a) (⟨a, 1⟩ : Pin)) = insAt p (pinLb p a) ⟨a, 1⟩ ++ ys := by
               rw [insAt, List.append_assoc, List.set_append_right _ _ (by simp; omega), insAt]; simp [Nat.min_eq_left hle]
             have c2 := own_cell (j := 1) (x := (⟨a, 1⟩ : Pin)) (u := .int .i64 1) hst (by rw [List.getElem?_set_self (by simp [length_insAt _ _ _ hle]; omega)]) rfl
             have c2 : (w3.setCell ⟨g, pinLb p a * 2 + 1, none⟩ (.int .i64 1)).cell? ⟨g, pinLb p a * 2 + 1, none⟩ = some (.int .i64 1) := c2
             rw [hx1] at hst
             have HST := Lib.hid hst
             have HX := Lib.hid hx1
             have HG := Lib.hid hg
             clear hst hx hg hx1))
        go_quiet (fail)
        go_wp2
        go_ret3
        refine ⟨_, rfl, .inr ⟨g, ys, ?_, hg0, ?_, HST.out⟩, ?_⟩
        · rw [length_insAt _ _ _ hle]; rfl
        · rw [length_insAt _ _ _ hle] at hcap ⊢; exact hcap
        · have hbs := hb.size
          have hbs2 := hb2.size
          refine bdrewN (Below.setCell (((hb.trans (hb2.mono hb.size)).alloc (by omega) _).grown hgr3 (by simp; omega) ?_) hg0 _) _
          intro k hk
          have := (hown2.lt k hk).1
          omega
    · obtain ⟨x, hx, hxa⟩ := pinHas_lt hh
      have hlt : pinLb p a < p.length := (List.getElem?_eq_some_iff.1 hx).1
      have hmx := (hall x (List.mem_of_getElem? hx)).2
      by_cases hM : x.many = 1000000
      · have HA : Hid (pinAdd p a = ([], 0, 7)) := by simp [pinAdd, Hid, he, hh, hx, hM]
        rw [HA.out]
        rw [hh] at HV
        have hxm : (x.many == 1000000) = true := by simp [hM]
        have HX := Lib.hid hx
        have b1 : (pinLb p a : Int) < (p.length : Int) := by omega
        clear he hh hs hx hM hxa
        go_enter Try.func13, Try.ntmps13
        go_wp2_with (first
          | (go_at_call 39; refine (pinFind_any _ _ _ _ _ hp hm).mono ?_; rw [HV.out]; rintro e w1 ⟨rfl, hb⟩
             obtain ⟨b, off, rfl, hlt2, c0, c1⟩ := (hp.below hb).pin HX.out))
        go_ret3
        exact ⟨_, rfl, Own.nil, hb⟩
      · have HA : Hid (pinAdd p a = (p.set (pinLb p a) ⟨x.at_, x.many + 1⟩, x.many + 1, 0)) := by simp [pinAdd, Hid, he, hh, hx, hM]
        rw [HA.out]
        rw [hh] at HV
        have hxm : (x.many == 1000000) = false := by simp [hM]
        have HX := Lib.hid hx
        have b1 : (pinLb p a : Int) < (p.length : Int) := by omega
        have b0 : (0 : Int) ≤ (pinLb p a : Int) := by omega
        clear he hh hs hx hM hxa
        go_enter Try.func13, Try.ntmps13
        go_wp2_with (first
          | (go_at_call 39; refine (pinFind_any _ _ _ _ _ hp hm).mono ?_; rw [HV.out]; rintro e w1 ⟨rfl, hb⟩
             obtain ⟨b, off, rfl, hlt2, c0, c1⟩ := (hp.below hb).pin HX.out)
          | (go_at_call 8; refine (clonePin _ _ _ _ (hp.below hb) (by omega)).mono ?_; rintro e w3 ⟨v2, rfl, hown2, hb2⟩
             obtain ⟨g, ys, rfl, hg0, hcap, hg⟩ := hown2.form (by omega)
             have hx : (p ++ ys)[pinLb p a]? = some x := by rw [List.getElem?_append_left hlt]; exact HX.out
             have d1 : w3.cell? ⟨g, pinLb p a * 2 + 1, none⟩ = some (.int .i64 x.many) := own_cell (j := 1) hg hx rfl
             have f1 : w3.frozen? ⟨g, pinLb p a * 2 + 1, none⟩ = false := own_free hg
             have hst := heap_store_El (j := 1) (x' := (⟨x.at_, x.many + 1⟩ : Pin)) (u := .int .i64 (x.many + 1)) hg hx (by decide) rfl
             have hx1 : ((p ++ ys).set (pinLb p a) (⟨x.at_, x.many + 1⟩ : Pin)) = p.set (pinLb p a) ⟨x.at_, x.many + 1⟩ ++ ys := List.set_append_left _ _ hlt
             have c2 := own_cell (j := 1) (x := (⟨x.at_, x.many + 1⟩ : Pin)) (u := .int .i64 (x.many + 1)) hst (by rw [List.getElem?_set_self (by simp; omega)]) rfl
             have c2 : (w3.setCell ⟨g, pinLb p a * 2 + 1, none⟩ (.int .i64 (x.many + 1))).cell? ⟨g, pinLb p a * 2 + 1, none⟩ = some (.int .i64 (x.many + 1)) := c2
             rw [hx1] at hst
             have HST := Lib.hid hst
             have HG := Lib.hid hg
             clear hst hx hg hx1))
        go_quiet (fail)
        go_wp2
        go_ret3
        refine ⟨_, rfl, .inr ⟨g, ys, ?_, Nat.le_trans hb.size hg0, ?_, HST.out⟩, ?_⟩
        · rw [List.length_set]; rfl
        · rw [List.length_set]; exact hcap
        · have hbs := hb.size
          exact bdrewN (Below.setCell (hb.trans (hb2.mono hb.size)) (Nat.le_trans hb.size hg0) _) _
  · have HA : Hid (pinAdd p a = ([], 0, pinErr p a)) := by simp [pinAdd, Hid, he]
    have HV := Lib.hid (pinFindV_no he)
    have hz : (pinErr p a != 0) = true := by simp [he]
    rw [HA.out]
    clear he
    go_enter Try.func13, Try.ntmps13
    go_wp2_with (go_at_call 39; refine (pinFind_any _ _ _ _ _ hp hm).mono ?_; rw [HV.out]; rintro e w1 ⟨rfl, hb⟩)
    go_ret3
    exact ⟨_, rfl, Own.nil, hb⟩
end Go.Proofs.Ythkenhbpimddpaa
