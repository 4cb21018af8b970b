/- Package pin: Drop. -/
import Derived.Test.YthkenhbpimddpaaPinA
namespace Go.Proofs.Ythkenhbpimddpaa
open Go.RowKit

theorem delAt_set {α : Type} (p : List α) (i : Nat) (x : α) : delAt (p.set i x) i = delAt p i := by
  simp [delAt, List.take_set, List.drop_set]
  exact List.set_eq_of_length_le (by simp; omega)

set_option maxRecDepth 100000 in
set_option maxHeartbeats 1000000 in
theorem pinDrop_any (A : Option Addr) (c : Nat) (p : List Pin) (a : Int) (w : World) (hp : Rd ePin w A p) (hm : p.length ≤ maxLen) :
    Calls Try.prog 14 #[.slice A p.length c, .int .i64 a] w (OwnRet2 ePin 29 w (pinDrop p a).1 (.int .i64 (pinDrop p a).2.1) (.int .i64 (pinDrop p a).2.2)) := by
  by_cases he : pinErr p a = 0
  · obtain ⟨hc, ht⟩ := pinErr_ok he
    obtain ⟨h16, hall, hs⟩ := pinCheck_ok hc
    have HV := Lib.hid (pinFindV_ok he)
    cases hh : pinHas p a
    · have HA : Hid (pinDrop p a = ([], 0, 5)) := by simp [pinDrop, Hid, he, hh]
      rw [HA.out]
      rw [hh] at HV
      clear he hh hs
      go_enter Try.func14, Try.ntmps14
      go_wp2_with (go_at_call 39; refine (pinFind_any _ _ _ _ _ hp hm).mono ?_; rw [HV.out]; rintro e w' ⟨rfl, hb⟩)
      go_ret3
      exact ⟨_, rfl, Own.nil, hb⟩
    · obtain ⟨x, hx, hxa⟩ := pinHas_lt hh
      have hlt : pinLb p a < p.length := (List.getElem?_eq_some_iff.1 hx).1
      have hmx := (hall x (List.mem_of_getElem? hx)).2
      have h1 : 1 ≤ x.many := hmx.1
      have h2 : x.many ≤ 1000000 := hmx.2
      by_cases hM : x.many = 1
      · have HA : Hid (pinDrop p a = (delAt p (pinLb p a), 0, 0)) := by simp [pinDrop, Hid, he, hh, hx, hM]
        rw [HA.out]
        rw [hh] at HV
        have HX := Lib.hid hx
        have HM := Lib.hid hM
        have b1 : (pinLb p a : Int) < (p.length : Int) := by omega
        have b0 : (0 : Int) ≤ (pinLb p a : Int) := by omega
        have hz0 : (x.many - 1 == 0) = true := by simp [hM]
        clear he hh hs hx hM hxa hmx
        go_enter Try.func14, Try.ntmps14
        go_wp2_with (first
          | (go_at_call 39; refine (pinFind_any _ _ _ _ _ hp hm).mono ?_; rw [HV.out]; rintro e w1 ⟨rfl, hb⟩
             obtain ⟨b, off, rfl, hlt2, c0, c1⟩ := (hp.below hb).pin HX.out)
          | (go_at_call 8; refine (clonePin _ _ _ _ (hp.below hb) (by omega)).mono ?_; rintro e w3 ⟨v2, rfl, hown2, hb2⟩
             obtain ⟨g, ys, rfl, hg0, hcap, hg⟩ := hown2.form (by omega)
             have hx : (p ++ ys)[pinLb p a]? = some x := by rw [List.getElem?_append_left hlt]; exact HX.out
             have d1 : w3.cell? ⟨g, pinLb p a * 2 + 1, none⟩ = some (.int .i64 x.many) := own_cell (j := 1) hg hx rfl
             have f1 : w3.frozen? ⟨g, pinLb p a * 2 + 1, none⟩ = false := own_free hg
             have hst := heap_store_El (j := 1) (x' := (⟨x.at_, x.many - 1⟩ : Pin)) (u := .int .i64 (x.many - 1)) hg hx (by decide) rfl
             have hx1 : ((p ++ ys).set (pinLb p a) (⟨x.at_, x.many - 1⟩ : Pin)) = p.set (pinLb p a) ⟨x.at_, x.many - 1⟩ ++ ys := List.set_append_left _ _ hlt
             have c2 := own_cell (j := 1) (x := (⟨x.at_, x.many - 1⟩ : Pin)) (u := .int .i64 (x.many - 1)) hst (by rw [List.getElem?_set_self (by simp; omega)]) rfl
             have c2 : (w3.setCell ⟨g, pinLb p a * 2 + 1, none⟩ (.int .i64 (x.many - 1))).cell? ⟨g, pinLb p a * 2 + 1, none⟩ = some (.int .i64 (x.many - 1)) := c2
             rw [hx1] at hst
             have HST := Lib.hid hst
             have HG := Lib.hid hg
             clear hst hx hg hx1)
          | (go_at_call 41
             refine (deletePin _ (p.set (pinLb p a) ⟨x.at_, x.many - 1⟩) (pinLb p a) _ w.heap.size (.inr ⟨g, ys, by rw [List.length_set], Nat.le_trans hb.size hg0, by rw [List.length_set]; exact hcap, HST.out⟩) (by rw [List.length_set]; exact hlt) (by rw [List.length_set]; omega)).mono ?_
             rintro e w4 ⟨v4, rfl, hown4, hgr4, hat4⟩))
        go_ret3
        refine ⟨_, by rw [HM.out]; rfl, ?_, ?_⟩
        · rw [delAt_set] at hown4; exact hown4
        · have hbs := hb.size
          refine (Below.setCell (hb.trans (hb2.mono hb.size)) (Nat.le_trans hb.size hg0) _).grown hgr4 (by have := hb2.size; simp [World.setCell]; omega) ?_
          intro k hk
          simp [Value.ownBlock] at hk
          omega
      · have HA : Hid (pinDrop p a = (p.set (pinLb p a) ⟨x.at_, x.many - 1⟩, x.many - 1, 0)) := by simp [pinDrop, Hid, he, hh, hx, hM]
        rw [HA.out]
        rw [hh] at HV
        have HX := Lib.hid hx
        have b1 : (pinLb p a : Int) < (p.length : Int) := by omega
        have b0 : (0 : Int) ≤ (pinLb p a : Int) := by omega
        have hz0 : (x.many - 1 == 0) = false := by rw [beq_eq_false_iff_ne]; omega
        clear he hh hs hx hM hxa hmx
        go_enter Try.func14, Try.ntmps14
        go_wp2_with (first
          | (go_at_call 39; refine (pinFind_any _ _ _ _ _ hp hm).mono ?_; rw [HV.out]; rintro e w1 ⟨rfl, hb⟩
             obtain ⟨b, off, rfl, hlt2, c0, c1⟩ := (hp.below hb).pin HX.out)
          | (go_at_call 8; refine (clonePin _ _ _ _ (hp.below hb) (by omega)).mono ?_; rintro e w3 ⟨v2, rfl, hown2, hb2⟩
             obtain ⟨g, ys, rfl, hg0, hcap, hg⟩ := hown2.form (by omega)
             have hx : (p ++ ys)[pinLb p a]? = some x := by rw [List.getElem?_append_left hlt]; exact HX.out
             have d1 : w3.cell? ⟨g, pinLb p a * 2 + 1, none⟩ = some (.int .i64 x.many) := own_cell (j := 1) hg hx rfl
             have f1 : w3.frozen? ⟨g, pinLb p a * 2 + 1, none⟩ = false := own_free hg
             have hst := heap_store_El (j := 1) (x' := (⟨x.at_, x.many - 1⟩ : Pin)) (u := .int .i64 (x.many - 1)) hg hx (by decide) rfl
             have hx1 : ((p ++ ys).set (pinLb p a) (⟨x.at_, x.many - 1⟩ : Pin)) = p.set (pinLb p a) ⟨x.at_, x.many - 1⟩ ++ ys := List.set_append_left _ _ hlt
             have c2 := own_cell (j := 1) (x := (⟨x.at_, x.many - 1⟩ : Pin)) (u := .int .i64 (x.many - 1)) hst (by rw [List.getElem?_set_self (by simp; omega)]) rfl
             have c2 : (w3.setCell ⟨g, pinLb p a * 2 + 1, none⟩ (.int .i64 (x.many - 1))).cell? ⟨g, pinLb p a * 2 + 1, none⟩ = some (.int .i64 (x.many - 1)) := c2
             rw [hx1] at hst
             have HST := Lib.hid hst
             have HG := Lib.hid hg
             clear hst hx hg hx1))
        go_ret3
        refine ⟨_, rfl, .inr ⟨g, ys, ?_, Nat.le_trans hb.size hg0, ?_, HST.out⟩, ?_⟩
        · rw [List.length_set]; rfl
        · rw [List.length_set]; exact hcap
        · exact Below.setCell (hb.trans (hb2.mono hb.size)) (Nat.le_trans hb.size hg0) _
  · have HA : Hid (pinDrop p a = ([], 0, pinErr p a)) := by simp [pinDrop, Hid, he]
    have HV := Lib.hid (pinFindV_no he)
    have hz : (pinErr p a != 0) = true := by simp [he]
    rw [HA.out]
    clear he
    go_enter Try.func14, Try.ntmps14
    go_wp2_with (go_at_call 39; refine (pinFind_any _ _ _ _ _ hp hm).mono ?_; rw [HV.out]; rintro e w1 ⟨rfl, hb⟩)
    go_ret3
    exact ⟨_, rfl, Own.nil, hb⟩
end Go.Proofs.Ythkenhbpimddpaa
