/- Laws and walks that the claim's proof uses, one behind the other:
  Package walk: what its functions compute, in plain Lean.
  Package walk: Spots.
  Package walk: places, refs.
  Package walk: check, Check.
  Package walk: object.
  Package walk: Check, At.
  A world behind another, but for some blocks. No program in sight.
  Package tint: what newHeap computes, in plain Lean.
  Package tint: newHeap.
  Package tint: each.
  Package tint: Reach.
  slices.Sort at []int: off the shelf.
  Package tint: what Reach computes, in plain Lean.
  Package tint: Reach: the walk. -/
import Derived.Maps.OwnOps
import Derived.Shelf.Sort.Plain
import Derived.Shelf.Slices.In.SortNone
import Derived.Ground.NamesProg
import Derived.Test.YthkenhbpimddpaaM1
namespace Go.Proofs.Ythkenhbpimddpaa
open Go.RowKit

def Head.len (h : Head) : Nat := 1 + h.refs.toNat + h.body.toNat
theorem Head.len_pos (h : Head) : 1 ≤ h.len := by unfold Head.len; omega
theorem headLong_len {h : Head} (h1 : 0 ≤ h.refs) (h2 : 0 ≤ h.body) : headLong h = (h.len : Int) := by
  unfold headLong Head.len; omega
def spotAt (a : List Nat) (k : Nat) : Option Spot :=
  match a[k]? with
  | none => none
  | some v => if headBad v = true ∨ a.length < k + (headOf v).len then none else some ⟨k, headOf v⟩
theorem spotAt_no {a : List Nat} {k v : Nat} (hv : a[k]? = some v) (h : headBad v = true ∨ a.length < k + (headOf v).len) : spotAt a k = none := by simp only [spotAt, hv, if_pos h]
theorem spotAt_yes {a : List Nat} {k v : Nat} (hv : a[k]? = some v) (h1 : headBad v = false) (h2 : ¬ a.length < k + (headOf v).len) : spotAt a k = some ⟨k, headOf v⟩ := by
  simp only [spotAt, hv]; rw [if_neg (by simp [h1]; omega)]
def spotsFrom (a : List Nat) (k : Nat) : Option (List Spot) :=
  if k < a.length then
    match spotAt a k with
    | none => none
    | some s => (spotsFrom a (k + s.head.len)).map (s :: ·)
  else some []
termination_by a.length - k
decreasing_by have := s.head.len_pos; omega
theorem spotsFrom_end {a : List Nat} {k : Nat} (h : ¬ k < a.length) : spotsFrom a k = some [] := by rw [spotsFrom, if_neg h]
theorem spotsFrom_no {a : List Nat} {k : Nat} (h : k < a.length) (hs : spotAt a k = none) : spotsFrom a k = none := by rw [spotsFrom, if_pos h, hs]
theorem spotsFrom_yes {a : List Nat} {k : Nat} {s : Spot} (h : k < a.length) (hs : spotAt a k = some s) : spotsFrom a k = (spotsFrom a (k + s.head.len)).map (s :: ·) := by
  conv => lhs; rw [spotsFrom, if_pos h, hs]
def walkSpots (a : List Nat) : List Spot × Int := if a.length > 256 then ([], 2) else match spotsFrom a 0 with
  | none => ([], 3)
  | some l => (l, 0)
theorem walkSpots_large {a : List Nat} (h : a.length > 256) : walkSpots a = ([], 2) := by rw [walkSpots, if_pos h]
theorem walkSpots_form {a : List Nat} (h : ¬ a.length > 256) (h' : spotsFrom a 0 = none) : walkSpots a = ([], 3) := by rw [walkSpots, if_neg h, h']
theorem walkSpots_ok {a : List Nat} {l : List Spot} (h : ¬ a.length > 256) (h' : spotsFrom a 0 = some l) : walkSpots a = (l, 0) := by rw [walkSpots, if_neg h, h']

/-- an arena's words -/
def Words64 (a : List Nat) : Prop := ∀ v ∈ a, v < 18446744073709551616

/-- what a list of spots is -/
structure SpotOk (a : List Nat) (s : Spot) : Prop where
  lt : s.at_ < a.length
  fits : s.at_ + s.head.len ≤ a.length
  head : ∃ v, a[s.at_]? = some v ∧ headBad v = false ∧ s.head = headOf v
theorem SpotOk.check {a : List Nat} {s : Spot} (h : SpotOk a s) : headCheck s.head = 0 := by
  obtain ⟨v, _, hb, he⟩ := h.head
  rw [he]; exact (headBad_no hb).2
theorem spotAt_ok {a : List Nat} {k : Nat} {s : Spot} (h : spotAt a k = some s) : s.at_ = k ∧ SpotOk a s := by
  unfold spotAt at h
  split at h
  · cases h
  · rename_i v hv
    split at h
    · cases h
    · rename_i hn
      injection h with h
      subst h
      have hb : headBad v = false := by cases hb : headBad v <;> simp_all
      exact ⟨rfl, (List.getElem?_eq_some_iff.1 hv).1, by simp only; omega, v, hv, hb, rfl⟩
theorem spotsFrom_all {a : List Nat} {k : Nat} {l : List Spot} (h : spotsFrom a k = some l) : ∀ s ∈ l, SpotOk a s ∧ k ≤ s.at_ := by
  induction k using spotsFrom.induct (a := a) generalizing l with
  | case1 k hk hs => rw [spotsFrom_no hk hs] at h; cases h
  | case2 k hk s hs ih =>
    rw [spotsFrom_yes hk hs] at h
    simp only [Option.map_eq_some_iff] at h
    obtain ⟨l', hl', rfl⟩ := h
    intro s' hs'
    rcases List.mem_cons.1 hs' with rfl | hs'
    · have := spotAt_ok hs
      exact ⟨this.2, by omega⟩
    · have := ih hl' s' hs'
      exact ⟨this.1, by omega⟩
  | case3 k hk => rw [spotsFrom_end hk] at h; cases h; simp

def refsOf (a : List Nat) (s : Spot) : List Nat := (a.drop (s.at_ + 1)).take s.head.refs.toNat
def bodyOf (a : List Nat) (s : Spot) : List Nat := (a.drop (s.at_ + 1 + s.head.refs.toNat)).take s.head.body.toNat

def placesGo : List Spot → Nat → (Int → Option Int) → (Int → Option Int)
  | [], _, f => f
  | s :: l, i, f => placesGo l (i + 1) (if s.head.free = true then f else fput f ((s.at_ : Int) + 1) i)
def placesF (l : List Spot) : Int → Option Int := placesGo l 0 (fput (fun _ => none) 0 (-1))
theorem placesGo_at {l : List Spot} {k : Nat} {s : Spot} (h : l[k]? = some s) (f : Int → Option Int) : placesGo (l.drop k) k f = placesGo (l.drop (k + 1)) (k + 1) (if s.head.free = true then f else fput f ((s.at_ : Int) + 1) k) := by
  obtain ⟨hk, rfl⟩ := List.getElem?_eq_some_iff.1 h
  rw [List.drop_eq_getElem_cons hk, placesGo]
theorem placesGo_end {l : List Spot} {k : Nat} (h : ¬ k < l.length) (f : Int → Option Int) : placesGo (l.drop k) k f = f := by
  rw [List.drop_of_length_le (by omega), placesGo]

def named (f : Int → Option Int) (vs : List Nat) : Bool := vs.all fun v => (f (v : Int)).isSome
def allNamed (a : List Nat) (f : Int → Option Int) (l : List Spot) : Bool := l.all fun s => named f (refsOf a s)
def walkCheck (a : List Nat) : List Spot × Int :=
  if (walkSpots a).2 ≠ 0 then ([], (walkSpots a).2) else if allNamed a (placesF (walkSpots a).1) (walkSpots a).1 = true then ((walkSpots a).1, 0) else ([], 5)
end Go.Proofs.Ythkenhbpimddpaa
namespace Go.Proofs.Ythkenhbpimddpaa
open Go.RowKit

theorem alloc_le (w : World) (o : Obj) : w.heap.size ≤ (w.alloc o).heap.size := by simp
theorem headRead_ok (v : Nat) (h : Head) (hh : h = headOf v) (w : World) (hv : v < 18446744073709551616) (hb : headBad v = false) :
    Calls Try.prog 132 #[.int .u64 v] w (Ret (.tuple #[.agg #[.int .i64 h.refs, .int .i64 h.body, .int .i64 h.tag, .bool h.free], .int .i64 0]) w) := by
  have := headRead_any v w hv
  rw [show headRead v = (headOf v, 0) by rw [headRead, hb]; rfl, ← hh] at this
  exact this
theorem headRead_bad (v : Nat) (w : World) (hv : v < 18446744073709551616) (hb : headBad v = true) :
    Calls Try.prog 132 #[.int .u64 v] w (Ret (.tuple #[.agg #[.int .i64 0, .int .i64 0, .int .i64 0, .bool false], .int .i64 3]) w) := by
  have := headRead_any v w hv
  rw [show headRead v = (Head.nil, 3) by rw [headRead, hb]; rfl] at this
  exact this
theorem headLong_ok (h : Head) (n : Nat) (hc : headCheck h = 0) (hn : h.len = n) (w : World) :
    Calls Try.prog 81 #[.agg #[.int .i64 h.refs, .int .i64 h.body, .int .i64 h.tag, .bool h.free]] w (Ret (.tuple #[.int .i64 n, .int .i64 0]) w) := by
  have := headLong_any h w
  obtain ⟨h1, h2, _⟩ := headCheck_ok hc
  rw [if_pos hc, hc, headLong_len h1 h2, hn] at this
  exact this
theorem headLong_zero (w : World) :
    Calls Try.prog 81 #[.agg #[.int .i64 0, .int .i64 0, .int .i64 0, .bool false]] w (Ret (.tuple #[.int .i64 1, .int .i64 0]) w) :=
  headLong_ok ⟨0, 0, 0, false⟩ 1 (by decide) (by decide) w

set_option maxRecDepth 100000 in
set_option maxHeartbeats 2000000 in
theorem walkSpots_any (A : Option Addr) (c : Nat) (a : List Nat) (w : World) (hp : Rd eU64 w A a) (hm : a.length ≤ maxLen) (ha : Words64 a) :
    Calls Try.prog 103 #[.slice A a.length c] w (OwnRet1 eSpot 178 w (walkSpots a).1 (.int .i64 (walkSpots a).2)) := by
  by_cases hL : a.length > 256
  · have HS := Lib.hid (walkSpots_large hL)
    rw [HS.out]
    go_enter Try.func103, Try.ntmps103
    go_wp2_with fail
    go_ret2
    exact ⟨_, rfl, Own.nil, Below.refl _ _⟩
  · have HL := Lib.hid hL
    have hL' : a.length ≤ 256 := by omega
    clear hL
    have HW := Lib.hid ha
    clear ha
    go_enter Try.func103, Try.ntmps103
    go_wp2_with fail
    go_loopw [4, 5] (fun v i wr => ∃ (k : Nat) (xs : List Spot), k ≤ a.length ∧ i = .int .i64 k ∧ Hid (spotsFrom a 0 = (spotsFrom a k).map (xs ++ ·)) ∧ xs.length ≤ k ∧ Own eSpot 178 wr w.heap.size v xs ∧ Below w.heap.size w wr) (fun _ i _ => a.length - (intOf i).toNat)
    case atStart => exact ⟨0, [], by omega, rfl, by show _ = _; simp, by simp, Own.nil, Below.refl _ _⟩
    case round =>
      obtain ⟨k, xs, hk, rfl, hS, hxk, hown, hb⟩ := hrel
      by_cases hlt : k < a.length
      · obtain ⟨v, hv⟩ : ∃ v, a[k]? = some v := ⟨a[k], List.getElem?_eq_getElem hlt⟩
        obtain ⟨b, off, rfl, hlt2, hc0⟩ := (hp.below hb).u64 hv
        have hv64 := HW.out v (List.mem_of_getElem? hv)
        by_cases hbad : headBad v = true
        · have HF : Hid (walkSpots a = ([], 3)) := by
            apply walkSpots_form HL.out
            rw [hS.out, spotsFrom_no hlt (spotAt_no hv (.inl hbad))]; rfl
          clear hv
          go_wp2_with (first
            | (go_at_call 132; refine (headRead_bad v _ hv64 hbad).mono ?_; rintro e w1 ⟨rfl, hb1⟩; obtain ⟨hc1, hf1⟩ := bcell hb1)
            | (go_at_call 81; refine (headLong_zero _).mono ?_; rintro e w2 ⟨rfl, hb2⟩))
          go_ret2
          refine ⟨_, by rw [HF.out]; rfl, by rw [HF.out]; exact Own.nil, ?_⟩
          exact ((hb.trans (hb1.mono hb.size)).alloc (Nat.le_trans hb.size hb1.size) _).trans (hb2.mono (by have := hb1.size; have := hb.size; simp; omega))
        · have hbad' : headBad v = false := by simpa using hbad
          obtain ⟨h, hh⟩ : ∃ h, h = headOf v := ⟨_, rfl⟩
          obtain ⟨n, hn⟩ : ∃ n, h.len = n := ⟨_, rfl⟩
          have hck : headCheck h = 0 := by rw [hh]; exact (headBad_no hbad').2
          have hn1 : 1 ≤ n := by rw [← hn]; exact h.len_pos
          have HH := Lib.hid hh
          have HN := Lib.hid hn
          have HC := Lib.hid hck
          by_cases hfit : a.length < k + n
          · have HF : Hid (walkSpots a = ([], 3)) := by
              apply walkSpots_form HL.out
              rw [hS.out, spotsFrom_no hlt (spotAt_no hv (.inr (by rw [← hh, hn]; exact hfit)))]; rfl
            have hgt : (n : Int) > (a.length : Int) - (k : Int) := by omega
            clear hv hh hn hck
            go_wp2_with (first
              | (go_at_call 132; refine (headRead_ok v h HH.out _ hv64 hbad').mono ?_; rintro e w1 ⟨rfl, hb1⟩; obtain ⟨hc1, hf1⟩ := bcell hb1)
              | (go_at_call 81; refine (headLong_ok h n HC.out HN.out _).mono ?_; rintro e w2 ⟨rfl, hb2⟩))
            go_ret2
            refine ⟨_, by rw [HF.out]; rfl, by rw [HF.out]; exact Own.nil, ?_⟩
            exact ((hb.trans (hb1.mono hb.size)).alloc (Nat.le_trans hb.size hb1.size) _).trans (hb2.mono (by have := hb1.size; have := hb.size; simp; omega))
          · have hsp := Lib.hid (spotAt_yes hv hbad' (by rw [← hh, hn]; exact hfit))
            rw [← hh] at hsp
            have hgt : ¬ (n : Int) > (a.length : Int) - (k : Int) := by omega
            have hkn : k + n ≤ a.length := by omega
            have hS2 : Hid (spotsFrom a 0 = (spotsFrom a (k + n)).map ((xs ++ [⟨k, h⟩]) ++ ·)) := by
              show _ = _
              rw [hS.out, spotsFrom_yes hlt hsp.out, Option.map_map]
              simp only [hn]
              congr 1
              funext l
              simp
            have hlen : (xs ++ [(⟨k, h⟩ : Spot)]).length ≤ k + n := by simp; omega
            have h63 : xs.length + ([⟨k, h⟩] : List Spot).length ≤ maxLen := by simp [maxLen]; omega
            have hby : (xs.length + ([⟨k, h⟩] : List Spot).length) * 40 ≤ 140737488355328 := by simp; omega
            clear hv hfit hh hn hck
            go_wp2_with (first
              | (go_at_call 132; refine (headRead_ok v h HH.out _ hv64 hbad').mono ?_; rintro e w1 ⟨rfl, hb1⟩; obtain ⟨hc1, hf1⟩ := bcell hb1)
              | (go_at_call 81; refine (headLong_ok h n HC.out HN.out _).mono ?_; rintro e w2 ⟨rfl, hb2⟩
                 obtain ⟨hc2, hf2⟩ := bcell hb2
                 have hown2 := (((hown.below hb1).alloc _).below hb2)
                 have hB2 : w.heap.size ≤ w2.heap.size := Nat.le_trans hb.size (Nat.le_trans hb1.size (Nat.le_trans (alloc_le _ _) hb2.size)))
              | (at_builtin; refine wpList_append_Own (news := [(⟨k, h⟩ : Spot)]) rfl (.tmp 40) (.tmp 44) rfl tySpot (hown2.alloc _) (Rd.of_block (heap_alloc_new _ _) rfl) rfl 1 1 rfl rfl (Nat.le_trans hB2 (alloc_le _ _)) h63 hby ?_; intro v' w' hown' hgr hat))
            go_roundw
            case rel => exact ⟨k + n, xs ++ [⟨k, h⟩], hkn, by go_num, hS2, hlen, hown', (((hb.trans (hb1.mono hb.size)).alloc (Nat.le_trans hb.size hb1.size) _).trans (hb2.mono (Nat.le_trans hb.size (Nat.le_trans hb1.size (alloc_le _ _)))) |>.alloc hB2 _).grown hgr (Nat.le_trans hB2 (alloc_le _ _)) (fun g hg => (hown2.lt g hg).1)⟩
            case measure => simp [intOf]; omega
      · have HF : Hid (walkSpots a = (xs, 0)) := by
          apply walkSpots_ok HL.out
          rw [hS.out, spotsFrom_end hlt]; simp
        go_wp2_with fail
        go_ret2
        exact ⟨_, by rw [HF.out]; rfl, by rw [HF.out]; exact hown, hb⟩
end Go.Proofs.Ythkenhbpimddpaa
namespace Go.Proofs.Ythkenhbpimddpaa
open Go.RowKit

def encInt (i : Int) : Value := .int .i64 i
theorem zeroInt (w : World) : (zeroValue 3).run Try.prog w = .ok (.int .i64 0) w := by kernel_rfl
/-- a map of the call's own -/
def MapRet (q : IntKind) (w : World) (f : Int → Option Int) (en : Ending) (w' : World) : Prop :=
  ∃ b, en = .returned (.map (some b)) ∧ w.heap.size ≤ b ∧ MapIs q encInt w' b f ∧ Below w.heap.size w w'

set_option maxRecDepth 100000 in
set_option maxHeartbeats 2000000 in
theorem walkPlaces_any (A : Option Addr) (c : Nat) (l : List Spot) (w : World) (hp : Rd eSpot w A l) (hm : l.length ≤ maxLen) (hl : ∀ s ∈ l, s.at_ ≤ 256) :
    Calls Try.prog 130 #[.slice A l.length c] w (MapRet .u64 w (placesF l)) := by
  unfold maxLen at hm
  have HL := Lib.hid hl
  clear hl
  have hbm : w.heap.size ≤ (w.alloc (.map #[] 0)).heap.size := alloc_le _ _
  have hbn : Below w.heap.size w (w.alloc (.map #[] 0)) := (Below.refl _ _).alloc (Nat.le_refl _) _
  have hmk := fun W => run_makeMap (P := Try.prog) 173 W
  go_enter Try.func130, Try.ntmps130
  go_wp2_with (refine wpList_mput (enc := encInt) rfl (.tmp 6) _ _ (.inr rfl) Try.underlying173 Try.underlying25 (MapIs.new _) rfl 0 rfl (-1) rfl ?_; intro w1 hM1 hgr1; have hb1 : Below w.heap.size w w1 := hbn.grown hgr1 hbm (fun g hg => by injection hg with hg; omega))
  go_loopw [10] (fun i wr => ∃ (k : Nat) (f : Int → Option Int), k ≤ l.length ∧ i = .int .i64 k ∧ Hid (placesGo (l.drop k) k f = placesF l) ∧ MapIs .u64 encInt wr w.heap.size f ∧ Below w.heap.size w wr) (fun i _ => l.length - (intOf i).toNat)
  case atStart => exact ⟨0, _, by omega, rfl, rfl, hM1, hb1⟩
  case round =>
    obtain ⟨k, f, hk, rfl, hF, hM, hb⟩ := hrel
    by_cases hlt : k < l.length
    · obtain ⟨x, hx⟩ : ∃ x, l[k]? = some x := ⟨l[k], List.getElem?_eq_getElem hlt⟩
      obtain ⟨b, off, rfl, hlt2, c0, c1, c2, c3, c4⟩ := (hp.below hb).spot hx
      have hat := HL.out x (List.mem_of_getElem? hx)
      have HS := Lib.hid (placesGo_at hx f)
      clear hx
      obtain ⟨at_, h⟩ := x
      cases hfr : h.free
      · have H1 : Hid (placesGo (l.drop (k + 1)) (k + 1) (fput f ((at_ : Int) + 1) k) = placesF l) := by show _ = _; rw [← hF.out, HS.out]; simp [hfr]
        simp only at hat c0 c1 c2 c3 c4
        rw [hfr] at c4
        clear hfr
        have hba := hb.alloc hb.size (.cells #[.int .i64 (at_ : Int), .int .i64 h.refs, .int .i64 h.body, .int .i64 h.tag, .bool false] 178)
        go_wp2_with (refine wpList_mput (enc := encInt) rfl (.tmp 19) _ _ (.inl rfl) Try.underlying173 Try.underlying25 (hM.alloc _) rfl _ (by rfl) k rfl ?_; intro w1 hM1 hgr1)
        go_roundw
        case rel => exact ⟨k + 1, _, by omega, by go_num, H1, hM1, hba.grown hgr1 (Nat.le_trans hb.size (alloc_le _ _)) (fun g hg => by injection hg with hg; omega)⟩
        case measure => simp [intOf]; omega
      · have H1 : Hid (placesGo (l.drop (k + 1)) (k + 1) f = placesF l) := by show _ = _; rw [← hF.out, HS.out]; simp [hfr]
        simp only at hat c0 c1 c2 c3 c4
        rw [hfr] at c4
        clear hfr
        go_wp2_with fail
        go_roundw
        case rel => exact ⟨k + 1, _, by omega, by go_num, H1, hM.alloc _, hb.alloc hb.size _⟩
        case measure => simp [intOf]; omega
    · have H1 : Hid (f = placesF l) := by show _ = _; rw [← hF.out, placesGo_end hlt]
      go_wp2_with fail
      go_ret
      exact ⟨_, rfl, Nat.le_refl _, by rw [← H1.out]; exact hM, hb⟩

/-- a slice of an arena -/
def SubRet {α : Type} (L : El α) (A0 : Option Addr) (w : World) (xs : List α) (en : Ending) (w' : World) : Prop :=
  ∃ A c, en = .returned (.slice A xs.length c) ∧ Rd L w' A xs ∧ (∀ b o, A = some ⟨b, o, none⟩ → ∃ q, A0 = some q ∧ q.block = b) ∧ Below w.heap.size w w'
theorem Rd.grownNe {α : Type} {L : El α} {w w' : World} {A : Option Addr} {xs : List α} {g : Nat} (h : Rd L w A xs) (hg : w.grownBy w' (some g)) (hA : ∀ b o, A = some ⟨b, o, none⟩ → b ≠ g) : Rd L w' A xs :=
  h.keep hg.size fun b o u hb ⟨o', ho⟩ hu => (World.cell?_of_block (w := w) (hg.block b hb (fun e => hA b o' ho (by injection e)))).trans hu
theorem Rd.blk {α : Type} {L : El α} {w : World} {A : Option Addr} {xs : List α} (h : Rd L w A xs) (h0 : 0 < xs.length) : ∀ q, A = some q → q.block < w.heap.size := fun q hA => by
  obtain ⟨b', off, hA', hb, _⟩ := h 0 xs[0] (List.getElem?_eq_getElem h0)
  rw [hA] at hA'; injection hA' with hA'; subst hA'; exact hb

set_option maxRecDepth 100000 in
set_option maxHeartbeats 2000000 in
theorem walkRefs_any (A : Option Addr) (c : Nat) (a : List Nat) (s : Spot) (w : World) (hp : Rd eU64 w A a) (hc : a.length ≤ c) (hm : c ≤ maxLen) (hs : SpotOk a s) :
    Calls Try.prog 131 #[.slice A a.length c, .agg #[.int .i64 (s.at_ : Int), .int .i64 s.head.refs, .int .i64 s.head.body, .int .i64 s.head.tag, .bool s.head.free]] w (SubRet eU64 A w (refsOf a s)) := by
  unfold maxLen at hm
  obtain ⟨h1, h2, h3, h4, h5, _⟩ := headCheck_ok hs.check
  have hf := hs.fits
  unfold Head.len at hf
  obtain ⟨at_, r, b, t, f⟩ := s
  simp only at h1 h2 h3 h4 h5 hf
  obtain ⟨r, rfl⟩ := Int.eq_ofNat_of_zero_le h1
  obtain ⟨b, rfl⟩ := Int.eq_ofNat_of_zero_le h2
  simp only [Int.toNat_natCast] at hf
  have g1 : (at_ : Int) + 1 ≤ (at_ : Int) + 1 + (r : Int) := by omega
  have g2 : (at_ : Int) + 1 + (r : Int) ≤ (c : Int) := by omega
  have HR : Hid ((refsOf a ⟨at_, r, b, t, f⟩).length = r) := by show _ = _; simp [refsOf]; omega
  go_enter Try.func131, Try.ntmps131
  go_wp2_with fail
  · have hA : a.length = at_ + 1 := by omega
    have hr0 : r = 0 := by omega
    go_ret
    refine ⟨A, 0, by rw [HR.out]; rfl, ?_, fun b o h => ⟨_, h, rfl⟩, (Below.refl _ _).alloc (Nat.le_refl _) _⟩
    subst hr0
    exact Rd.nil
  · go_ret
    refine ⟨_, _, by rw [HR.out]; rfl, ?_, fun b o h => by cases A with | none => cases h | some q => injection h with h; injection h with h1 _ _; exact ⟨q, rfl, h1⟩, (Below.refl _ _).alloc (Nat.le_refl _) _⟩
    exact ((hp.alloc _).drop (at_ + 1) (Option.map (fun x => { block := x.block, off := x.off + (at_ + 1) }) A) (fun b off hA _ => by subst hA; simp [eU64])).take r
end Go.Proofs.Ythkenhbpimddpaa
namespace Go.Proofs.Ythkenhbpimddpaa
open Go.RowKit

/-- results of check -/
def CheckRet (w : World) (l : List Spot) (r : Int) (en : Ending) (w' : World) : Prop :=
  ∃ v m, en = .returned (.tuple #[v, m, .int .i64 r]) ∧ Own eSpot 178 w' w.heap.size v l ∧ (r = 0 → ∃ b, m = .map (some b) ∧ w.heap.size ≤ b ∧ MapIs .u64 encInt w' b (placesF l)) ∧ Below w.heap.size w w'

theorem walkSpots_zero {a : List Nat} (h : (walkSpots a).2 = 0) : a.length ≤ 256 ∧ spotsFrom a 0 = some (walkSpots a).1 := by
  unfold walkSpots at h ⊢
  split
  · rename_i h1; rw [if_pos h1] at h; exact absurd h (by decide)
  · rename_i h1
    rw [if_neg h1] at h
    cases hs : spotsFrom a 0 with
    | none => rw [hs] at h; exact absurd h (by decide)
    | some l => exact ⟨by omega, rfl⟩
theorem walkSpots_all {a : List Nat} (h : (walkSpots a).2 = 0) : ∀ s ∈ (walkSpots a).1, SpotOk a s := fun s hs => (spotsFrom_all (walkSpots_zero h).2 s hs).1
theorem spotsFrom_len {a : List Nat} {k : Nat} {l : List Spot} (h : spotsFrom a k = some l) : l.length ≤ a.length - k := by
  induction k using spotsFrom.induct (a := a) generalizing l with
  | case1 k hk hs => rw [spotsFrom_no hk hs] at h; cases h
  | case2 k hk s hs ih =>
    rw [spotsFrom_yes hk hs] at h
    simp only [Option.map_eq_some_iff] at h
    obtain ⟨l', hl', rfl⟩ := h
    have := ih hl'
    have := s.head.len_pos
    simp; omega
  | case3 k hk => rw [spotsFrom_end hk] at h; cases h; simp
theorem walkSpots_len {a : List Nat} : (walkSpots a).1.length ≤ 256 := by
  unfold walkSpots
  split
  · simp
  · cases hs : spotsFrom a 0 with
    | none => simp
    | some l => have := spotsFrom_len hs; simp only; omega
theorem allNamed_step {a : List Nat} {f : Int → Option Int} {l : List Spot} {k : Nat} {s : Spot} (h : l[k]? = some s) : allNamed a f (l.drop k) = (named f (refsOf a s) && allNamed a f (l.drop (k + 1))) := by
  obtain ⟨hk, rfl⟩ := List.getElem?_eq_some_iff.1 h
  rw [List.drop_eq_getElem_cons hk, allNamed, List.all_cons]; rfl
theorem named_step {f : Int → Option Int} {l : List Nat} {k : Nat} {s : Nat} (h : l[k]? = some s) : named f (l.drop k) = ((f (s : Int)).isSome && named f (l.drop (k + 1))) := by
  obtain ⟨hk, rfl⟩ := List.getElem?_eq_some_iff.1 h
  rw [List.drop_eq_getElem_cons hk, named, List.all_cons]; rfl
theorem walkCheck_e {a : List Nat} (h : ¬ (walkSpots a).2 = 0) : walkCheck a = ([], (walkSpots a).2) := by rw [walkCheck, if_pos h]
theorem walkCheck_no {a : List Nat} (h : (walkSpots a).2 = 0) (h' : allNamed a (placesF (walkSpots a).1) (walkSpots a).1 = false) : walkCheck a = ([], 5) := by rw [walkCheck, if_neg (by simp [h]), if_neg (by simp [h'])]
theorem walkCheck_ok {a : List Nat} (h : (walkSpots a).2 = 0) (h' : allNamed a (placesF (walkSpots a).1) (walkSpots a).1 = true) : walkCheck a = ((walkSpots a).1, 0) := by rw [walkCheck, if_neg (by simp [h]), if_pos h']

theorem refsOf_len {a : List Nat} {s : Spot} (h : SpotOk a s) : (refsOf a s).length ≤ 256 := by
  obtain ⟨h1, h2, h3, h4, h5, _⟩ := headCheck_ok h.check
  simp [refsOf]; omega
set_option maxRecDepth 100000 in
set_option maxHeartbeats 4000000 in
theorem walkcheck_any (A : Option Addr) (c : Nat) (a : List Nat) (w : World) (hp : Rd eU64 w A a) (hac : a.length ≤ c) (hm : c ≤ maxLen) (ha : Words64 a) :
    Calls Try.prog 98 #[.slice A a.length c] w (CheckRet w (walkCheck a).1 (walkCheck a).2) := by
  have HA := Lib.hid ha
  clear ha
  by_cases he : (walkSpots a).2 = 0
  · have HE := Lib.hid he
    have HL : Hid (∀ s ∈ (walkSpots a).1, SpotOk a s) := walkSpots_all he
    have HL2 : Hid (∀ s ∈ (walkSpots a).1, s.at_ ≤ 256) := fun s hs => by have := (HL.out s hs).lt; have := (walkSpots_zero he).1; omega
    have hlen := walkSpots_len (a := a)
    obtain ⟨l, hl⟩ : ∃ l, (walkSpots a).1 = l := ⟨_, rfl⟩
    have HQ : Hid (∀ W, Rd eU64 W A a → Calls Try.prog 103 #[.slice A a.length c] W (OwnRet1 eSpot 178 W l (.int .i64 0))) := fun W h => by
      have := walkSpots_any A c a W h (Nat.le_trans hac hm) HA.out
      rw [he, hl] at this; exact this
    rw [hl] at hlen HL HL2
    have HLL := Lib.hid hl
    clear he hl
    go_enter Try.func98, Try.ntmps98
    go_wp2_with (first
      | (go_at_call 103; refine (HQ.out _ hp).mono ?_; rintro e w1 ⟨v, rfl, hown, hb1⟩; have hrd := hown.rd; obtain ⟨A', c', rfl, hc1, hc2, hrd⟩ := hrd)
      | (go_at_call 130; refine (walkPlaces_any A' c' l _ hrd (Nat.le_trans hc1 hc2) HL2.out).mono ?_; rintro e w2 ⟨b, rfl, hwb, hM, hb2⟩))
    have hB : w.heap.size ≤ w2.heap.size := Nat.le_trans hb1.size hb2.size
    have hb12 : Below w.heap.size w w2 := hb1.trans (hb2.mono hb1.size)
    go_loopw [26] (fun i wr => ∃ k : Nat, k ≤ l.length ∧ i = .int .i64 k ∧ Hid (allNamed a (placesF l) l = allNamed a (placesF l) (l.drop k)) ∧ Below w2.heap.size w2 wr) (fun i _ => l.length - (intOf i).toNat)
    case atStart => exact ⟨0, by omega, rfl, rfl, Below.refl _ _⟩
    case round =>
      obtain ⟨k, hk, rfl, hN, hb3⟩ := hrel
      by_cases hlt : k < l.length
      · obtain ⟨x, hx⟩ : ∃ x, l[k]? = some x := ⟨l[k], List.getElem?_eq_getElem hlt⟩
        obtain ⟨b', off, rfl, hlt2, c0, c1, c2, c3, c4⟩ := ((hrd.below hb2).below hb3).spot hx
        have hsp := Lib.hid (HL.out x (List.mem_of_getElem? hx))
        have HS := Lib.hid (allNamed_step (a := a) (f := placesF l) hx)
        have HR : Hid ((refsOf a x).length ≤ 256) := refsOf_len (HL.out x (List.mem_of_getElem? hx))
        clear hx
        have hpr := (hp.below hb12).below hb3
        go_wp2_with (go_at_call 131; refine (walkRefs_any A c a x _ (hpr.alloc _) hac hm hsp.out).mono ?_; rintro e w4 ⟨A4, c4', rfl, hrd4, _, hb4⟩)
        obtain ⟨wo, rfl⟩ : ∃ wo : World, wo = wr := ⟨_, rfl⟩
        obtain ⟨rs, hrs⟩ : ∃ rs, refsOf a x = rs := ⟨_, rfl⟩
        rw [hrs] at hrd4 HS
        have hrl : rs.length ≤ 256 := by rw [← hrs]; exact HR.out
        have HRS := Lib.hid hrs
        have hb14 : Below w2.heap.size w2 w4 := (hb3.alloc hb3.size _).trans (hb4.mono (Nat.le_trans hb3.size (alloc_le _ _)))
        simp only [hrs]
        clear hrs
        have hM4 := hM.below hb14
        go_loopw [34] (fun i wr => ∃ j : Nat, j ≤ rs.length ∧ i = .int .i64 j ∧ Hid (named (placesF l) rs = named (placesF l) (rs.drop j)) ∧ Below w4.heap.size w4 wr) (fun i _ => rs.length - (intOf i).toNat)
        case atStart => exact ⟨0, by omega, rfl, rfl, Below.refl _ _⟩
        case round =>
          obtain ⟨j, hj, rfl, hNj, hb5⟩ := hrel
          by_cases hlj : j < rs.length
          · obtain ⟨y, hy⟩ : ∃ y, rs[j]? = some y := ⟨rs[j], List.getElem?_eq_getElem hlj⟩
            obtain ⟨b5, off5, rfl, hlt5, cy⟩ := (hrd4.below hb5).u64 hy
            have HY := Lib.hid (named_step (f := placesF l) hy)
            clear hy
            cases hf : placesF l (y : Int) with
            | none =>
              have HF : Hid (walkCheck a = ([], 5)) := by
                apply walkCheck_no HE.out
                rw [HLL.out, hN.out, HS.out, hNj.out, HY.out, hf]; rfl
              have HU := Lib.hid hf
              clear hf
              go_wp2_with (refine wpList_look rfl (.tmp 39) (.tmp 40) true rfl Try.underlying173 Try.underlying25 (zeroInt _) (hM4.below hb5) rfl _ rfl (.tuple #[.int .i64 0, .bool false]) (by rw [HU.out]; rfl) ?_)
              go_ret3
              exact ⟨_, _, by rw [HF.out]; rfl, by rw [HF.out]; exact Own.nil, fun h => by rw [HF.out] at h; exact absurd h (by decide), (hb12.trans (hb14.mono hB)).trans (hb5.mono (Nat.le_trans hB hb14.size))⟩
            | some i =>
              have HN2 : Hid (named (placesF l) rs = named (placesF l) (rs.drop (j + 1))) := by
                show _ = _
                rw [hNj.out, HY.out, hf]; rfl
              have HU := Lib.hid hf
              clear hf
              go_wp2_with (refine wpList_look rfl (.tmp 39) (.tmp 40) true rfl Try.underlying173 Try.underlying25 (zeroInt _) (hM4.below hb5) rfl _ rfl (.tuple #[.int .i64 i, .bool true]) (by rw [HU.out]; rfl) ?_)
              go_roundw
              case rel => exact ⟨j + 1, by omega, by go_num, HN2, hb5⟩
              case measure => simp [intOf]; omega
          · have HN2 : Hid (allNamed a (placesF l) l = allNamed a (placesF l) (l.drop (k + 1))) := by
              show _ = _
              rw [hN.out, HS.out, hNj.out, List.drop_of_length_le (by omega)]; rfl
            go_wp2_with fail
            go_roundw
            case rel => exact ⟨k + 1, by omega, by go_num, HN2, hb14.trans (hb5.mono hb14.size)⟩
            case measure => simp [intOf]; omega
      · have HF : Hid (walkCheck a = (l, 0)) := by
          have := walkCheck_ok HE.out (by rw [HLL.out, hN.out, List.drop_of_length_le (by omega)]; rfl)
          rw [HLL.out] at this; exact this
        go_wp2_with fail
        go_ret3
        exact ⟨_, _, by rw [HF.out]; rfl, by rw [HF.out]; exact ((hown.below hb2).below hb3), fun _ => ⟨b, rfl, Nat.le_trans hb1.size hwb, by rw [HF.out]; exact hM.below hb3⟩, hb12.trans (hb3.mono hB)⟩
  · have HW : Hid (walkCheck a = ([], (walkSpots a).2)) := walkCheck_e he
    rw [HW.out]
    have z : ((walkSpots a).2 != 0) = true := by simp [he]
    have HE := Lib.hid he
    clear he
    go_enter Try.func98, Try.ntmps98
    go_wp2_with (go_at_call 103; refine (walkSpots_any A c a w hp (Nat.le_trans hac hm) HA.out).mono ?_; rintro e w1 ⟨v, rfl, hown, hb1⟩)
    go_ret3
    exact ⟨_, _, rfl, Own.nil, fun h => absurd h HE.out, hb1⟩
end Go.Proofs.Ythkenhbpimddpaa
namespace Go.Proofs.Ythkenhbpimddpaa
open Go.RowKit

structure Objt where
  tag : Int
  refs : List Int
  body : List Nat
  free : Bool
deriving DecidableEq, Inhabited
def refTo (f : Int → Option Int) (v : Nat) : Int := (f (v : Int)).getD 0
theorem lookInt (f : Int → Option Int) (v : Nat) : lookV false encInt (.int .i64 0) (f (v : Int)) = .int .i64 (refTo f v) := by
  unfold lookV refTo; cases f (v : Int) <;> rfl
def objOf (a : List Nat) (f : Int → Option Int) (s : Spot) : Objt := ⟨s.head.tag, (refsOf a s).map (refTo f), bodyOf a s, s.head.free⟩
/-- an object whose rows are the call's own -/
def ObjIs (w : World) (B : Nat) (u : Value) (o : Objt) : Prop :=
  ∃ v1 v2, u = .agg #[.int .i64 o.tag, v1, v2, .bool o.free] ∧ Own eInt 3 w B v1 o.refs ∧ Own eU64 25 w B v2 o.body
def ObjRet (w : World) (o : Objt) (en : Ending) (w' : World) : Prop :=
  ∃ u, en = .returned u ∧ ObjIs w' w.heap.size u o ∧ Below w.heap.size w w'

section
variable {α : Type} {L : El α} {w w' : World} {xs : List α} {B e : Nat} {v : Value}
theorem cells_set1 {g t i : Nat} {cs : Array Value} {u : Value} (h : w.heap[g]? = some (.cells cs t (0, 0))) : (w.setCell ⟨g, i, none⟩ u).heap[g]? = some (.cells (cs.setIfInBounds i u) t (0, 0)) := by
  simp [World.setCell, Array.getElem?_modify, h]
theorem own_ne {t g : Nat} {cs : Array Value} {fr : Nat × Nat} (h : Own L e w B v xs) (hg : w.heap[g]? = some (.cells cs t fr)) (hne : t ≠ e) : v.ownBlock ≠ some g := by
  intro hv
  rcases h with ⟨rfl, _⟩ | ⟨g', ys, rfl, _, _, hg'⟩
  · cases hv
  · simp [Value.ownBlock] at hv
    subst hv
    rw [hg] at hg'
    injection hg' with h1
    injection h1 with _ h2
    exact hne h2
theorem heap_alloc_size (w : World) {o : Obj} : (w.alloc o).heap.size = w.heap.size + 1 := by simp
theorem heap_alloc_size2 (w : World) {o o' : Obj} : ((w.alloc o).alloc o').heap.size = w.heap.size + 1 + 1 := by simp
theorem grown_own {a b c : World} {row r2 : Option Nat} (h : a.grownBy b row) (k : b.grownBy c r2) (hr : ∀ g, r2 = some g → a.heap.size ≤ g) : a.grownBy c row :=
  ⟨k.os.trans h.os, k.tape.trans h.tape, k.output.trans h.output, Nat.le_trans h.size k.size, fun i hi hne => (k.block i (Nat.lt_of_lt_of_le hi h.size) (fun e => by have := hr i e.symm; omega)).trans (h.block i hi hne)⟩
theorem grown_alloc {a b : World} {row : Option Nat} (h : a.grownBy b row) (o : Obj) : a.grownBy (b.alloc o) row :=
  grown_own h (World.grownBy_alloc b o none) (fun _ h => by cases h)
theorem bcells {g t : Nat} {cs : Array Value} (h : w.heap[g]? = some (.cells cs t (0, 0))) (i : Nat) : w.cell? ⟨g, i, none⟩ = cs[i]? := cell_of_row _ _ _ _ _ _ h
end

theorem own_store4 {α : Type} {L : El α} {w : World} {xs : List α} {B e g t : Nat} {v a b c d a' b' c' d' : Value} (h : Own L e w B v xs) (hg : w.heap[g]? = some (.cells #[a, b, c, d] t (0, 0))) (hne : t ≠ e) :
    Own L e ((((w.setCell ⟨g, 0, none⟩ a').setCell ⟨g, 1, none⟩ b').setCell ⟨g, 2, none⟩ c').setCell ⟨g, 3, none⟩ d') B v xs :=
  (((h.box hg hne 0 a').box (cells_set1 hg) hne 1 b').box (cells_set1 (cells_set1 hg)) hne 2 c').box (cells_set1 (cells_set1 (cells_set1 hg))) hne 3 d'
theorem objEnd {w : World} {refs : List Int} {bs : List Nat} {B g1 g2 : Nat} {v1 v2 a b c d a' b' c' d' a2 b2 c2 d2 : Value} {tg : Int} {f : Bool} (h1 : Own eInt 3 w B v1 refs) (h2 : Own eU64 25 w B v2 bs)
    (hg2 : w.heap[g2]? = some (.cells #[a, b, c, d] 118 (0, 0))) (hg1 : w.heap[g1]? = some (.cells #[a', b', c', d'] 118 (0, 0))) (hne : g1 ≠ g2) :
    ObjIs (((((w.setCell ⟨g2, 2, none⟩ c2).setCell ⟨g1, 0, none⟩ a2).setCell ⟨g1, 1, none⟩ b2).setCell ⟨g1, 2, none⟩ c2).setCell ⟨g1, 3, none⟩ d2) B (.agg #[.int .i64 tg, v1, v2, .bool f]) ⟨tg, refs, bs, f⟩ := by
  have hg1' : (w.setCell ⟨g2, 2, none⟩ c2).heap[g1]? = some (.cells #[a', b', c', d'] 118 (0, 0)) := by rw [Below.heap_setCell _ _ _ _ hne]; exact hg1
  exact ⟨v1, v2, rfl, own_store4 (h1.box hg2 (by decide) 2 c2) hg1' (by decide), own_store4 (h2.box hg2 (by decide) 2 c2) hg1' (by decide)⟩

set_option maxRecDepth 100000 in
set_option maxHeartbeats 4000000 in
theorem walkObject_any (A : Option Addr) (c : Nat) (a : List Nat) (s : Spot) (w : World) (m : Nat) (f : Int → Option Int) (hp : Rd eU64 w A a) (hac : a.length ≤ c) (hm : c ≤ maxLen) (hs : SpotOk a s) (hM : MapIs .u64 encInt w m f) :
    Calls Try.prog 101 #[.slice A a.length c, .agg #[.int .i64 (s.at_ : Int), .int .i64 s.head.refs, .int .i64 s.head.body, .int .i64 s.head.tag, .bool s.head.free], .map (some m)] w (ObjRet w (objOf a f s)) := by
  have HS := Lib.hid hs
  have hrl := refsOf_len hs
  obtain ⟨h1, h2, h3, h4, h5, _⟩ := headCheck_ok hs.check
  have hf := hs.fits
  unfold Head.len at hf
  obtain ⟨rs, hrs⟩ : ∃ rs, refsOf a s = rs := ⟨_, rfl⟩
  have HR : Hid (∀ W, Rd eU64 W A a → Calls Try.prog 131 #[.slice A a.length c, .agg #[.int .i64 (s.at_ : Int), .int .i64 s.head.refs, .int .i64 s.head.body, .int .i64 s.head.tag, .bool s.head.free]] W (SubRet eU64 A W rs)) := fun W h => by
    have := walkRefs_any A c a s W h hac hm hs; rw [hrs] at this; exact this
  have HO : Hid (objOf a f s = ⟨s.head.tag, rs.map (refTo f), bodyOf a s, s.head.free⟩) := by show _ = _; rw [objOf, hrs]
  rw [hrs] at hrl
  obtain ⟨bs, hbs⟩ : ∃ bs, bodyOf a s = bs := ⟨_, rfl⟩
  rw [hbs] at HO
  rw [HO.out]
  have HB : Hid (bodyOf a s = bs ∧ bs.length = s.head.body.toNat) := ⟨hbs, by rw [← hbs]; simp [bodyOf]; omega⟩
  clear hs hrs hbs
  obtain ⟨at_, r, b, t, fr⟩ := s
  simp only at h1 h2 h3 h4 h5 hf HR HB ⊢
  obtain ⟨r, rfl⟩ := Int.eq_ofNat_of_zero_le h1
  obtain ⟨b, rfl⟩ := Int.eq_ofNat_of_zero_le h2
  simp only [Int.toNat_natCast] at hf HB
  unfold maxLen at hm
  have HB2 : Hid (bs = (a.drop (at_ + 1 + r)).take b) := by show _ = _; rw [← HB.out.1]; simp [bodyOf]
  go_enter Try.func101, Try.ntmps101
  go_wp2_with (go_at_call 131; refine (HR.out _ (((hp.alloc _).alloc _).alloc _)).mono ?_; rintro e w4 ⟨A4, c4, rfl, hrd4, hA4, hb4⟩)
  have q0 : w4.heap[w.heap.size]? = some (.cells #[.int .i64 at_, .int .i64 r, .int .i64 b, .int .i64 t, .bool fr] 178 (0, 0)) := heap_below (heap_alloc_keep (heap_alloc_keep (heap_alloc_new w _))) hb4
  have q1 : w4.heap[w.heap.size + 1]? = some (.cells #[.int .i64 0, .slice none 0 0, .slice none 0 0, .bool false] 118 (0, 0)) := heap_below (heap_alloc_keep (by rw [← heap_alloc_size w]; exact heap_alloc_new (w.alloc _) _)) hb4
  have q2 : w4.heap[w.heap.size + 1 + 1]? = some (.cells #[.int .i64 t, .slice none 0 0, .slice none 0 0, .bool fr] 118 (0, 0)) := heap_below (by rw [← heap_alloc_size2 w]; exact heap_alloc_new ((w.alloc _).alloc _) _) hb4
  have hB4 : w.heap.size + 3 ≤ w4.heap.size := Nat.le_trans (by simp) hb4.size
  have hb04 : Below w.heap.size w w4 := ((((Below.refl _ _).alloc (Nat.le_refl _) _).alloc (by simp) _).alloc (by simp; omega) _).trans (hb4.mono (by simp; omega))
  clear hb4
  have hM4 := hM.below hb04
  have hp4 := hp.below hb04
  have hne4 : ∀ b' o, A4 = some ⟨b', o, none⟩ → b' ≠ w.heap.size + 1 + 1 := fun b' o h => by
    obtain ⟨q, h', hq⟩ := hA4 b' o h
    have := hp.blk (by omega) q h'
    omega
  have hmne : some (w.heap.size + 1 + 1) ≠ some m := fun h => by have := hM.lt; injection h with h; omega
  go_loopw [22] (fun i wr => ∃ (j : Nat) (v : Value), j ≤ rs.length ∧ i = .int .i64 j ∧ w4.grownBy wr (some (w.heap.size + 1 + 1)) ∧ wr.heap[w.heap.size + 1 + 1]? = some (.cells #[.int .i64 t, v, .slice none 0 0, .bool fr] 118 (0, 0)) ∧ Own eInt 3 wr w4.heap.size v ((rs.take j).map (refTo f))) (fun i _ => rs.length - (intOf i).toNat)
  case atStart => exact ⟨0, _, by omega, rfl, ⟨rfl, rfl, rfl, Nat.le_refl _, fun _ _ _ => rfl⟩, q2, Own.nil⟩
  case round =>
    obtain ⟨j, v, hj, rfl, hg, hbx, hown⟩ := hrel
    have hrd5 := hrd4.grownNe hg hne4
    have hbx1 := bcells hbx 1
    have hfz : wr.frozen? ⟨w.heap.size + 1 + 1, 1, none⟩ = false := own_free hbx
    by_cases hlt : j < rs.length
    · obtain ⟨y, hy⟩ : ∃ y, rs[j]? = some y := ⟨rs[j], List.getElem?_eq_getElem hlt⟩
      obtain ⟨b5, off5, rfl, hlt5, cy⟩ := hrd5.u64 hy
      have HY := Lib.hid hy
      have h63 : ((rs.take j).map (refTo f)).length + ([refTo f y] : List Int).length ≤ maxLen := by simp [maxLen]; omega
      have hby : (((rs.take j).map (refTo f)).length + ([refTo f y] : List Int).length) * 8 ≤ 140737488355328 := by simp; omega
      have hlt2 : w.heap.size + 1 + 1 < (wr.alloc (.cells (eInt.flat [refTo f y]).toArray 3)).heap.size := by have := hg.size; simp; omega
      have hne2 := own_ne hown hbx (by decide)
      clear hy
      go_wp2_with (first
        | (at_lookup; refine wpList_look rfl (.tmp 28) (.tmp 29) false rfl Try.underlying173 Try.underlying25 (zeroInt _) (hM4.grown hg hmne) rfl _ rfl (.int .i64 (refTo f y)) (lookInt f y) ?_)
        | (at_builtin; refine wpList_append_Own (news := [refTo f y]) rfl (.tmp 27) (.tmp 31) rfl tyInt (hown.alloc _) (Rd.of_block (heap_alloc_new _ _) rfl) rfl 1 1 rfl rfl (Nat.le_trans hg.size (alloc_le _ _)) h63 hby ?_; intro v' w' hown' hgr hat
           have hbx' : w'.heap[w.heap.size + 1 + 1]? = some (.cells #[.int .i64 t, v, .slice none 0 0, .bool fr] 118 (0, 0)) := (hgr.block _ hlt2 (fun h => hne2 h.symm)).trans (heap_alloc_keep hbx)
           have hfz' : w'.frozen? ⟨w.heap.size + 1 + 1, 1, none⟩ = false := own_free hbx'
           have hc1' := bcells hbx' 1
           obtain ⟨A6, c6, rfl, _, _, _⟩ := hown'.rd))
      have hl6 : ((rs.take j).map (refTo f) ++ [refTo f y]).length = j + 1 := by simp; omega
      have hm6 : (rs.take (j + 1)).map (refTo f) = (rs.take j).map (refTo f) ++ [refTo f y] := by rw [List.take_add_one, HY.out]; simp
      rw [hl6, ← hm6] at hown'
      go_roundw
      case rel => exact ⟨j + 1, _, by omega, by go_num, grown_store (grown_own (grown_alloc hg _) hgr (fun g h => (hown.lt g h).1)) (.inl rfl) _, cells_set1 hbx', hown'.box hbx' (by decide) 1 _⟩
      case measure => simp [intOf]; omega
    · obtain rfl : j = rs.length := by omega
      rw [List.take_length] at hown
      have q0' := (hg.block w.heap.size (by omega) (fun h => by injection h with h; omega)).trans q0
      have q1' := (hg.block (w.heap.size + 1) (by omega) (fun h => by injection h with h; omega)).trans q1
      have e0 := bcells q0' 0
      have e1 := bcells q0' 1
      have e2 := bcells q0' 2
      have e10 := bcells q1' 0
      have e11 := bcells q1' 1
      have e12 := bcells q1' 2
      have e13 := bcells q1' 3
      obtain ⟨A5, c5, rfl, _, _, _⟩ := hown.rd
      rw [List.length_map] at hown hbx
      have hown := hown.mono (show w.heap.size ≤ w4.heap.size by omega)
      have hBr : w.heap.size ≤ wr.heap.size := by have := hg.size; omega
      have hbr : Below w.heap.size w wr := hb04.grown hg (by omega) (fun g h => by injection h with h; omega)
      have hpr := hp.below hbr
      have hcl : ∀ A' c', Rd eU64 wr A' bs → Calls Try.prog 25 #[.slice A' b c'] wr (fun e w' => ∃ v, e = .returned v ∧ Own eU64 25 w' wr.heap.size v bs ∧ Below wr.heap.size wr w') := fun A' c' h => by
        have := cloneU64 A' c' bs wr h (by rw [HB.out.2]; omega)
        rw [HB.out.2] at this; exact this
      have HCL := Lib.hid hcl
      clear hcl
      go_wp2_with fail
      all_goals first
        | (have hb0 : b = 0 := by omega
           refine (HCL.out _ _ (by rw [List.eq_nil_of_length_eq_zero (l := bs) (by rw [HB.out.2]; exact hb0)]; exact Rd.nil)).mono ?_
           clear hb0)
        | refine (HCL.out _ _ (by rw [HB2.out]; exact (hpr.drop (at_ + 1 + r) (Option.map (fun x => x.add (at_ + 1 + r)) A) (fun b off hA _ => by subst hA; simp [eU64, Addr.add])).take b)).mono ?_
      all_goals
        rintro e w6 ⟨v2, rfl, hown2, hb6⟩
        have hbx6 := heap_below hbx hb6
        have hbq6 := heap_below q1' hb6
        have hfz6 : w6.frozen? ⟨w.heap.size + 1 + 1, 2, none⟩ = false := own_free hbx6
        have k0 := bcells hbx6 0
        have k1 := bcells hbx6 1
        have k2 := bcells hbx6 2
        have k3 := bcells hbx6 3
        have j0 := bcells hbq6 0
        have j1 := bcells hbq6 1
        have j2 := bcells hbq6 2
        have j3 := bcells hbq6 3
        have f0 : ∀ i, w6.frozen? ⟨w.heap.size + 1, i, none⟩ = false := fun i => own_free hbq6
        obtain ⟨A7, c7, rfl, _, _, _⟩ := hown2.rd
        go_wp2_with fail
        refine bodyPost_ret (v := .agg #[.int .i64 t, .slice A5 rs.length c5, .slice A7 bs.length c7, .bool fr]) (by simp [results, Try.results101, go_sem, j0, j1, j2, j3]) rfl ⟨_, rfl, objEnd (hown.below hb6) (hown2.mono hBr) hbx6 hbq6 (by omega), ?_⟩
        have hB3 := hbr.trans (hb6.mono hBr)
        exact ((((hB3.setCell (p := ⟨w.heap.size + 1 + 1, 2, none⟩) (by simp; omega) _).setCell (p := ⟨w.heap.size + 1, 0, none⟩) (by simp) _).setCell (p := ⟨w.heap.size + 1, 1, none⟩) (by simp) _).setCell (p := ⟨w.heap.size + 1, 2, none⟩) (by simp) _).setCell (p := ⟨w.heap.size + 1, 3, none⟩) (by simp) _
end Go.Proofs.Ythkenhbpimddpaa
namespace Go.Proofs.Ythkenhbpimddpaa
open Go.RowKit

set_option maxHeartbeats 1000000 in
theorem walkCheck_any (A : Option Addr) (c : Nat) (a : List Nat) (w : World) (hp : Rd eU64 w A a) (hac : a.length ≤ c) (hm : c ≤ maxLen) (ha : Words64 a) :
    Calls Try.prog 90 #[.slice A a.length c] w (Ret (.int .i64 (walkCheck a).2) w) := by
  obtain ⟨l, hl⟩ : ∃ l, (walkCheck a).1 = l := ⟨_, rfl⟩
  obtain ⟨r, hr⟩ : ∃ r, (walkCheck a).2 = r := ⟨_, rfl⟩
  have HQ := Lib.hid (walkcheck_any A c a w hp hac hm ha)
  rw [hl, hr] at HQ
  rw [hr]
  clear hl hr
  go_enter Try.func90, Try.ntmps90
  go_wp2_with (go_at_call 98; refine HQ.out.mono ?_; rintro e w1 ⟨v, m, rfl, hown, hM, hb1⟩)
  go_ret
  exact ⟨rfl, hb1⟩

theorem walkAt1 (s : Spot) (w : World) (b : Nat) (n : Int) (hb : w.cell? ⟨b, 0, none⟩ = some (.int .i64 n)) (hlt : b < w.heap.size) :
    Calls Try.prog 100 #[.agg #[.int .i64 (s.at_ : Int), .int .i64 s.head.refs, .int .i64 s.head.body, .int .i64 s.head.tag, .bool s.head.free], .pointer (some ⟨b, 0, none⟩)] w (Ret (.bool ((s.at_ : Int) == n)) w) := by
  obtain ⟨at_, h⟩ := s
  go_enter Try.func100, Try.ntmps100
  go_wp2
  go_ret
  exact ⟨rfl, (Below.refl _ _).alloc (Nat.le_refl _) _⟩

theorem walkAt1' (s : Spot) (w w1 : World) (b : Nat) (n : Int) (h : w1.heap[b]? = some (.cells #[.int .i64 n] 3 (0, 0))) (hb : Below w1.heap.size w1 w) :
    Calls Try.prog 100 (#[.agg #[.int .i64 (s.at_ : Int), .int .i64 s.head.refs, .int .i64 s.head.body, .int .i64 s.head.tag, .bool s.head.free]] ++ #[.pointer (some ⟨b, 0, none⟩)]) w (Ret (.bool ((s.at_ : Int) == n)) w) := by
  have h' := heap_below h hb
  simpa using walkAt1 s w b n (by rw [bcells h' 0]; rfl) (Array.getElem?_eq_some_iff.1 h').1
def objNil : Objt := ⟨0, [], [], false⟩
def walkAt (a : List Nat) (n : Int) : Objt × Int :=
  if (walkCheck a).2 ≠ 0 then (objNil, (walkCheck a).2)
  else match (walkCheck a).1.find? (fun s => (s.at_ : Int) == n) with
    | none => (objNil, 5)
    | some s => (objOf a (placesF (walkCheck a).1) s, 0)
theorem walkAt_e {a : List Nat} {n : Int} (h : ¬ (walkCheck a).2 = 0) : walkAt a n = (objNil, (walkCheck a).2) := by rw [walkAt, if_pos h]
theorem walkAt_no {a : List Nat} {n : Int} (h : (walkCheck a).2 = 0) (h' : (walkCheck a).1.find? (fun s => (s.at_ : Int) == n) = none) : walkAt a n = (objNil, 5) := by rw [walkAt, if_neg (by simp [h]), h']
theorem walkAt_ok {a : List Nat} {n : Int} {s : Spot} (h : (walkCheck a).2 = 0) (h' : (walkCheck a).1.find? (fun s => (s.at_ : Int) == n) = some s) : walkAt a n = (objOf a (placesF (walkCheck a).1) s, 0) := by rw [walkAt, if_neg (by simp [h]), h']
/-- an object and plain values -/
def AtRet (w : World) (o : Objt) (r : Int) (en : Ending) (w' : World) : Prop :=
  ∃ u, en = .returned (.tuple #[u, .int .i64 r]) ∧ ObjIs w' w.heap.size u o ∧ Below w.heap.size w w'
theorem walkCheck_all {a : List Nat} (h : (walkCheck a).2 = 0) : (∀ s ∈ (walkCheck a).1, SpotOk a s) ∧ (walkCheck a).1.length ≤ 256 := by
  by_cases h1 : (walkSpots a).2 = 0
  · cases h2 : allNamed a (placesF (walkSpots a).1) (walkSpots a).1
    · rw [walkCheck_no h1 h2] at h; exact absurd h (by decide)
    · rw [walkCheck_ok h1 h2]; exact ⟨walkSpots_all h1, walkSpots_len⟩
  · rw [walkCheck_e h1] at h; exact absurd h h1

set_option maxRecDepth 100000 in
set_option maxHeartbeats 2000000 in
theorem walkAt_any (A : Option Addr) (c : Nat) (a : List Nat) (n : Int) (w : World) (hp : Rd eU64 w A a) (hac : a.length ≤ c) (hm : c ≤ maxLen) (ha : Words64 a) :
    Calls Try.prog 59 #[.slice A a.length c, .int .i64 n] w (AtRet w (walkAt a n).1 (walkAt a n).2) := by
  have heg : Enters Try.prog 100 := enters Try.func100 (by kernel_rfl) (by kernel_rfl)
  have HQ : Hid (∀ W, Rd eU64 W A a → Calls Try.prog 98 #[.slice A a.length c] W (CheckRet W (walkCheck a).1 (walkCheck a).2)) := fun W h => walkcheck_any A c a W h hac hm ha
  by_cases he : (walkCheck a).2 = 0
  · have HE := Lib.hid he
    obtain ⟨hall, h256⟩ := walkCheck_all he
    obtain ⟨l, hl⟩ : ∃ l, (walkCheck a).1 = l := ⟨_, rfl⟩
    rw [hl, he] at HQ
    rw [hl] at hall h256
    have HALL := Lib.hid hall
    have HL := Lib.hid hl
    clear hall
    have hml : l.length ≤ maxLen := by simp [maxLen]; omega
    cases hf : l.findIdx? (fun s => (s.at_ : Int) == n) with
    | none =>
      have HF : Hid (walkAt a n = (objNil, 5)) := walkAt_no he (by rw [hl]; rw [List.findIdx?_eq_none_iff] at hf; rw [List.find?_eq_none]; intro x hx; simpa using hf x hx)
      have HI := Lib.hid (idxI_none hf)
      rw [HF.out]
      clear he hl hf
      go_enter Try.func59, Try.ntmps59
      go_wp2_with (first
        | (go_at_call 98; refine (HQ.out _ ((hp.alloc _).alloc _)).mono ?_; rintro e w1 ⟨v, m, rfl, hown, hM, hb1⟩
           obtain ⟨b, rfl, hbm, hMM⟩ := hM rfl
           have hrd := hown.rd
           obtain ⟨A', c', rfl, _, _, hrd⟩ := hrd
           have q0 : w1.heap[w.heap.size]? = some (.cells #[.int .i64 n] 3 (0, 0)) := heap_below (heap_alloc_keep (heap_alloc_new w _)) hb1
           have q1 : w1.heap[w.heap.size + 1]? = some (.cells #[.int .i64 0, .slice none 0 0, .slice none 0 0, .bool false] 118 (0, 0)) := heap_below (by rw [← heap_alloc_size w]; exact heap_alloc_new (w.alloc _) _) hb1
           have hb01 : Below w.heap.size w w1 := (((Below.refl _ _).alloc (Nat.le_refl _) _).alloc (by simp) _).trans (hb1.mono (by simp; omega)))
        | (go_at_call 99; refine (indexFuncSpot _ _ _ _ hrd hml _ _ (fun s => (s.at_ : Int) == n) heg (fun x _ W hW => walkAt1' x W _ _ n q0 hW)).mono ?_; rw [HI.out]; rintro e w2 ⟨rfl, hb2⟩
           have q1' := heap_below q1 hb2
           have j0 := bcells q1' 0
           have j1 := bcells q1' 1
           have j2 := bcells q1' 2
           have j3 := bcells q1' 3
           have f0 : ∀ i, w2.frozen? ⟨w.heap.size + 1, i, none⟩ = false := fun i => own_free q1'))
      refine bodyPost_ret (v := .tuple #[.agg #[.int .i64 0, .slice none 0 0, .slice none 0 0, .bool false], .int .i64 5]) (by simp [results, Try.results59, go_sem, j0, j1, j2, j3]) rfl ⟨_, rfl, ⟨_, _, rfl, Own.nil, Own.nil⟩, ?_⟩
      have hB3 := hb01.trans (hb2.mono hb01.size)
      exact (((hB3.setCell (p := ⟨w.heap.size + 1, 0, none⟩) (by simp) _).setCell (p := ⟨w.heap.size + 1, 1, none⟩) (by simp) _).setCell (p := ⟨w.heap.size + 1, 2, none⟩) (by simp) _).setCell (p := ⟨w.heap.size + 1, 3, none⟩) (by simp) _
    | some i =>
      obtain ⟨hi, hpi, hbef⟩ := List.findIdx?_eq_some_iff_getElem.1 hf
      obtain ⟨s, hx⟩ : ∃ s, l[i]? = some s := ⟨l[i], List.getElem?_eq_getElem hi⟩
      have hsx : l[i] = s := by rw [List.getElem?_eq_getElem hi] at hx; injection hx
      have hfind : l.find? (fun s => (s.at_ : Int) == n) = some s := by
        rw [List.find?_eq_some_iff_getElem]
        exact ⟨by rw [← hsx]; exact hpi, i, hi, hsx, fun j hj => by simpa using hbef j hj⟩
      have HF : Hid (walkAt a n = (objOf a (placesF l) s, 0)) := by
        have := walkAt_ok (n := n) he (by rw [hl]; exact hfind)
        rw [hl] at this; exact this
      have HI := Lib.hid (idxI_some hf)
      have HX := Lib.hid hx
      have HSP := Lib.hid (HALL.out s (List.mem_of_getElem? hx))
      obtain ⟨o, ho⟩ : ∃ o, objOf a (placesF l) s = o := ⟨_, rfl⟩
      have HO : Hid (∀ (W : World) (m : Nat), Rd eU64 W A a → MapIs .u64 encInt W m (placesF l) → Calls Try.prog 101 #[.slice A a.length c, .agg #[.int .i64 (s.at_ : Int), .int .i64 s.head.refs, .int .i64 s.head.body, .int .i64 s.head.tag, .bool s.head.free], .map (some m)] W (ObjRet W o)) := fun W m h hM => by
        rw [← ho]; exact walkObject_any A c a s W m _ h hac hm HSP.out hM
      rw [HF.out, ho]
      have hi0 : (0 : Int) ≤ (i : Int) := by omega
      have hi1 : (i : Int) < (l.length : Int) := by omega
      clear he hl hf ho hx hsx hfind hpi hbef
      go_enter Try.func59, Try.ntmps59
      go_wp2_with (first
        | (go_at_call 98; refine (HQ.out _ ((hp.alloc _).alloc _)).mono ?_; rintro e w1 ⟨v, m, rfl, hown, hM, hb1⟩
           obtain ⟨b, rfl, hbm, hMM⟩ := hM rfl
           have hrd := hown.rd
           obtain ⟨A', c', rfl, _, _, hrd⟩ := hrd
           have q0 : w1.heap[w.heap.size]? = some (.cells #[.int .i64 n] 3 (0, 0)) := heap_below (heap_alloc_keep (heap_alloc_new w _)) hb1
           have q1 : w1.heap[w.heap.size + 1]? = some (.cells #[.int .i64 0, .slice none 0 0, .slice none 0 0, .bool false] 118 (0, 0)) := heap_below (by rw [← heap_alloc_size w]; exact heap_alloc_new (w.alloc _) _) hb1
           have hb01 : Below w.heap.size w w1 := (((Below.refl _ _).alloc (Nat.le_refl _) _).alloc (by simp) _).trans (hb1.mono (by simp; omega)))
        | (go_at_call 99; refine (indexFuncSpot _ _ _ _ hrd hml _ _ (fun s => (s.at_ : Int) == n) heg (fun x _ W hW => walkAt1' x W _ _ n q0 hW)).mono ?_; rw [HI.out]; rintro e w2 ⟨rfl, hb2⟩
           have q1' := heap_below q1 hb2
           have hB2 := hb01.trans (hb2.mono hb01.size)
           obtain ⟨b4, off4, rfl, hlt4, c0, c1, c2, c3, c4⟩ := (hrd.below hb2).spot HX.out)
        | (go_at_call 101; refine (HO.out _ _ (hp.below hB2) (hMM.below hb2)).mono ?_; rintro e w3 ⟨u, rfl, hobj, hb3⟩
           obtain ⟨v1, v2, rfl, hown1, hown2⟩ := hobj
           have hr1 := hown1.rd
           have hr2 := hown2.rd
           obtain ⟨A8, c8, rfl, _, _, _⟩ := hr1
           obtain ⟨A9, c9, rfl, _, _, _⟩ := hr2
           have q2 := heap_below q1' hb3
           have j0 := bcells q2 0
           have j1 := bcells q2 1
           have j2 := bcells q2 2
           have j3 := bcells q2 3
           have f0 : ∀ i, w3.frozen? ⟨w.heap.size + 1, i, none⟩ = false := fun i => own_free q2))
      refine bodyPost_ret (v := .tuple #[.agg #[.int .i64 o.tag, .slice A8 o.refs.length c8, .slice A9 o.body.length c9, .bool o.free], .int .i64 0]) (by simp [results, Try.results59, go_sem, j0, j1, j2, j3]) rfl ⟨_, rfl, ⟨_, _, rfl, own_store4 (hown1.mono hB2.size) q2 (by decide), own_store4 (hown2.mono hB2.size) q2 (by decide)⟩, ?_⟩
      have hB3 := hB2.trans (hb3.mono hB2.size)
      exact (((hB3.setCell (p := ⟨w.heap.size + 1, 0, none⟩) (by simp) _).setCell (p := ⟨w.heap.size + 1, 1, none⟩) (by simp) _).setCell (p := ⟨w.heap.size + 1, 2, none⟩) (by simp) _).setCell (p := ⟨w.heap.size + 1, 3, none⟩) (by simp) _
  · have HF : Hid (walkAt a n = (objNil, (walkCheck a).2)) := walkAt_e he
    rw [HF.out]
    obtain ⟨l, hl⟩ : ∃ l, (walkCheck a).1 = l := ⟨_, rfl⟩
    obtain ⟨r, hr⟩ : ∃ r, (walkCheck a).2 = r := ⟨_, rfl⟩
    rw [hl, hr] at HQ
    rw [hr] at he ⊢
    have z : (r != 0) = true := by simp [he]
    clear hl hr he
    go_enter Try.func59, Try.ntmps59
    go_wp2_with (go_at_call 98; refine (HQ.out _ ((hp.alloc _).alloc _)).mono ?_; rintro e w1 ⟨v, m, rfl, hown, hM, hb1⟩
                 have q1 : w1.heap[w.heap.size + 1]? = some (.cells #[.int .i64 0, .slice none 0 0, .slice none 0 0, .bool false] 118 (0, 0)) := heap_below (by rw [← heap_alloc_size w]; exact heap_alloc_new (w.alloc _) _) hb1
                 have hb01 : Below w.heap.size w w1 := (((Below.refl _ _).alloc (Nat.le_refl _) _).alloc (by simp) _).trans (hb1.mono (by simp; omega))
                 have j0 := bcells q1 0
                 have j1 := bcells q1 1
                 have j2 := bcells q1 2
                 have j3 := bcells q1 3
                 have f0 : ∀ i, w1.frozen? ⟨w.heap.size + 1, i, none⟩ = false := fun i => own_free q1)
    refine bodyPost_ret (v := .tuple #[.agg #[.int .i64 0, .slice none 0 0, .slice none 0 0, .bool false], .int .i64 r]) (by simp [results, Try.results59, go_sem, j0, j1, j2, j3]) rfl ⟨_, rfl, ⟨_, _, rfl, Own.nil, Own.nil⟩, ?_⟩
    exact (((hb01.setCell (p := ⟨w.heap.size + 1, 0, none⟩) (by simp) _).setCell (p := ⟨w.heap.size + 1, 1, none⟩) (by simp) _).setCell (p := ⟨w.heap.size + 1, 2, none⟩) (by simp) _).setCell (p := ⟨w.heap.size + 1, 3, none⟩) (by simp) _
end Go.Proofs.Ythkenhbpimddpaa
namespace Go.Proofs.Ythkenhbpimddpaa
open Go.RowKit

/-- of what a held nothing has turned but the blocks in S -/
structure GrownS (S : Nat → Prop) (a b : World) : Prop where
  os : b.os = a.os
  tape : b.tape = a.tape
  output : b.output = a.output
  size : a.heap.size ≤ b.heap.size
  block : ∀ i, i < a.heap.size → ¬ S i → b.heap[i]? = a.heap[i]?

section
variable {α : Type} {L : El α} {S : Nat → Prop} {a b c w : World} {xs : List α} {A : Option Addr} {B e : Nat} {v : Value}
theorem GrownS.refl (S : Nat → Prop) (a : World) : GrownS S a a := ⟨rfl, rfl, rfl, Nat.le_refl _, fun _ _ _ => rfl⟩
theorem GrownS.trans (h : GrownS S a b) (k : GrownS S b c) : GrownS S a c :=
  ⟨k.os.trans h.os, k.tape.trans h.tape, k.output.trans h.output, Nat.le_trans h.size k.size, fun i hi hn => (k.block i (Nat.lt_of_lt_of_le hi h.size) hn).trans (h.block i hi hn)⟩
theorem GrownS.grown {row : Option Nat} (h : GrownS S a b) (k : b.grownBy c row) (hr : ∀ g, row = some g → S g ∨ a.heap.size ≤ g) : GrownS S a c :=
  ⟨k.os.trans h.os, k.tape.trans h.tape, k.output.trans h.output, Nat.le_trans h.size k.size, fun i hi hn => (k.block i (Nat.lt_of_lt_of_le hi h.size) (fun e => by
    rcases hr i e.symm with h | h
    · exact hn h
    · omega)).trans (h.block i hi hn)⟩
theorem GrownS.below (h : GrownS S a b) (k : Below b.heap.size b c) : GrownS S a c :=
  ⟨k.os.trans h.os, k.tape.trans h.tape, k.output.trans h.output, Nat.le_trans h.size k.size, fun i hi hn => (k.block i (Nat.lt_of_lt_of_le hi h.size)).trans (h.block i hi hn)⟩
theorem GrownS.ofBelow (k : Below a.heap.size a b) : GrownS S a b := (GrownS.refl S a).below k
theorem GrownS.alloc (h : GrownS S a b) (o : Obj) : GrownS S a (b.alloc o) := h.below ((Below.refl _ _).alloc (Nat.le_refl _) o)
theorem GrownS.drewN (h : GrownS S a b) (n : Nat) : GrownS S a (b.drewN n) := ⟨h.os, h.tape, h.output, h.size, h.block⟩
theorem GrownS.drew (h : GrownS S a b) : GrownS S a b.drew := ⟨h.os, h.tape, h.output, h.size, h.block⟩
theorem GrownS.setCell (h : GrownS S a b) {p : Addr} (hp : S p.block ∨ a.heap.size ≤ p.block) (u : Value) : GrownS S a (b.setCell p u) :=
  ⟨h.os, h.tape, h.output, by simpa [World.setCell] using h.size, fun i hi hn => (Below.heap_setCell b p u i (by
    rintro rfl
    rcases hp with h | h
    · exact hn h
    · omega)).trans (h.block i hi hn)⟩
theorem GrownS.toBelow (h : GrownS S a b) (hB : B ≤ a.heap.size) (hS : ∀ g, S g → B ≤ g) : Below B a b :=
  ⟨h.os, h.tape, h.output, h.size, fun i hi => h.block i (by omega) (fun hs => by have := hS i hs; omega)⟩
theorem GrownS.weak {S' : Nat → Prop} (h : GrownS S a b) (hs : ∀ g, S g → g < a.heap.size → S' g) : GrownS S' a b :=
  ⟨h.os, h.tape, h.output, h.size, fun i hi hn => h.block i hi (fun hs' => hn (hs i hs' hi))⟩
theorem GrownS.heap {g : Nat} {o : Obj} (h : GrownS S a b) (hg : a.heap[g]? = some o) (hn : ¬ S g) : b.heap[g]? = some o :=
  (h.block g (Array.getElem?_eq_some_iff.1 hg).1 hn).trans hg
theorem Rd.keepS (h : Rd L a A xs) (hg : GrownS S a b) (hA : ∀ q, A = some q → ¬ S q.block) : Rd L b A xs :=
  h.keep hg.size fun bk o u hb ⟨o', ho⟩ hu => (World.cell?_of_block (w := a) (hg.block bk hb (hA ⟨bk, o', none⟩ ho))).trans hu
theorem Own.keepS (h : Own L e a B v xs) (hg : GrownS S a b) (hv : ∀ g, v.ownBlock = some g → ¬ S g) : Own L e b B v xs :=
  h.keep fun g hk => hg.block g (h.lt g hk).2 (hv g hk)
theorem MapIs.keepS {β : Type} {q : IntKind} {enc : β → Value} {f : Int → Option β} {m : Nat} (h : MapIs q enc a m f) (hg : GrownS S a b) (hn : ¬ S m) : MapIs q enc b m f :=
  h.keep (hg.block m h.lt hn)
end
end Go.Proofs.Ythkenhbpimddpaa
namespace Go.Proofs.Ythkenhbpimddpaa
open Go.RowKit

def encHead (h : Head) : Value := .agg #[.int .i64 h.refs, .int .i64 h.body, .int .i64 h.tag, .bool h.free]
def headsGo : List Spot → (Int → Option Head) → (Int → Option Head)
  | [], f => f
  | s :: l, f => headsGo l (if s.head.free = true then f else fput f (s.at_ : Int) s.head)
def headsF (l : List Spot) : Int → Option Head := headsGo l (fun _ => none)
theorem headsGo_at {l : List Spot} {k : Nat} {s : Spot} (h : l[k]? = some s) (f : Int → Option Head) : headsGo (l.drop k) f = headsGo (l.drop (k + 1)) (if s.head.free = true then f else fput f (s.at_ : Int) s.head) := by
  obtain ⟨hk, rfl⟩ := List.getElem?_eq_some_iff.1 h
  rw [List.drop_eq_getElem_cons hk, headsGo]
theorem headsGo_end {l : List Spot} {k : Nat} (h : ¬ k < l.length) (f : Int → Option Head) : headsGo (l.drop k) f = f := by
  rw [List.drop_of_length_le (by omega), headsGo]
/-- the words at which objects begin that are not free -/
def orderOf : List Spot → List Int
  | [] => []
  | s :: l => if s.head.free = true then orderOf l else (s.at_ : Int) :: orderOf l
theorem orderOf_append (l m : List Spot) : orderOf (l ++ m) = orderOf l ++ orderOf m := by
  induction l with
  | nil => rfl
  | cons s l ih =>
    simp only [List.cons_append, orderOf]
    split
    · exact ih
    · rw [ih]; rfl
theorem orderOf_at {l : List Spot} {k : Nat} {s : Spot} (h : l[k]? = some s) : orderOf (l.take (k + 1)) = orderOf (l.take k) ++ (if s.head.free = true then [] else [(s.at_ : Int)]) := by
  rw [List.take_add_one, h, orderOf_append]
  simp only [Option.toList, orderOf]
theorem orderOf_len (l : List Spot) : (orderOf l).length ≤ l.length := by
  induction l with
  | nil => simp [orderOf]
  | cons s l ih =>
    simp only [orderOf]
    split
    · simp; omega
    · simp; omega
def known (f : Int → Option Head) (l : List Int) : Bool := l.all fun at_ => (f at_).isSome
theorem known_step {f : Int → Option Head} {l : List Int} {k : Nat} {s : Int} (h : l[k]? = some s) : known f (l.drop k) = ((f s).isSome && known f (l.drop (k + 1))) := by
  obtain ⟨hk, rfl⟩ := List.getElem?_eq_some_iff.1 h
  rw [List.drop_eq_getElem_cons hk, known, List.all_cons]; rfl
/-- the spots and the error of newHeap -/
def tintErr (a : List Nat) (from_ : List Int) : Int :=
  if (walkCheck a).2 ≠ 0 then (walkCheck a).2 else if known (headsF (walkSpots a).1) from_ = true then 0 else 5
theorem walkCheck_spots {a : List Nat} (h : (walkCheck a).2 = 0) : (walkSpots a).2 = 0 ∧ (walkCheck a).1 = (walkSpots a).1 ∧ allNamed a (placesF (walkSpots a).1) (walkSpots a).1 = true := by
  by_cases h1 : (walkSpots a).2 = 0
  · cases h2 : allNamed a (placesF (walkSpots a).1) (walkSpots a).1
    · rw [walkCheck_no h1 h2] at h; exact absurd h (by decide)
    · exact ⟨h1, by rw [walkCheck_ok h1 h2], rfl⟩
  · rw [walkCheck_e h1] at h; exact absurd h h1
end Go.Proofs.Ythkenhbpimddpaa
namespace Go.Proofs.Ythkenhbpimddpaa
open Go.RowKit

/-- a heap of objects in block g -/
def HeapIs (w : World) (B g : Nat) (A : Option Addr) (c : Nat) (a : List Nat) : Prop :=
  ∃ m v, B ≤ g ∧ B ≤ m ∧ w.heap[g]? = some (.cells #[.slice A a.length c, .map (some m), v] 183 (0, 0)) ∧ MapIs .i64 encHead w m (headsF (walkSpots a).1) ∧ Own eInt 3 w B v (orderOf (walkSpots a).1)
def NewHeapRet (w : World) (A : Option Addr) (c : Nat) (a : List Nat) (r : Int) (en : Ending) (w' : World) : Prop :=
  ∃ u, en = .returned (.tuple #[u, .int .i64 r]) ∧ (r = 0 → ∃ g, u = .pointer (some ⟨g, 0, none⟩) ∧ HeapIs w' w.heap.size g A c a) ∧ Below w.heap.size w w'

theorem zeroHead (w : World) : (zeroValue 124).run Try.prog w = .ok (.agg #[.int .i64 0, .int .i64 0, .int .i64 0, .bool false]) w := by kernel_rfl

set_option maxRecDepth 100000 in
set_option maxHeartbeats 4000000 in
theorem newHeap_any (A D : Option Addr) (c d : Nat) (a : List Nat) (fr : List Int) (w : World) (hp : Rd eU64 w A a) (hq : Rd eInt w D fr) (hac : a.length ≤ c) (hm : c ≤ maxLen) (hfm : fr.length ≤ maxLen) (ha : Words64 a) :
    Calls Try.prog 61 #[.slice A a.length c, .slice D fr.length d] w (NewHeapRet w A c a (tintErr a fr)) := by
  have HC : Hid (∀ W, Rd eU64 W A a → Calls Try.prog 90 #[.slice A a.length c] W (Ret (.int .i64 (walkCheck a).2) W)) := fun W h => walkCheck_any A c a W h hac hm ha
  by_cases hc : (walkCheck a).2 = 0
  · obtain ⟨hs, _, _⟩ := walkCheck_spots hc
    have hall := walkSpots_all hs
    have h256 := walkSpots_len (a := a)
    obtain ⟨l, hl⟩ : ∃ l, (walkSpots a).1 = l := ⟨_, rfl⟩
    have HS : Hid (∀ W, Rd eU64 W A a → Calls Try.prog 103 #[.slice A a.length c] W (OwnRet1 eSpot 178 W l (.int .i64 0))) := fun W h => by
      have := walkSpots_any A c a W h (Nat.le_trans hac hm) ha
      rw [hs, hl] at this; exact this
    have HT : Hid (tintErr a fr = if known (headsF l) fr = true then 0 else 5) := by show _ = _; rw [tintErr, if_neg (by simp [hc]), hl]
    rw [hc] at HC
    rw [hl] at hall h256
    have HALL := Lib.hid hall
    have HL := Lib.hid hl
    clear hs hall hl hc
    unfold maxLen at hfm
    have hmk := fun W => run_makeMap (P := Try.prog) 138 W
    go_enter Try.func61, Try.ntmps61
    go_wp2_with (first
      | (go_at_call 90; refine (HC.out _ hp).mono ?_; rintro e w1 ⟨rfl, hb1⟩)
      | (go_at_call 103; refine (HS.out _ (((hp.below hb1).alloc _).alloc _)).mono ?_; rintro e w2 ⟨v, rfl, hown, hb2⟩
         have hrd := hown.rd
         obtain ⟨A', c', rfl, _, _, hrd⟩ := hrd))
    have hs2 : w1.heap.size + 2 ≤ w2.heap.size := Nat.le_trans (by simp) hb2.size
    have qg : w2.heap[w1.heap.size + 1]? = some (.cells #[.slice A a.length c, .map (some w1.heap.size), .slice none 0 0] 183 (0, 0)) := heap_below (by rw [← heap_alloc_size w1]; exact heap_alloc_new (w1.alloc _) _) hb2
    have hM0 : MapIs .i64 encHead w2 w1.heap.size (fun _ => none) := ((MapIs.new w1).alloc _).below hb2
    have hb02 : Below w.heap.size w w2 := ((hb1.alloc hb1.size _).alloc (Nat.le_trans hb1.size (alloc_le _ _)) _).trans (hb2.mono (Nat.le_trans hb1.size (Nat.le_trans (alloc_le _ _) (alloc_le _ _))))
    have hA' : ∀ q, A' = some q → ¬ (q.block = w1.heap.size ∨ q.block = w1.heap.size + 1) := fun q h => by
      subst h
      have := (hown.lt q.block rfl).1
      simp at this
      omega
    go_loopw [32] (fun i wr => ∃ (k : Nat) (f : Int → Option Head) (v : Value), k ≤ l.length ∧ i = .int .i64 k ∧ Hid (headsGo (l.drop k) f = headsF l) ∧ GrownS (fun i => i = w1.heap.size ∨ i = w1.heap.size + 1) w2 wr ∧ wr.heap[w1.heap.size + 1]? = some (.cells #[.slice A a.length c, .map (some w1.heap.size), v] 183 (0, 0)) ∧ MapIs .i64 encHead wr w1.heap.size f ∧ Own eInt 3 wr w2.heap.size v (orderOf (l.take k))) (fun i _ => l.length - (intOf i).toNat)
    case atStart => exact ⟨0, _, _, by omega, rfl, rfl, GrownS.refl _ _, qg, hM0, Own.nil⟩
    case round =>
      obtain ⟨k, f, v, hk, rfl, hH, hG, hbx, hM, hov⟩ := hrel
      by_cases hlt : k < l.length
      · obtain ⟨x, hx⟩ : ∃ x, l[k]? = some x := ⟨l[k], List.getElem?_eq_getElem hlt⟩
        obtain ⟨b5, off5, rfl, hlt5, c0, c1, c2, c3, c4⟩ := (hrd.keepS hG hA').spot hx
        have HX := Lib.hid (headsGo_at hx f)
        have HO := Lib.hid (orderOf_at hx)
        have hsp := HALL.out x (List.mem_of_getElem? hx)
        have hat := hsp.lt
        have HSP := Lib.hid hsp
        clear hx hsp
        obtain ⟨at_, rf, bd, tg, fb⟩ := x
        simp only at c0 c1 c2 c3 c4 hat
        cases fb
        · have H1 : Hid (headsGo (l.drop (k + 1)) (fput f (at_ : Int) ⟨rf, bd, tg, false⟩) = headsF l) := by show _ = _; rw [← hH.out, HX.out]; simp
          have H2 : Hid (orderOf (l.take (k + 1)) = orderOf (l.take k) ++ [(at_ : Int)]) := by show _ = _; rw [HO.out]; simp
          have hgl : w1.heap.size + 1 < wr.heap.size := (Array.getElem?_eq_some_iff.1 hbx).1
          have hbx1 : wr.cell? ⟨w1.heap.size + 1, 1, none⟩ = some (.map (some w1.heap.size)) := by rw [bcells hbx 1]; rfl
          have hbx2 : wr.cell? ⟨w1.heap.size + 1, 2, none⟩ = some v := by rw [bcells hbx 2]; rfl
          go_wp2_with fail
          obtain ⟨w5, hrun, hM5, hg5⟩ := run_mput (P := Try.prog) ((hM.alloc (.cells #[.int .i64 (at_ : Int), .int .i64 rf, .int .i64 bd, .int .i64 tg, .bool false] 178)).drew) Try.underlying138 Try.underlying3 (at_ : Int) (⟨rf, bd, tg, false⟩ : Head)
          simp only [encHead] at hrun
          go_region
          clear hrun
          have hbx5 : w5.heap[w1.heap.size + 1]? = some (.cells #[.slice A a.length c, .map (some w1.heap.size), v] 183 (0, 0)) := (hg5.block _ (by simp; omega) (fun h => by injection h with h; omega)).trans (heap_alloc_keep hbx)
          have hsp5 : w5.heap[wr.heap.size]? = some (.cells #[.int .i64 (at_ : Int), .int .i64 rf, .int .i64 bd, .int .i64 tg, .bool false] 178 (0, 0)) := (hg5.block _ (by simp) (fun h => by injection h with h; omega)).trans (heap_alloc_new wr _)
          have hG5 : GrownS (fun i => i = w1.heap.size ∨ i = w1.heap.size + 1) w2 w5 := ((hG.alloc _).drew).grown hg5 (fun g h => by injection h with h; exact .inl (.inl h.symm))
          have hov5 : Own eInt 3 w5 w2.heap.size v (orderOf (l.take k)) := ((hov.alloc _).drew).map_grown ((hM.alloc _).drew) hg5
          have e1 : w5.cell? ⟨w1.heap.size + 1, 2, none⟩ = some v := by rw [bcells hbx5 2]; rfl
          have e2 : w5.cell? ⟨wr.heap.size, 0, none⟩ = some (.int .i64 (at_ : Int)) := by rw [bcells hsp5 0]; rfl
          have hB5 : w2.heap.size ≤ (w5.drew.alloc (.cells (eInt.flat [(at_ : Int)]).toArray 3)).heap.size := Nat.le_trans hG5.size (alloc_le _ _)
          have h63 : (orderOf (l.take k)).length + ([(at_ : Int)] : List Int).length ≤ maxLen := by have := orderOf_len (l.take k); simp at this; simp [maxLen]; omega
          have hby : ((orderOf (l.take k)).length + ([(at_ : Int)] : List Int).length) * 8 ≤ 140737488355328 := by have := orderOf_len (l.take k); simp at this; simp; omega
          have hgl5 : w1.heap.size + 1 < w5.heap.size := (Array.getElem?_eq_some_iff.1 hbx5).1
          have hne5 := own_ne hov5 hbx5 (by decide)
          have hlt9 : w1.heap.size + 1 < (w5.drew.alloc (.cells (eInt.flat [(at_ : Int)]).toArray 3)).heap.size := Nat.lt_of_lt_of_le hgl5 (alloc_le _ _)
          have hl6 : (orderOf (l.take k) ++ [(at_ : Int)]).length = (orderOf (l.take k)).length + 1 := by simp
          clear hbx1 hbx2
          go_wp2_with fail
          go_region_law (refine step_append_Own (news := [(at_ : Int)]) rfl (.tmp 52) (.tmp 55) rfl tyInt ((hov5.drew).alloc _) (Rd.of_block (heap_alloc_new _ _) rfl) (by simp [Act.eval, Act.put]) 1 1 (by simp [Act.eval, Act.put]) rfl hB5 h63 hby ?_; intro v' w' hown' hgr hat
                         have hbx' : w'.heap[w1.heap.size + 1]? = some (.cells #[.slice A a.length c, .map (some w1.heap.size), v] 183 (0, 0)) := (hgr.block _ hlt9 (fun h => hne5 h.symm)).trans (heap_alloc_keep (show w5.drew.heap[w1.heap.size + 1]? = _ from hbx5))
                         have hfz' : w'.frozen? ⟨w1.heap.size + 1, 2, none⟩ = false := own_free hbx'
                         have hc1' : w'.cell? ⟨w1.heap.size + 1, 2, none⟩ = some v := by rw [bcells hbx' 2]; rfl
                         obtain ⟨A6, c6, rfl, _, _, _⟩ := hown'.rd)
          all_goals
            rw [hl6, ← H2.out] at hown'
            have hG9 := (((hG5.drew).alloc (.cells (eInt.flat [(at_ : Int)]).toArray 3)).grown hgr (fun g h => .inr (hov5.lt g h).1))
            have hM9 := ((hM5.drew).alloc (.cells (eInt.flat [(at_ : Int)]).toArray 3)).grown hgr (fun h => by have := (hov5.lt _ h).1; omega)
            go_wp2_with fail
            go_roundw
            case rel => exact ⟨k + 1, _, _, by omega, by go_num, H1, hG9.setCell (.inl (.inr rfl)) _, cells_set1 hbx', hM9.setCell (by simp) _, hown'.box hbx' (by decide) 2 _⟩
            case measure => simp [intOf]; omega
        · have H1 : Hid (headsGo (l.drop (k + 1)) f = headsF l) := by show _ = _; rw [← hH.out, HX.out]; simp
          have H2 : Hid (orderOf (l.take (k + 1)) = orderOf (l.take k)) := by show _ = _; rw [HO.out]; simp
          go_wp2_with fail
          go_roundw
          case rel => exact ⟨k + 1, f, v, by omega, by go_num, H1, hG.alloc _, heap_alloc_keep hbx, hM.alloc _, by rw [H2.out]; exact hov.alloc _⟩
          case measure => simp [intOf]; omega
      · have HF : Hid (f = headsF l) := by show _ = _; rw [← hH.out, headsGo_end hlt]
        have hov2 : Own eInt 3 wr w2.heap.size v (orderOf l) := by
          have := hov
          rw [List.take_of_length_le (by omega)] at this; exact this
        have hbr : Below w.heap.size w wr := hb02.trans (hG.toBelow hb02.size (fun g h => by have := hb1.size; omega))
        have hqr := hq.below hbr
        have hbx1 : wr.cell? ⟨w1.heap.size + 1, 1, none⟩ = some (.map (some w1.heap.size)) := by rw [bcells hbx 1]; rfl
        have hgl : w1.heap.size + 1 < wr.heap.size := (Array.getElem?_eq_some_iff.1 hbx).1
        obtain ⟨wo, rfl⟩ : ∃ wo : World, wo = wr := ⟨_, rfl⟩
        go_wp2_with fail
        go_loopw [62] (fun i wr => ∃ j : Nat, j ≤ fr.length ∧ i = .int .i64 j ∧ Hid (known (headsF l) fr = known (headsF l) (fr.drop j)) ∧ Below wo.heap.size wo wr) (fun i _ => fr.length - (intOf i).toNat)
        case atStart => exact ⟨0, by omega, rfl, rfl, Below.refl _ _⟩
        case round =>
          obtain ⟨j, hj, rfl, hK, hb3⟩ := hrel
          have hcx := hb3.cell (p := ⟨w1.heap.size + 1, 1, none⟩) hgl
          rw [hbx1] at hcx
          have hM3 := hM.below hb3
          by_cases hlj : j < fr.length
          · obtain ⟨y, hy⟩ : ∃ y, fr[j]? = some y := ⟨fr[j], List.getElem?_eq_getElem hlj⟩
            obtain ⟨b5, off5, rfl, hlt5, cy⟩ := (hqr.below hb3).int hy
            have HY := Lib.hid (known_step (f := headsF l) hy)
            clear hy
            cases hf : headsF l y with
            | none =>
              have HU : Hid (f y = none) := by show _ = _; rw [HF.out, hf]
              have HE : Hid (tintErr a fr = 5) := by show _ = _; rw [HT.out, hK.out, HY.out, hf]; rfl
              clear hf
              go_wp2_with (refine wpList_look rfl (.tmp 70) (.tmp 71) true rfl Try.underlying138 Try.underlying3 (zeroHead _) hM3 rfl _ rfl (.tuple #[.agg #[.int .i64 0, .int .i64 0, .int .i64 0, .bool false], .bool false]) (by rw [HU.out]; rfl) ?_)
              go_ret2
              exact ⟨_, by rw [HE.out]; rfl, fun h => by rw [HE.out] at h; exact absurd h (by decide), (hbr.trans (hb3.mono hbr.size)).alloc (Nat.le_trans hbr.size hb3.size) _⟩
            | some hd =>
              have HU : Hid (f y = some hd) := by show _ = _; rw [HF.out, hf]
              have HK : Hid (known (headsF l) fr = known (headsF l) (fr.drop (j + 1))) := by show _ = _; rw [hK.out, HY.out, hf]; rfl
              clear hf
              go_wp2_with (refine wpList_look rfl (.tmp 70) (.tmp 71) true rfl Try.underlying138 Try.underlying3 (zeroHead _) hM3 rfl _ rfl (.tuple #[.agg #[.int .i64 hd.refs, .int .i64 hd.body, .int .i64 hd.tag, .bool hd.free], .bool true]) (by rw [HU.out]; rfl) ?_)
              go_roundw
              case rel => exact ⟨j + 1, by omega, by go_num, HK, hb3.alloc hb3.size _⟩
              case measure => simp [intOf]; omega
          · have HE : Hid (tintErr a fr = 0) := by show _ = _; rw [HT.out, hK.out, List.drop_of_length_le (by omega)]; rfl
            go_wp2_with fail
            go_ret2
            refine ⟨_, by rw [HE.out]; rfl, fun _ => ⟨_, rfl, w1.heap.size, v, Nat.le_trans hb1.size (Nat.le_succ _), hb1.size, heap_below hbx hb3, ?_, ?_⟩, hbr.trans (hb3.mono hbr.size)⟩
            · rw [HL.out, ← HF.out]; exact hM3
            · rw [HL.out]; exact (hov2.below hb3).mono hb02.size
  · have HE : Hid (tintErr a fr = (walkCheck a).2) := by show _ = _; rw [tintErr, if_pos hc]
    rw [HE.out]
    obtain ⟨r, hr⟩ : ∃ r, (walkCheck a).2 = r := ⟨_, rfl⟩
    rw [hr] at hc HC ⊢
    have z : (r != 0) = true := by simp [hc]
    have HN := Lib.hid hc
    clear hc hr
    go_enter Try.func61, Try.ntmps61
    go_wp2_with (go_at_call 90; refine (HC.out _ hp).mono ?_; rintro e w1 ⟨rfl, hb1⟩)
    go_ret2
    exact ⟨_, rfl, fun h => absurd h HN.out, hb1⟩
end Go.Proofs.Ythkenhbpimddpaa
namespace Go.Proofs.Ythkenhbpimddpaa
open Go.RowKit

theorem fieldRefs (r b t : Int) (f : Bool) (W : World) : (Instr.field 124 (.agg #[.int .i64 r, .int .i64 b, .int .i64 t, .bool f]) 0).run Try.prog W = .ok (.int .i64 r) W := by kernel_rfl

set_option maxRecDepth 100000 in
set_option maxHeartbeats 4000000 in
theorem tintEach_any (A : Option Addr) (c : Nat) (a : List Nat) (s : Spot) (w : World) (g m : Nat) (v : Value) (hs : SpotOk a s) (hac : a.length ≤ c) (hm : c ≤ maxLen)
    (hbx : w.heap[g]? = some (.cells #[.slice A a.length c, .map (some m), v] 183 (0, 0))) (hM : MapIs .i64 encHead w m (headsF (walkSpots a).1)) (hf : headsF (walkSpots a).1 (s.at_ : Int) = some s.head)
    (gf : Nat) (lb : Array Value) (eg : Enters Try.prog gf) (I : Nat → World → Prop) (hsm : ∀ y ∈ refsOf a s, y ≤ 1000000)
    (hrd : ∀ j W, I j W → Rd eU64 W A a) (hdrew : ∀ W n, I 0 W → I 0 (W.drewN n))
    (step : ∀ j y W, (refsOf a s)[j]? = some (y + 1) → I j W → Calls Try.prog gf (#[.int .i64 (y : Int)] ++ lb) W (fun e W' => e = .returned (.tuple #[]) ∧ I (j + 1) W'))
    (step0 : ∀ j W, (refsOf a s)[j]? = some 0 → I j W → I (j + 1) W) (h0 : I 0 w) :
    Calls Try.prog 63 #[.pointer (some ⟨g, 0, none⟩), .int .i64 (s.at_ : Int), .func (.func gf) #[] lb] w (fun e w' => e = .returned (.tuple #[]) ∧ I (refsOf a s).length w') := by
  have hchk := hs.check
  obtain ⟨h1, h2, h3, h4, h5, _⟩ := headCheck_ok hchk
  have hfit := hs.fits
  unfold Head.len at hfit
  have hrl := refsOf_len hs
  obtain ⟨rs, hrs⟩ : ∃ rs, refsOf a s = rs := ⟨_, rfl⟩
  rw [hrs] at hsm hrl ⊢
  have HR : Hid (rs = (a.drop (s.at_ + 1)).take s.head.refs.toNat) := by show _ = _; rw [← hrs]; rfl
  have HSM := Lib.hid hsm
  have HRD := Lib.hid hrd
  have HDR := Lib.hid hdrew
  have HST : Hid (∀ j y W, rs[j]? = some (y + 1) → I j W → Calls Try.prog gf (#[.int .i64 (y : Int)] ++ lb) W (fun e W' => e = .returned (.tuple #[]) ∧ I (j + 1) W')) := by rw [← hrs]; exact step
  have HS0 : Hid (∀ j W, rs[j]? = some 0 → I j W → I (j + 1) W) := by rw [← hrs]; exact step0
  have H0 := Lib.hid h0
  have HF := Lib.hid hf
  clear hsm hrd hdrew step step0 h0 hchk hs hrs hf
  obtain ⟨at_, r, b, t, fr⟩ := s
  simp only at h1 h2 h3 h4 h5 hfit HR HF ⊢
  obtain ⟨r, rfl⟩ := Int.eq_ofNat_of_zero_le h1
  obtain ⟨b, rfl⟩ := Int.eq_ofNat_of_zero_le h2
  simp only [Int.toNat_natCast] at hfit HR
  have HRL : Hid (rs.length = r) := by show _ = _; rw [HR.out]; simp; omega
  unfold maxLen at hm
  unfold Enters at eg
  have q0 : w.cell? ⟨g, 0, none⟩ = some (.slice A a.length c) := by rw [bcells hbx 0]; rfl
  have q1 : w.cell? ⟨g, 1, none⟩ = some (.map (some m)) := by rw [bcells hbx 1]; rfl
  have hl : ∀ n, (Instr.lookup 138 (.map (some m)) (.int .i64 (at_ : Int)) false).run Try.prog (w.drewN n) = .ok (.agg #[.int .i64 r, .int .i64 b, .int .i64 t, .bool fr]) (w.drewN n) := fun n => by
    rw [run_look (P := Try.prog) false (hM.drewN n) Try.underlying138 Try.underlying3 (zeroHead _), HF.out]; rfl
  have hfld := fun W => fieldRefs (r : Int) b t fr W
  have hw1 : IntKind.i64.wrap ((at_ : Int) + 1) = (at_ : Int) + 1 := by rw [IntKind.wrap_i64]; omega
  have hw2 : IntKind.i64.wrap ((at_ : Int) + 1 + (r : Int)) = (at_ : Int) + 1 + (r : Int) := by rw [IntKind.wrap_i64]; omega
  go_enter Try.func63, Try.ntmps63
  go_wp2_with fail
  go_quiet (fail)
  all_goals go_wp2_with fail
  all_goals first
    | (have hr0 : r = 0 := by omega
       have HQ : Hid (∀ j W, I j W → Rd eU64 W A rs) := fun j W _ => by rw [List.eq_nil_of_length_eq_zero (l := rs) (by rw [HRL.out]; exact hr0)]; exact Rd.nil
       clear hr0)
    | have HQ : Hid (∀ j W, I j W → Rd eU64 W (Option.map (fun x => { block := x.block, off := x.off + (at_ + 1) }) A) rs) := fun j W hI => by
        rw [HR.out]
        exact ((HRD.out j W hI).drop (at_ + 1) (Option.map (fun x => { block := x.block, off := x.off + (at_ + 1) }) A) (fun b off hA _ => by subst hA; simp [eU64])).take r
  all_goals
    clear hl hfld hw1 hw2
    go_loopw [26] (fun i wr => ∃ j : Nat, j ≤ r ∧ i = .int .i64 j ∧ Hid (I j wr)) (fun i _ => r - (intOf i).toNat)
    case atStart => exact ⟨0, by omega, rfl, HDR.out _ _ H0.out⟩
    case round =>
      obtain ⟨j, hj, rfl, hI⟩ := hrel
      by_cases hlj : j < r
      · first
        | (exfalso; omega)
        | skip
        all_goals
          obtain ⟨y, hy⟩ : ∃ y, rs[j]? = some y := ⟨rs[j]'(by rw [HRL.out]; exact hlj), List.getElem?_eq_getElem _⟩
          obtain ⟨b5, off5, hA5, hlt5, cy⟩ := (HQ.out j _ hI.out).u64 hy
          have hy6 := HSM.out y (List.mem_of_getElem? hy)
          cases y with
          | zero =>
            have HI2 : Hid (I (j + 1) wr) := HS0.out j wr hy hI.out
            clear hy
            simp only [hA5]
            go_wp2_with fail
            go_roundw
            case rel => exact ⟨j + 1, by omega, by go_num, HI2⟩
            case measure => simp [intOf]; omega
          | succ y =>
            have HY : Hid (∀ W, I j W → Calls Try.prog gf (#[.int .i64 (y : Int)] ++ lb) W (fun e W' => e = .returned (.tuple #[]) ∧ I (j + 1) W')) := fun W h => HST.out j y W hy h
            clear hy
            simp only [hA5]
            go_wp2_with fail
            refine (HY.out _ hI.out).mono ?_
            rintro e w5 ⟨rfl, hI5⟩
            have HI5 := Lib.hid hI5
            clear hI5
            go_wp2_with fail
            go_roundw
            case rel => exact ⟨j + 1, by omega, by go_num, HI5⟩
            case measure => simp [intOf]; omega
      · obtain rfl : j = r := by omega
        go_wp2_with fail
        go_end0
        exact ⟨rfl, by rw [HRL.out]; exact hI.out⟩
end Go.Proofs.Ythkenhbpimddpaa
namespace Go.Proofs.Ythkenhbpimddpaa
open Go.RowKit

def encBool (b : Bool) : Value := .bool b
theorem zeroBool (w : World) : (zeroValue 4).run Try.prog w = .ok (.bool false) w := by kernel_rfl
def seenF (xs : List Int) : Int → Option Bool := fun k => if k ∈ xs then some true else none
def addTo (xs : List Int) (n : Int) : List Int := if n ∈ xs then xs else xs ++ [n]
theorem addTo_yes {xs : List Int} {n : Int} (h : n ∈ xs) : addTo xs n = xs := if_pos h
theorem addTo_no {xs : List Int} {n : Int} (h : ¬ n ∈ xs) : addTo xs n = xs ++ [n] := if_neg h
theorem seenF_add {xs : List Int} {n : Int} : fput (seenF xs) n true = seenF (xs ++ [n]) := by
  funext k
  unfold fput seenF
  by_cases h : k = n
  · simp [h]
  · simp [h]
/-- what Reach keeps: in box gs the map of what is seen, in box go the row of it -/
def ReachIs (w : World) (B gs go : Nat) (xs : List Int) : Prop :=
  B ≤ gs ∧ B ≤ go ∧ ∃ ms v, B ≤ ms ∧ w.heap[gs]? = some (.cells #[.map (some ms)] 128 (0, 0)) ∧ w.heap[go]? = some (.cells #[v] 47 (0, 0)) ∧ MapIs .i64 encBool w ms (seenF xs) ∧ Own eInt 3 w B v xs

set_option maxRecDepth 100000 in
set_option maxHeartbeats 2000000 in
theorem reachAdd (w : World) (B gs go : Nat) (xs : List Int) (n : Int) (h : ReachIs w B gs go xs) (hlen : xs.length ≤ 1000000) (hB : B ≤ w.heap.size) :
    Calls Try.prog 62 #[.int .i64 n, .pointer (some ⟨gs, 0, none⟩), .pointer (some ⟨go, 0, none⟩)] w (fun e w' => e = .returned (.tuple #[]) ∧ ReachIs w' B gs go (addTo xs n) ∧ Below B w w') := by
  obtain ⟨hg1, hg2, ms, v, hms, q1, q2, hM, hown⟩ := h
  have c1 : w.cell? ⟨gs, 0, none⟩ = some (.map (some ms)) := by rw [bcells q1 0]; rfl
  have c2 : w.cell? ⟨go, 0, none⟩ = some v := by rw [bcells q2 0]; rfl
  by_cases hin : n ∈ xs
  · have HA := Lib.hid (addTo_yes hin)
    have HS : Hid (seenF xs n = some true) := by simp [seenF, Hid, hin]
    clear hin
    go_enter Try.func62, Try.ntmps62
    go_wp2_with (refine wpList_look rfl (.tmp 4) (.tmp 5) false rfl Try.underlying128 Try.underlying3 (zeroBool _) hM rfl _ rfl (.bool true) (by rw [HS.out]; rfl) ?_)
    go_end0
    exact ⟨rfl, by rw [HA.out]; exact ⟨hg1, hg2, ms, v, hms, q1, q2, hM, hown⟩, Below.refl _ _⟩
  · have HA := Lib.hid (addTo_no hin)
    have HS : Hid (seenF xs n = none) := by simp [seenF, Hid, hin]
    clear hin
    have h63 : xs.length + ([n] : List Int).length ≤ maxLen := by simp [maxLen]; omega
    have hby : (xs.length + ([n] : List Int).length) * 8 ≤ 140737488355328 := by simp; omega
    have hne2 : go ≠ ms := hM.ne q2
    have hne1 : gs ≠ ms := hM.ne q1
    have hneo : v.ownBlock ≠ some go := own_ne hown q2 (by decide)
    have hneg : v.ownBlock ≠ some gs := own_ne hown q1 (by decide)
    have hngg : gs ≠ go := fun e => by rw [e, q2] at q1; injection q1 with h1; injection h1 with _ h2; exact absurd h2 (by decide)
    go_enter Try.func62, Try.ntmps62
    go_wp2_with (first
      | (refine wpList_look rfl (.tmp 4) (.tmp 5) false rfl Try.underlying128 Try.underlying3 (zeroBool _) hM rfl _ rfl (.bool false) (by rw [HS.out]; rfl) ?_)
      | (refine wpList_mput rfl (.tmp 8) (.tmp 9) _ (.inl rfl) Try.underlying128 Try.underlying3 hM rfl _ rfl true rfl ?_; intro w1 hM1 hgr1
         have q11 : w1.heap[gs]? = some (.cells #[.map (some ms)] 128 (0, 0)) := (hgr1.block _ (Array.getElem?_eq_some_iff.1 q1).1 (fun e => hne1 (by injection e))).trans q1
         have q12 : w1.heap[go]? = some (.cells #[v] 47 (0, 0)) := (hgr1.block _ (Array.getElem?_eq_some_iff.1 q2).1 (fun e => hne2 (by injection e))).trans q2
         have c12 : w1.cell? ⟨go, 0, none⟩ = some v := by rw [bcells q12 0]; rfl
         have hown1 := hown.map_grown hM hgr1
         have hl2 : go < w1.heap.size := (Array.getElem?_eq_some_iff.1 q12).1
         have hB1 : B ≤ (w1.alloc (.cells (eInt.flat [n]).toArray 3)).heap.size := Nat.le_trans hB (Nat.le_trans hgr1.size (alloc_le _ _))
         have hl3 : go < (w1.alloc (.cells (eInt.flat [n]).toArray 3)).heap.size := Nat.lt_of_lt_of_le hl2 (alloc_le _ _)
         have hl4 : gs < (w1.alloc (.cells (eInt.flat [n]).toArray 3)).heap.size := Nat.lt_of_lt_of_le (Array.getElem?_eq_some_iff.1 q11).1 (alloc_le _ _))
      | (at_builtin; refine wpList_append_Own (news := [n]) rfl (.tmp 10) (.tmp 12) rfl tyInt (hown1.alloc _) (Rd.of_block (heap_alloc_new _ _) rfl) rfl 1 1 rfl rfl hB1 h63 hby ?_; intro v' w2 hown2 hgr2 hat
         have q22 : w2.heap[go]? = some (.cells #[v] 47 (0, 0)) := (hgr2.block _ hl3 (fun e => hneo e.symm)).trans (heap_alloc_keep q12)
         have q21 : w2.heap[gs]? = some (.cells #[.map (some ms)] 128 (0, 0)) := (hgr2.block _ hl4 (fun e => hneg e.symm)).trans (heap_alloc_keep q11)
         have c22 : w2.cell? ⟨go, 0, none⟩ = some v := by rw [bcells q22 0]; rfl
         have f22 : w2.frozen? ⟨go, 0, none⟩ = false := own_free q22
         obtain ⟨A6, c6, rfl, _, _, _⟩ := hown2.rd))
    have hl6 : (xs ++ [n]).length = xs.length + 1 := by simp
    rw [hl6] at hown2
    have hM2 := ((hM1.alloc (.cells (eInt.flat [n]).toArray 3)).grown hgr2 (fun e => by
      have h1 := hown1
      rcases h1 with ⟨rfl, _⟩ | ⟨g, ys, rfl, _, _, hgc⟩
      · cases e
      · simp [Value.ownBlock] at e
        exact hM1.ne hgc e)).setCell (p := ⟨go, 0, none⟩) hne2 (.slice A6 (xs.length + 1) c6)
    go_end0
    refine ⟨rfl, ?_, ?_⟩
    · rw [HA.out]
      refine ⟨hg1, hg2, ms, _, hms, ?_, box_set q22, seenF_add ▸ hM2, hown2.box q22 (by decide) 0 _⟩
      rw [Below.heap_setCell _ _ _ _ hngg]; exact q21
    · have hb1 : Below B w w1 := (Below.refl _ _).grown hgr1 hB (fun g hg => by injection hg with hg; omega)
      exact ((hb1.alloc (Nat.le_trans hB hgr1.size) _).grown hgr2 hB1 (fun g hg => (hown1.lt g hg).1)).setCell (p := ⟨go, 0, none⟩) hg2 _
end Go.Proofs.Ythkenhbpimddpaa
namespace Go.Proofs
open Go.Shelf
def Try.laysSort_ren : Go.Shelf.Ren := ⟨fun | 189 => 64 | 125 => 105 | 257 => 104 | 128 => 142 | 129 => 143 | 294 => 133 | 295 => 134 | 296 => 135 | 297 => 136 | 298 => 137 | 299 => 138 | 216 => 139 | 300 => 140 | 301 => 141 | 328 => 155 | 329 => 156 | 330 => 157 | 331 => 158 | 332 => 159 | 215 => 121 | 343 => 161 | n => n, fun | 28 => 47 | 3 => 3 | 46 => 158 | 0 => 0 | 51 => 209 | 53 => 25 | 4 => 4 | 183 => 203 | 182 => 202 | 131 => 153 | 5 => 5 | 9 => 9 | 218 => 216 | 222 => 219 | 228 => 221 | 229 => 222 | n => n, fun | n => n⟩
theorem Try.laysSort : Go.Proofs.Lays.n189 Try.prog Try.laysSort_ren := {
  mixed := by kernel_rfl
  f125 := Try.func105.trans (congrArg some (by kernel_rfl))
  f128 := Try.func142.trans (congrArg some (by kernel_rfl))
  f129 := Try.func143.trans (congrArg some (by kernel_rfl))
  f189 := Try.func64.trans (congrArg some (by kernel_rfl))
  f215 := Try.func121.trans (congrArg some (by kernel_rfl))
  f216 := Try.func139.trans (congrArg some (by kernel_rfl))
  f257 := Try.func104.trans (congrArg some (by kernel_rfl))
  f294 := Try.func133.trans (congrArg some (by kernel_rfl))
  f295 := Try.func134.trans (congrArg some (by kernel_rfl))
  f296 := Try.func135.trans (congrArg some (by kernel_rfl))
  f297 := Try.func136.trans (congrArg some (by kernel_rfl))
  f298 := Try.func137.trans (congrArg some (by kernel_rfl))
  f299 := Try.func138.trans (congrArg some (by kernel_rfl))
  f300 := Try.func140.trans (congrArg some (by kernel_rfl))
  f301 := Try.func141.trans (congrArg some (by kernel_rfl))
  f328 := Try.func155.trans (congrArg some (by kernel_rfl))
  f329 := Try.func156.trans (congrArg some (by kernel_rfl))
  f330 := Try.func157.trans (congrArg some (by kernel_rfl))
  f331 := Try.func158.trans (congrArg some (by kernel_rfl))
  f332 := Try.func159.trans (congrArg some (by kernel_rfl))
  f343 := Try.func161.trans (congrArg some (by kernel_rfl))
  t0 := Try.underlying0
  a0 := Try.isAgg0
  z0 := Try.sizeOf0
  v0 := Try.zeroValue0
  t3 := Try.underlying3
  a3 := Try.isAgg3
  z3 := Try.sizeOf3
  v3 := Try.zeroValue3
  t4 := Try.underlying4
  a4 := Try.isAgg4
  z4 := Try.sizeOf4
  v4 := Try.zeroValue4
  t5 := Try.underlying5
  a5 := Try.isAgg5
  z5 := Try.sizeOf5
  v5 := Try.zeroValue5
  t9 := Try.underlying9
  a9 := Try.isAgg9
  z9 := Try.sizeOf9
  v9 := Try.zeroValue9
  t28 := Try.underlying47
  a28 := Try.isAgg47
  z28 := Try.sizeOf47
  v28 := Try.zeroValue47
  t46 := Try.underlying158
  a46 := Try.isAgg158
  z46 := Try.sizeOf158
  v46 := Try.zeroValue158
  t51 := Try.underlying209
  a51 := Try.isAgg209
  z51 := Try.sizeOf209
  v51 := Try.zeroValue209
  t53 := Try.underlying25
  a53 := Try.isAgg25
  z53 := Try.sizeOf25
  v53 := Try.zeroValue25
  t131 := Try.underlying153
  a131 := Try.isAgg153
  z131 := Try.sizeOf153
  v131 := Try.zeroValue153
  t182 := Try.underlying202
  a182 := Try.isAgg202
  z182 := Try.sizeOf202
  v182 := Try.zeroValue202
  t183 := Try.underlying203
  a183 := Try.isAgg203
  z183 := Try.sizeOf203
  v183 := Try.zeroValue203
  t218 := Try.underlying216
  a218 := Try.isAgg216
  z218 := Try.sizeOf216
  v218 := Try.zeroValue216
  t222 := Try.underlying219
  a222 := Try.isAgg219
  z222 := Try.sizeOf219
  v222 := Try.zeroValue219
  t228 := Try.underlying221
  a228 := Try.isAgg221
  z228 := Try.sizeOf221
  v228 := Try.zeroValue221
  t229 := Try.underlying222
  a229 := Try.isAgg222
  z229 := Try.sizeOf222
  v229 := Try.zeroValue222 }
end Go.Proofs
namespace Go.Proofs.Ythkenhbpimddpaa
open Go.RowKit Go.Sort Go.Shelf

def isort (xs : List Int) : List Int := xs.mergeSort fun x y => decide (x ≤ y)
theorem isort_perm (xs : List Int) : (isort xs).Perm xs := List.mergeSort_perm _ _
theorem isort_len (xs : List Int) : (isort xs).length = xs.length := (isort_perm xs).length_eq
theorem isort_mem {xs : List Int} {n : Int} : n ∈ isort xs ↔ n ∈ xs := (isort_perm xs).mem_iff
theorem isort_sorted (xs : List Int) : (isort xs).Pairwise (· ≤ ·) := by
  have := List.pairwise_mergeSort (le := fun x y : Int => decide (x ≤ y)) (fun a b c h1 h2 => by simp at *; omega) (fun a b => by simp; omega) xs
  simpa [isort] using this
theorem flatInt (zs : List Int) : eInt.flat zs = zs.map (Value.int .i64) := by
  induction zs with
  | nil => rfl
  | cons z zs ih => rw [El.flat_cons, ih]; rfl
theorem putInts (xs ys zs : List Int) (h : zs.length = xs.length) : putCells (Value.int .i64) 0 zs.toArray (eInt.flat (xs ++ ys)).toArray = (eInt.flat (zs ++ ys)).toArray := by
  apply Array.ext_getElem?
  intro k
  simp only [putCells, flatInt, Array.getElem?_mapIdx, List.getElem?_toArray, List.getElem?_map, List.size_toArray, Nat.zero_le, true_and, Nat.zero_add, Nat.sub_zero]
  by_cases hk : k < zs.length
  · rw [List.getElem?_append_left (by omega), List.getElem?_append_left hk, List.getElem?_eq_getElem (by omega), List.getElem?_eq_getElem hk]
    simp [hk]
  · rw [List.getElem?_append_right (by omega), List.getElem?_append_right (by omega), h]
    cases ys[k - xs.length]? with
    | none => rfl
    | some y => simp only [Option.map_some]; rw [if_neg (by omega)]

/-- an own row is sorted where it lies -/
theorem sortInt_any (v : Value) (xs : List Int) (w : World) (B : Nat) (hown : Own eInt 3 w B v xs) (hsz : xs.length < 4611686018427387904) :
    Calls Try.prog 64 #[v] w (fun e w' => e = .returned (.tuple #[]) ∧ Own eInt 3 w' B v (isort xs) ∧ w.grownBy w' v.ownBlock) := by
  cases xs with
  | nil =>
    have hi : isort [] = [] := by simp [isort]
    rw [hi]
    obtain ⟨A, c, rfl, _, _, _⟩ := hown.rd
    refine (Any.slices_Sort_int_none Try.laysSort A c w).mono ?_
    rintro e w' ⟨rfl, rfl⟩
    exact ⟨rfl, hown, World.grownBy.refl _ _⟩
  | cons x l =>
    obtain ⟨zs, hz⟩ : ∃ zs, zs = x :: l := ⟨_, rfl⟩
    rw [← hz] at hown hsz ⊢
    obtain ⟨g, ys, rfl, hBg, hcap, hg⟩ := hown.form (by rw [hz]; simp)
    have hlt : g < w.heap.size := (Array.getElem?_eq_some_iff.1 hg).1
    have hH : Holds (Value.int .i64) w g 0 zs.toArray := fun j hj => by
      have hj' : j < zs.length := by simpa using hj
      refine ⟨?_, own_free hg⟩
      have h1 : (zs ++ ys)[j]? = some zs[j] := by rw [List.getElem?_append_left hj', List.getElem?_eq_getElem hj']
      have := own_cell (j := 0) hg h1 rfl
      simp only [Nat.zero_add]
      rw [show zs.toArray[j]! = zs[j] by simp [hj']]
      simpa [eInt] using this
    refine (Any.slices_Sort_int Try.laysSort g 0 (zs.length + ys.length) zs w hH hlt hsz).mono ?_
    rintro e w' ⟨rfl, n, os, rfl⟩
    have hnew : (grow (putRow (Value.int .i64) (Sort.ahead w n) g 0 (zs.mergeSort fun x y => decide (x ≤ y)).toArray) os).heap[g]? = some (.cells (eInt.flat (isort zs ++ ys)).toArray 3 (0, 0)) := by
      show ((w.heap.modify g (onCells _)) ++ os)[g]? = _
      rw [Array.getElem?_append_left (by simpa using hlt), Array.getElem?_modify, if_pos rfl, hg]
      simp only [Option.map_some, onCells]
      have hp := putInts zs ys (isort zs) (isort_len zs)
      unfold isort at hp ⊢
      rw [hp]
    refine ⟨rfl, .inr ⟨g, ys, by rw [isort_len], hBg, by rw [isort_len]; exact hcap, hnew⟩, ⟨rfl, rfl, rfl, by simp [grow], fun i hi hne => ?_⟩⟩
    show ((w.heap.modify g (onCells _)) ++ os)[i]? = _
    rw [Array.getElem?_append_left (by simpa using hi), Array.getElem?_modify, if_neg (fun h => hne (by rw [h]; rfl))]
end Go.Proofs.Ythkenhbpimddpaa
namespace Go.Proofs.Ythkenhbpimddpaa
open Go.RowKit

theorem nodup_le {α : Type} [DecidableEq α] : ∀ (xs ys : List α), xs.Nodup → (∀ x ∈ xs, x ∈ ys) → xs.length ≤ ys.length
  | [], _, _, _ => Nat.zero_le _
  | x :: xs, ys, hn, hs => by
    obtain ⟨h1, h2⟩ := List.nodup_cons.1 hn
    have hx : x ∈ ys := hs x (List.mem_cons_self ..)
    have := nodup_le xs (ys.erase x) h2 (fun y hy => (List.mem_erase_of_ne (fun e => h1 (by rw [← e]; exact hy))).2 (hs y (List.mem_cons_of_mem _ hy)))
    rw [List.length_erase_of_mem hx] at this
    have := List.length_pos_of_mem hx
    simp; omega

theorem headsGo_some {l : List Spot} {f : Int → Option Head} {n : Int} {h : Head} (hh : headsGo l f n = some h) : f n = some h ∨ ∃ s ∈ l, s.head.free = false ∧ (s.at_ : Int) = n ∧ s.head = h := by
  induction l generalizing f with
  | nil => exact .inl hh
  | cons s l ih =>
    rw [headsGo] at hh
    rcases ih hh with h1 | ⟨s', hs', r⟩
    · cases hf : s.head.free
      · rw [hf] at h1
        simp only [Bool.false_eq_true, if_false] at h1
        unfold fput at h1
        split at h1
        · rename_i he
          injection h1 with h1
          exact .inr ⟨s, List.mem_cons_self .., hf, he.symm, h1⟩
        · exact .inl h1
      · rw [hf] at h1
        exact .inl (by simpa using h1)
    · exact .inr ⟨s', List.mem_cons_of_mem _ hs', r⟩
theorem headsF_some {l : List Spot} {n : Int} {h : Head} (hh : headsF l n = some h) : ∃ s ∈ l, s.head.free = false ∧ (s.at_ : Int) = n ∧ s.head = h := by
  rcases headsGo_some hh with h1 | h1
  · cases h1
  · exact h1
theorem headsGo_mono {l : List Spot} {f : Int → Option Head} {n : Int} (h : (f n).isSome = true) : (headsGo l f n).isSome = true := by
  induction l generalizing f with
  | nil => exact h
  | cons s l ih =>
    rw [headsGo]
    apply ih
    cases hf : s.head.free
    · simp only [Bool.false_eq_true, if_false]
      unfold fput
      split
      · rfl
      · exact h
    · simpa using h
theorem headsGo_mem {l : List Spot} {f : Int → Option Head} {s : Spot} (hs : s ∈ l) (hf : s.head.free = false) : (headsGo l f (s.at_ : Int)).isSome = true := by
  induction l generalizing f with
  | nil => cases hs
  | cons s' l ih =>
    rw [headsGo]
    rcases List.mem_cons.1 hs with rfl | hs
    · apply headsGo_mono
      rw [hf]
      simp [fput]
    · exact ih hs
theorem placesGo_some {l : List Spot} {i : Nat} {f : Int → Option Int} {n : Int} (h : (placesGo l i f n).isSome = true) : (f n).isSome = true ∨ ∃ s ∈ l, s.head.free = false ∧ (s.at_ : Int) + 1 = n := by
  induction l generalizing i f with
  | nil => exact .inl h
  | cons s l ih =>
    rw [placesGo] at h
    rcases ih h with h1 | ⟨s', hs', r⟩
    · cases hf : s.head.free
      · rw [hf] at h1
        simp only [Bool.false_eq_true, if_false] at h1
        unfold fput at h1
        split at h1
        · rename_i he
          exact .inr ⟨s, List.mem_cons_self .., hf, he.symm⟩
        · exact .inl h1
      · rw [hf] at h1
        exact .inl (by simpa using h1)
    · exact .inr ⟨s', List.mem_cons_of_mem _ hs', r⟩
/-- a word that is named is 0 or one behind an object's beginning -/
theorem placesF_some {l : List Spot} {n : Int} (h : (placesF l n).isSome = true) : n = 0 ∨ (headsF l (n - 1)).isSome = true := by
  rcases placesGo_some h with h1 | ⟨s, hs, hf, he⟩
  · unfold fput at h1
    split at h1
    · exact .inl ‹_›
    · cases h1
  · right
    rw [show n - 1 = (s.at_ : Int) by omega]
    exact headsGo_mem hs hf
theorem mem_orderOf {l : List Spot} {s : Spot} (hs : s ∈ l) (hf : s.head.free = false) : (s.at_ : Int) ∈ orderOf l := by
  induction l with
  | nil => cases hs
  | cons s' l ih =>
    rcases List.mem_cons.1 hs with rfl | hs
    · rw [orderOf, if_neg (by simp [hf])]; exact List.mem_cons_self ..
    · rw [orderOf]
      split
      · exact ih hs
      · exact List.mem_cons_of_mem _ (ih hs)

/-- a list of objects that are there, none twice -/
def Good (l : List Spot) (xs : List Int) : Prop := xs.Nodup ∧ ∀ n ∈ xs, (headsF l n).isSome = true
theorem Good.nil {l : List Spot} : Good l [] := ⟨List.nodup_nil, fun _ h => by cases h⟩
theorem Good.add {l : List Spot} {xs : List Int} {n : Int} (h : Good l xs) (hn : (headsF l n).isSome = true) : Good l (addTo xs n) := by
  unfold addTo
  split
  · exact h
  · rename_i hx
    refine ⟨?_, fun m hm => ?_⟩
    · rw [List.nodup_append]
      exact ⟨h.1, by simp, fun a ha b hb => by simp at hb; subst hb; intro e; subst e; exact hx ha⟩
    · rcases List.mem_append.1 hm with hm | hm
      · exact h.2 m hm
      · simp at hm; subst hm; exact hn
theorem Good.len {l : List Spot} {xs : List Int} (h : Good l xs) : xs.length ≤ l.length := by
  refine Nat.le_trans (nodup_le xs (orderOf l) h.1 fun n hn => ?_) (orderOf_len l)
  have := h.2 n hn
  cases hh : headsF l n with
  | none => rw [hh] at this; cases this
  | some hd =>
    obtain ⟨s, hs, hf, he, _⟩ := headsF_some hh
    rw [← he]; exact mem_orderOf hs hf
theorem addTo_grow {xs : List Int} {n : Int} : xs.length ≤ (addTo xs n).length := by
  unfold addTo
  split
  · exact Nat.le_refl _
  · simp

/-- the Refs of one object are come to -/
def addRef (xs : List Int) (v : Nat) : List Int := if v = 0 then xs else addTo xs ((v : Int) - 1)
def addRefs (xs : List Int) (vs : List Nat) : List Int := vs.foldl addRef xs
def addAll (xs : List Int) (ns : List Int) : List Int := ns.foldl addTo xs
theorem addRefs_at {vs : List Nat} {k v : Nat} (h : vs[k]? = some v) (xs : List Int) : addRefs xs (vs.take (k + 1)) = addRef (addRefs xs (vs.take k)) v := by
  rw [List.take_add_one, h, addRefs, addRefs, List.foldl_append]; rfl
theorem addAll_at {ns : List Int} {k : Nat} {n : Int} (h : ns[k]? = some n) (xs : List Int) : addAll xs (ns.take (k + 1)) = addTo (addAll xs (ns.take k)) n := by
  rw [List.take_add_one, h, addAll, addAll, List.foldl_append]; rfl
theorem Good.addRefs {l : List Spot} {xs : List Int} {vs : List Nat} (h : Good l xs) (hv : named (placesF l) vs = true) : Good l (addRefs xs vs) := by
  induction vs generalizing xs with
  | nil => exact h
  | cons v vs ih =>
    simp only [named, List.all_cons, Bool.and_eq_true] at hv
    refine ih ?_ hv.2
    unfold addRef
    split
    · exact h
    · rename_i h0
      rcases placesF_some hv.1 with h1 | h1
      · omega
      · exact h.add h1
theorem Good.addAll {l : List Spot} {xs ns : List Int} (h : Good l xs) (hv : known (headsF l) ns = true) : Good l (addAll xs ns) := by
  induction ns generalizing xs with
  | nil => exact h
  | cons v vs ih =>
    simp only [known, List.all_cons, Bool.and_eq_true] at hv
    exact ih (h.add hv.1) hv.2
theorem addRefs_grow {xs : List Int} {vs : List Nat} : xs.length ≤ (addRefs xs vs).length := by
  induction vs generalizing xs with
  | nil => exact Nat.le_refl _
  | cons v vs ih =>
    refine Nat.le_trans ?_ ih
    unfold addRef
    split
    · exact Nat.le_refl _
    · exact addTo_grow

/-- the object at a word, as a spot -/
def spotOf (l : List Spot) (n : Int) : Spot := ⟨n.toNat, (headsF l n).getD ⟨0, 0, 0, false⟩⟩
def reachN (a : List Nat) (l : List Spot) : Nat → List Int → Nat → List Int
  | 0, xs, _ => xs
  | k + 1, xs, i => match xs[i]? with
    | none => xs
    | some n => reachN a l k (addRefs xs (refsOf a (spotOf l n))) (i + 1)
/-- what is reached, in the order in which it is come to -/
def reachL (a : List Nat) (fr : List Int) : List Int := reachN a (walkSpots a).1 300 (addAll [] fr) 0
def reachOf (a : List Nat) (fr : List Int) : List Int := if tintErr a fr = 0 then isort (reachL a fr) else []
end Go.Proofs.Ythkenhbpimddpaa
namespace Go.Proofs.Ythkenhbpimddpaa
open Go.RowKit

theorem spotOf_ok {a : List Nat} {l : List Spot} {n : Int} (hall : ∀ s ∈ l, SpotOk a s) (h : (headsF l n).isSome = true) : spotOf l n ∈ l ∧ SpotOk a (spotOf l n) ∧ ((spotOf l n).at_ : Int) = n ∧ headsF l ((spotOf l n).at_ : Int) = some (spotOf l n).head ∧ (spotOf l n).head.free = false := by
  cases hh : headsF l n with
  | none => rw [hh] at h; cases h
  | some hd =>
    obtain ⟨s, hs, hf, he, hd'⟩ := headsF_some hh
    have e : spotOf l n = s := by
      unfold spotOf
      rw [hh, ← he]
      simp [← hd']
    rw [e]
    exact ⟨hs, hall s hs, he, by rw [he, hh, hd'], hf⟩
theorem allNamed_mem {a : List Nat} {f : Int → Option Int} {l : List Spot} {s : Spot} (h : allNamed a f l = true) (hs : s ∈ l) : named f (refsOf a s) = true := by
  simp only [allNamed, List.all_eq_true] at h
  exact h s hs
theorem named_small {l : List Spot} {vs : List Nat} (hl : ∀ s ∈ l, s.at_ ≤ 256) (h : named (placesF l) vs = true) : ∀ y ∈ vs, y ≤ 1000000 := by
  intro y hy
  simp only [named, List.all_eq_true] at h
  rcases placesF_some (h y hy) with h1 | h1
  · omega
  · cases hh : headsF l ((y : Int) - 1) with
    | none => rw [hh] at h1; cases h1
    | some hd =>
      obtain ⟨s, hs, _, he, _⟩ := headsF_some hh
      have := hl s hs
      omega
theorem known_take {f : Int → Option Head} {ns : List Int} (h : known f ns = true) (k : Nat) : known f (ns.take k) = true := by
  simp only [known, List.all_eq_true] at h ⊢
  exact fun x hx => h x (List.take_subset _ _ hx)
theorem reachAdd' (w : World) (B gs go : Nat) (xs : List Int) (n : Int) (h : ReachIs w B gs go xs) (hlen : xs.length ≤ 1000000) (hB : B ≤ w.heap.size) :
    Calls Try.prog 62 (#[.int .i64 n] ++ #[.pointer (some ⟨gs, 0, none⟩), .pointer (some ⟨go, 0, none⟩)]) w (fun e w' => e = .returned (.tuple #[]) ∧ ReachIs w' B gs go (addTo xs n) ∧ Below B w w') := by
  simpa using reachAdd w B gs go xs n h hlen hB
/-- each, with Reach's closure -/
theorem reachEach (A : Option Addr) (c : Nat) (a : List Nat) (l : List Spot) (n : Int) (w1 w : World) (g m gs go : Nat) (v : Value) (xs : List Int) (hl : (walkSpots a).1 = l) (hall : ∀ s ∈ l, SpotOk a s) (hl256 : ∀ s ∈ l, s.at_ ≤ 256) (hlen : l.length ≤ 256) (hnm : allNamed a (placesF l) l = true)
    (hac : a.length ≤ c) (hm : c ≤ maxLen) (hp : Rd eU64 w1 A a) (hbx : w1.heap[g]? = some (.cells #[.slice A a.length c, .map (some m), v] 183 (0, 0))) (hM : MapIs .i64 encHead w1 m (headsF l))
    (hgood : Good l xs) (hn : (headsF l n).isSome = true) (hR : ReachIs w w1.heap.size gs go xs) (hb : Below w1.heap.size w1 w) :
    Calls Try.prog 63 #[.pointer (some ⟨g, 0, none⟩), .int .i64 n, .func (.func 62) #[] #[.pointer (some ⟨gs, 0, none⟩), .pointer (some ⟨go, 0, none⟩)]] w
      (fun e w' => e = .returned (.tuple #[]) ∧ ReachIs w' w1.heap.size gs go (addRefs xs (refsOf a (spotOf l n))) ∧ Below w1.heap.size w1 w') := by
  obtain ⟨hmem, hsp, he, hf, _⟩ := spotOf_ok hall hn
  obtain ⟨s, hs⟩ : ∃ s, spotOf l n = s := ⟨_, rfl⟩
  rw [hs] at hmem hsp he hf ⊢
  have hnam := allNamed_mem hnm hmem
  have heg : Enters Try.prog 62 := enters Try.func62 (by kernel_rfl) (by kernel_rfl)
  rw [← he]
  refine (tintEach_any A c a s w g m v hsp hac hm (heap_below hbx hb) (by rw [hl]; exact hM.below hb) (by rw [hl]; exact hf) _ _ heg
    (fun j W => ReachIs W w1.heap.size gs go (addRefs xs ((refsOf a s).take j)) ∧ Below w1.heap.size w1 W) (named_small hl256 hnam) (fun j W h => hp.below h.2) (fun W k h => ⟨h.1, bdrewN h.2 k⟩) ?_ ?_ ⟨hR, hb⟩).mono ?_
  · intro j y W hy ⟨h1, h2⟩
    have hg : Good l (addRefs xs ((refsOf a s).take j)) := hgood.addRefs (by
      simp only [named, List.all_eq_true] at hnam ⊢
      exact fun x hx => hnam x (List.take_subset _ _ hx))
    refine (reachAdd' W _ gs go _ (y : Int) h1 (by have := hg.len; omega) h2.size).mono ?_
    rintro e w' ⟨rfl, h3, h4⟩
    refine ⟨rfl, ?_, h2.trans h4⟩
    rw [addRefs_at hy, addRef, if_neg (by omega), show ((y + 1 : Nat) : Int) - 1 = (y : Int) by omega]
    exact h3
  · intro j W hy ⟨h1, h2⟩
    refine ⟨?_, h2⟩
    rw [addRefs_at hy, addRef, if_pos rfl]
    exact h1
  · rintro e w' ⟨rfl, h1, h2⟩
    rw [List.take_length] at h1
    exact ⟨rfl, h1, h2⟩
end Go.Proofs.Ythkenhbpimddpaa
