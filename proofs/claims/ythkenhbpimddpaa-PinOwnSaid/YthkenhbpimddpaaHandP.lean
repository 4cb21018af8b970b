/- Package hand: what its functions compute, in plain Lean. -/
import Derived.Test.YthkenhbpimddpaaIdx
import Derived.Test.YthkenhbpimddpaaPinP
namespace Go.Proofs.Ythkenhbpimddpaa

def slotBad (s : Slot) : Int :=
  if s.gen < 0 ∨ s.gen > 65535 ∨ there s.at_ = false then 4
  else if (s.open_ = true ∧ s.gen = 0) ∨ (s.open_ = false ∧ s.at_ ≠ 0) then 3 else 0
def handRest : List Slot → Int
  | [] => 0
  | s :: l => if slotBad s = 0 then handRest l else slotBad s
def handCheck (h : List Slot) : Int := if h.length > 16 then 2 else handRest h
theorem handRest_ok {h : List Slot} (h0 : handRest h = 0) : ∀ s ∈ h, slotBad s = 0 := by
  induction h with
  | nil => simp
  | cons s l ih =>
    unfold handRest at h0
    split at h0
    · rename_i h1
      intro t ht
      rcases List.mem_cons.1 ht with rfl | ht
      · exact h1
      · exact ih h0 t ht
    · contradiction
theorem handCheck_ok {h : List Slot} (h0 : handCheck h = 0) : h.length ≤ 16 ∧ ∀ s ∈ h, slotBad s = 0 := by
  unfold handCheck at h0
  split at h0
  · exact absurd h0 (by decide)
  · exact ⟨by omega, handRest_ok h0⟩
theorem slotBad_ok {s : Slot} (h : slotBad s = 0) : 0 ≤ s.gen ∧ s.gen ≤ 65535 ∧ there s.at_ = true ∧ (s.open_ = true → s.gen ≠ 0) ∧ (s.open_ = false → s.at_ = 0) := by
  unfold slotBad at h
  split at h
  · exact absurd h (by decide)
  · rename_i h1
    split at h
    · exact absurd h (by decide)
    · rename_i h2
      refine ⟨by omega, by omega, ?_, fun ho hg => h2 (.inl ⟨ho, hg⟩), fun ho => ?_⟩
      · cases ht : there s.at_
        · exact absurd (.inr (.inr ht)) h1
        · rfl
      · rcases Decidable.em (s.at_ = 0) with h3 | h3
        · exact h3
        · exact absurd (.inr ⟨ho, h3⟩) h2

/-- the slot of a name -/
def handIdx (h : List Slot) (n : Nat) : Option Nat :=
  match h[n % 65536]? with
  | some s => if s.open_ = true ∧ (n % 65536 : Int) + s.gen * 65536 = n then some (n % 65536) else none
  | none => none
def handErr (h : List Slot) (n : Nat) : Int := if handCheck h = 0 then (if (handIdx h n).isSome then 0 else 9) else handCheck h
def freeSlot (s : Slot) : Bool := !s.open_ && decide (s.gen < 65535)
def handOpenErr (h : List Slot) (a : Int) : Int := if handCheck h = 0 then (if there a = true then 0 else 4) else handCheck h
/-- Open: slots, name, error -/
def handOpen (h : List Slot) (a : Int) : List Slot × Int × Int :=
  if handOpenErr h a = 0 then
    match h.findIdx? freeSlot with
    | some i => match h[i]? with
      | some s => (h.set i ⟨s.gen + 1, true, a⟩, (i : Int) + (s.gen + 1) * 65536, 0)
      | none => ([], 0, 7)
    | none => ([], 0, 7)
  else ([], 0, handOpenErr h a)
def handClose (h : List Slot) (n : Nat) : List Slot × Int :=
  if handErr h n = 0 then
    match handIdx h n with
    | some i => match h[i]? with
      | some s => (h.set i ⟨s.gen, false, 0⟩, 0)
      | none => ([], 9)
    | none => ([], 9)
  else ([], handErr h n)
theorem handIdx_some {h : List Slot} {n i : Nat} (hi : handIdx h n = some i) : i = n % 65536 ∧ ∃ s, h[i]? = some s ∧ s.open_ = true ∧ (i : Int) + s.gen * 65536 = n := by
  unfold handIdx at hi
  split at hi
  · rename_i s hs
    split at hi
    · rename_i hc
      injection hi with hi
      subst hi
      exact ⟨rfl, s, hs, hc.1, by simpa using hc.2⟩
    · cases hi
  · cases hi
end Go.Proofs.Ythkenhbpimddpaa
