/- Package pin: what its functions compute, in plain Lean. -/
import Derived.Test.YthkenhbpimddpaaW3
namespace Go.Proofs.Ythkenhbpimddpaa

def there (a : Int) : Bool := decide (0 ≤ a ∧ a < 256)
theorem there_iff (a : Int) : there a = true ↔ 0 ≤ a ∧ a < 256 := by simp [there]
theorem there_no (a : Int) : there a = false ↔ ¬ (0 ≤ a ∧ a < 256) := by simp [there]

def pinRest : Option Pin → List Pin → Int
  | _, [] => 0
  | prev, x :: l => if there x.at_ = false ∨ x.many < 1 ∨ x.many > 1000000 then 4
      else if (∃ q, prev = some q ∧ q.at_ ≥ x.at_) then 3 else pinRest (some x) l
def pinCheck (p : List Pin) : Int := if p.length > 16 then 2 else pinRest none p

/-- how many stand ahead of a word: the list rises -/
def pinLb (p : List Pin) (t : Int) : Nat := (p.takeWhile fun x => decide (x.at_ < t)).length
def pinHas (p : List Pin) (t : Int) : Bool := match p[pinLb p t]? with | some x => decide (x.at_ = t) | none => false

theorem pinRest_ok {prev : Option Pin} {p : List Pin} (h : pinRest prev p = 0) : (∀ x ∈ p, there x.at_ = true ∧ 1 ≤ x.many ∧ x.many ≤ 1000000) ∧ p.Pairwise (fun x y => x.at_ < y.at_) ∧ ∀ q, prev = some q → ∀ x ∈ p, q.at_ < x.at_ := by
  induction p generalizing prev with
  | nil => exact ⟨by simp, List.Pairwise.nil, by simp⟩
  | cons x l ih =>
    unfold pinRest at h
    split at h
    · exact absurd h (by decide)
    · rename_i h1
      split at h
      · exact absurd h (by decide)
      · rename_i h2
        obtain ⟨i1, i2, i3⟩ := ih h
        have ht : there x.at_ = true := by
          cases hx : there x.at_
          · exact absurd (Or.inl hx) h1
          · rfl
        refine ⟨?_, ?_, ?_⟩
        · intro y hy
          rcases List.mem_cons.1 hy with rfl | hy
          · exact ⟨ht, by omega, by omega⟩
          · exact i1 y hy
        · exact List.Pairwise.cons (fun y hy => i3 x rfl y hy) i2
        · intro q hq y hy
          have hqx : q.at_ < x.at_ := by
            rcases Int.lt_or_le q.at_ x.at_ with hlt | hle
            · exact hlt
            · exact absurd ⟨q, hq, hle⟩ h2
          rcases List.mem_cons.1 hy with rfl | hy
          · exact hqx
          · have := i3 x rfl y hy
            omega

theorem pinCheck_ok {p : List Pin} (h : pinCheck p = 0) : p.length ≤ 16 ∧ (∀ x ∈ p, there x.at_ = true ∧ 1 ≤ x.many ∧ x.many ≤ 1000000) ∧ p.Pairwise (fun x y => x.at_ < y.at_) := by
  unfold pinCheck at h
  split at h
  · exact absurd h (by decide)
  · obtain ⟨h1, h2, _⟩ := pinRest_ok h
    exact ⟨by omega, h1, h2⟩

theorem pinLb_le (p : List Pin) (t : Int) : pinLb p t ≤ p.length := List.Sublist.length_le (List.takeWhile_sublist _)
theorem pinLb_lt {p : List Pin} {t : Int} {m : Nat} {x : Pin} (hx : p[m]? = some x) (hm : m < pinLb p t) : x.at_ < t := by
  induction p generalizing m with
  | nil => simp at hx
  | cons y l ih =>
    unfold pinLb at hm
    rw [List.takeWhile_cons] at hm
    split at hm
    · rename_i hy
      cases m with
      | zero => simp at hx; subst hx; simpa using hy
      | succ m => exact ih (m := m) (by simpa using hx) (by simpa [pinLb] using hm)
    · simp at hm
theorem pinLb_ge {p : List Pin} {t : Int} (hp : p.Pairwise (fun x y => x.at_ < y.at_)) {m : Nat} {x : Pin} (hx : p[m]? = some x) (hm : pinLb p t ≤ m) : t ≤ x.at_ := by
  induction p generalizing m with
  | nil => simp at hx
  | cons y l ih =>
    rw [List.pairwise_cons] at hp
    unfold pinLb at hm
    rw [List.takeWhile_cons] at hm
    split at hm
    · rename_i hy
      cases m with
      | zero => simp at hm
      | succ m => exact ih hp.2 (m := m) (by simpa using hx) (by simpa [pinLb] using hm)
    · rename_i hy
      have hy' : t ≤ y.at_ := by simpa using hy
      cases m with
      | zero => simp at hx; subst hx; exact hy'
      | succ m =>
        have := hp.1 x (List.mem_of_getElem? (by simpa using hx))
        omega
theorem pinLb_step {p : List Pin} {t : Int} (hp : p.Pairwise (fun x y => x.at_ < y.at_)) {m : Nat} {x : Pin} (hx : p[m]? = some x) : (x.at_ < t → m + 1 ≤ pinLb p t) ∧ (¬ x.at_ < t → pinLb p t ≤ m) := by
  constructor
  · intro h
    rcases Nat.lt_or_ge m (pinLb p t) with h1 | h1
    · exact h1
    · have := pinLb_ge hp hx h1; omega
  · intro h
    rcases Nat.lt_or_ge m (pinLb p t) with h1 | h1
    · exact absurd (pinLb_lt hx h1) h
    · exact h1
theorem pinHas_at {p : List Pin} {t : Int} {x : Pin} (hx : p[pinLb p t]? = some x) : pinHas p t = decide (x.at_ = t) := by simp [pinHas, hx]
theorem pinHas_end {p : List Pin} {t : Int} (h : pinLb p t = p.length) : pinHas p t = false := by simp [pinHas, h]
theorem pinHas_lt {p : List Pin} {t : Int} (h : pinHas p t = true) : ∃ x, p[pinLb p t]? = some x ∧ x.at_ = t := by
  unfold pinHas at h
  split at h
  · rename_i x hx; exact ⟨x, hx, by simpa using h⟩
  · cases h
end Go.Proofs.Ythkenhbpimddpaa
