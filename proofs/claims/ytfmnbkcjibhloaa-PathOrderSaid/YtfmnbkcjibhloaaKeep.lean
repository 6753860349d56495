/- Plain lists: what slices.DeleteFunc and slices.IndexFunc do, round by round. No Go here. -/
namespace Go.Proofs.Ytfmnbkcjibhloaa
variable {α : Type}

/-- j elements have been looked at; those of them that stay lie at the head, i of them; from place j on the row is as it was. -/
structure KInv (p : α → Bool) (d : List α) (j i : Nat) (dk : List α) : Prop where
  len : dk.length = d.length
  head : dk.take i = (d.take j).filter (fun x => !p x)
  tail : dk.drop j = d.drop j
  cnt : ((d.take j).filter (fun x => !p x)).length = i
  lt : i < j
theorem take_succ (d : List α) (j : Nat) (h : j < d.length) : d.take (j + 1) = d.take j ++ [d[j]] := by
  rw [List.take_succ_eq_append_getElem h]
theorem KInv.start {p : α → Bool} {d : List α} {k : Nat} (hk : k < d.length) (hall : ∀ j (hj : j < k), p (d[j]'(by omega)) = false) (hp : p d[k] = true) : KInv p d (k + 1) k d := by
  have e : (d.take k).filter (fun x => !p x) = d.take k := by
    rw [List.filter_eq_self]
    intro x hx
    obtain ⟨j, hj, rfl⟩ := List.getElem_of_mem hx
    rw [List.getElem_take]
    simp only [List.length_take] at hj
    simp [hall j (by omega)]
  have e2 : (d.take (k + 1)).filter (fun x => !p x) = d.take k := by
    rw [take_succ d k hk, List.filter_append, e]; simp [hp]
  exact ⟨rfl, e2.symm, rfl, by rw [e2]; simp; omega, by omega⟩
theorem KInv.skip {p : α → Bool} {d dk : List α} {j i : Nat} (h : KInv p d j i dk) (hj : j < d.length) (hp : p d[j] = true) : KInv p d (j + 1) i dk := by
  have e : (d.take (j + 1)).filter (fun x => !p x) = (d.take j).filter (fun x => !p x) := by rw [take_succ d j hj, List.filter_append]; simp [hp]
  refine ⟨h.len, by rw [e]; exact h.head, ?_, by rw [e]; exact h.cnt, by have := h.lt; omega⟩
  have := congrArg (List.drop 1) h.tail
  simpa [List.drop_drop] using this
theorem KInv.keep {p : α → Bool} {d dk : List α} {j i : Nat} (h : KInv p d j i dk) (hj : j < d.length) (hp : p d[j] = false) : KInv p d (j + 1) (i + 1) (dk.set i d[j]) := by
  have hl := h.len
  have hlt := h.lt
  have e : (d.take (j + 1)).filter (fun x => !p x) = (d.take j).filter (fun x => !p x) ++ [d[j]] := by rw [take_succ d j hj, List.filter_append]; simp [hp]
  refine ⟨by simpa using h.len, ?_, ?_, by rw [e]; simp [h.cnt], by omega⟩
  · rw [e, ← h.head, take_succ _ i (by simp; omega), List.take_set_of_le (Nat.le_refl _)]
    simp
  · have := congrArg (List.drop 1) h.tail
    rw [List.drop_set_of_lt (by omega)]
    simpa [List.drop_drop] using this
theorem KInv.at {p : α → Bool} {d dk : List α} {j i : Nat} (h : KInv p d j i dk) (hj : j < d.length) : dk[j]? = some d[j] := by
  have := congrArg (fun l => l[0]?) h.tail
  simpa [List.getElem?_drop, List.getElem?_eq_getElem hj] using this
theorem KInv.done {p : α → Bool} {d dk : List α} {i : Nat} (h : KInv p d d.length i dk) : dk.take i = d.filter (fun x => !p x) ∧ (d.filter (fun x => !p x)).length = i := by
  have h1 := h.head
  have h2 := h.cnt
  rw [List.take_of_length_le (Nat.le_refl _)] at h1 h2
  exact ⟨h1, h2⟩
/-- Where the first one is that p says yes of; -1: none. -/
def idx (p : α → Bool) (d : List α) : Int := match d.findIdx? p with | some k => (k : Int) | none => -1
theorem idx_cases (p : α → Bool) (d : List α) : (idx p d = -1 ∧ ∀ x ∈ d, p x = false) ∨ ∃ k, ∃ hk : k < d.length, idx p d = (k : Int) ∧ p d[k] = true ∧ ∀ j (hj : j < k), p (d[j]'(by omega)) = false := by
  unfold idx
  cases h : d.findIdx? p with
  | none => left; exact ⟨rfl, by simpa using h⟩
  | some k =>
    right
    rw [List.findIdx?_eq_some_iff_getElem] at h
    obtain ⟨hk, hp, hall⟩ := h
    exact ⟨k, hk, rfl, hp, fun j hj => by simpa using hall j hj⟩
theorem idx_hit {p : α → Bool} {d : List α} {k : Nat} (hk : k < d.length) (hp : p d[k] = true) (hall : ∀ j (hj : j < k), p (d[j]'(by omega)) = false) : idx p d = (k : Int) := by
  have : d.findIdx? p = some k := by
    rw [List.findIdx?_eq_some_iff_getElem]
    exact ⟨hk, hp, fun j hj => by simp [hall j hj]⟩
  simp [idx, this]
theorem idx_none {p : α → Bool} {d : List α} (hall : ∀ j (hj : j < d.length), p d[j] = false) : idx p d = -1 := by
  have : d.findIdx? p = none := by
    rw [List.findIdx?_eq_none_iff]
    intro x hx
    obtain ⟨j, hj, rfl⟩ := List.getElem_of_mem hx
    simp [hall j hj]
  simp [idx, this]
theorem filter_none {p : α → Bool} {d : List α} (hall : ∀ x ∈ d, p x = false) : d.filter (fun x => !p x) = d := by
  rw [List.filter_eq_self]; intro x hx; simp [hall x hx]
end Go.Proofs.Ytfmnbkcjibhloaa
