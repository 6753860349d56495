/- Both detectors go on alike. Conditions: fewer than a thousand ticks. -/
import Derived.Test.YtccmnphjiebiaaaWhole
namespace Go.Proofs.Ytccmnphjiebiaaa
open Go.RowKit G
set_option linter.unusedVariables false
set_option linter.unusedSimpArgs false
theorem next_no (k ev : Nat) (h0 : 0 < ev) (h : k % ev + 1 ≠ ev) : (k + 1) / ev = k / ev ∧ (k + 1) % ev = k % ev + 1 := by
  have h1 := Nat.div_add_mod k ev
  have h2 := Nat.mod_lt k h0
  generalize k / ev = q at *
  generalize k % ev = r at *
  subst h1
  constructor
  · rw [Nat.add_assoc, Nat.mul_add_div h0, Nat.div_eq_of_lt (by omega)]; rfl
  · rw [Nat.add_assoc, Nat.mul_add_mod, Nat.mod_eq_of_lt (by omega)]
theorem next_yes (k ev : Nat) (h0 : 0 < ev) (h : k % ev + 1 = ev) : (k + 1) / ev = k / ev + 1 ∧ (k + 1) % ev = 0 := by
  have h1 := Nat.div_add_mod k ev
  generalize k / ev = q at *
  generalize k % ev = r at *
  have e : k + 1 = ev * (q + 1) := by rw [Nat.mul_add, Nat.mul_one]; omega
  rw [e]
  exact ⟨Nat.mul_div_cancel_left _ h0, Nat.mul_mod_right _ _⟩
theorem tickL_get (me limit : Int) (xs : List Int) (i : Nat) : (tickL me limit xs)[i]? = (xs[i]?).map fun x => if (i : Int) ≠ me then (if limit < x + 1 then limit else x + 1) else x := by
  unfold tickL tickN
  rw [List.getElem?_mapIdx]
  cases h : xs[i]? with
  | none => rfl
  | some x =>
    have : i < xs.length := by
      rcases Nat.lt_or_ge i xs.length with q | q
      · exact q
      · rw [List.getElem?_eq_none q] at h; cases h
    simp [this]
theorem Sync.tick {xs ats : List Int} {n : Nat} {me limit : Int} {now : Nat} (h : Sync xs ats n me limit now) (hn : now + 1 ≤ 1000) : Sync (tickL me limit xs) ats n me limit (now + 1) := by
  refine ⟨by rw [← h.len]; exact tickN_len _ _ _ _, h.alen, h.n1, h.lim, h.lim2, hn, ?_, ?_⟩
  · intro k a hk
    have := h.at_ k a hk
    omega
  · intro k a hkn hk
    have h1 := h.at_ k a hk
    rw [tickL_get, h.eq k a hkn hk]
    simp only [Option.map_some]
    congr 1
    by_cases e : (k : Int) = me
    · simp [e]
    · rw [if_neg e, if_neg e, if_pos e]
      have hl := h.lim
      have hnow : ((now + 1 : Nat) : Int) = (now : Int) + 1 := by omega
      rw [hnow]
      by_cases g : (now : Int) - a < limit
      · rw [if_pos g]
        split <;> split <;> omega
      · rw [if_neg g]
        split <;> split <;> omega
theorem Sync.small {xs ats : List Int} {n : Nat} {me limit : Int} {now : Nat} (h : Sync xs ats n me limit now) : ∀ i (hi : i < xs.length), 0 ≤ xs[i] ∧ xs[i] ≤ 1000000 := by
  intro i hi
  obtain ⟨a, ha, h0, h1, hx⟩ := h.get (k := i) (by rw [← h.len]; exact hi)
  rw [List.getElem?_eq_getElem hi] at hx
  have e : xs[i] = _ := Option.some.inj hx
  have hl := h.lim
  have hl2 := h.lim2
  have hn := h.now2
  rw [e]
  split
  · omega
  · split <;> omega
theorem Sync.start (n : Nat) (me limit : Int) (hn : n ≤ 8) (h1 : 1 ≤ limit) (h2 : limit ≤ 1000) : Sync (List.replicate n 0) [0, 0, 0, 0, 0, 0, 0, 0] n me limit 0 := by
  refine ⟨by simp, rfl, hn, h1, h2, by omega, ?_, ?_⟩
  · intro k a hk
    have := List.mem_of_getElem? hk
    simp at this
    omega
  · intro k a hkn hk
    have := List.mem_of_getElem? hk
    simp at this
    subst this
    rw [List.getElem?_replicate, if_pos hkn]
    have h1' : 0 < limit := by omega
    simp [h1']
theorem tick_next (now ev : Nat) (h0 : 0 < ev) : tickB ((ev : Int) - ((now % ev : Nat) : Int)) = decide ((now + 1) % ev = 0) ∧ tickLeft ev ((ev : Int) - ((now % ev : Nat) : Int)) = (ev : Int) - (((now + 1) % ev : Nat) : Int) := by
  have hm := Nat.mod_lt now h0
  by_cases h : now % ev + 1 = ev
  · obtain ⟨n1, n2⟩ := next_yes now ev h0 h
    rw [n2]
    generalize now % ev = r at *
    constructor
    · simp [tickB]; omega
    · unfold tickLeft; rw [if_pos (by omega)]; simp
  · obtain ⟨n1, n2⟩ := next_no now ev h0 h
    rw [n2]
    generalize now % ev = r at *
    constructor
    · simp [tickB]; omega
    · unfold tickLeft; rw [if_neg (by omega)]; omega
end Go.Proofs.Ytccmnphjiebiaaa
