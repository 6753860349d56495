/- The reference takes a letter. Conditions: the links lie whole in memory; not many letters are there. -/
import Derived.Test.YtppjjbhbbnnpgaaCut
namespace Go.Proofs.Ytppjjbhbbnnpgaa
open Go.RowKit G
set_option linter.unusedVariables false
set_option linter.unusedSimpArgs false
attribute [local go_sem] upon_value upon_skip upon_enter runAt_run
inductive IsE : Value → Prop
  | mk (B : Nat) : IsE (.slice (some ⟨B, 0, none⟩) 0 0)
/-- The worlds on the way through 'append(append(none, l[:i]...), l[i+1:]...)'. -/
structure T2 (W0 : World) (P : Nat) (v : Value) (x : Wn) (i : Nat) (σ : St) (w : World) : Prop where
  keep : Kept [P] W0 w
  lP : P < W0.heap.size
  lv : ∀ b ∈ own v, b < W0.heap.size
  nP : P ∉ own v
  s1_8 : σ 1 = none → σ 8 = none
  s5_7 : σ 5 = none → σ 7 = none
  s7_8 : σ 7 = none → σ 8 = none
  s8_16 : σ 8 = none → σ 16 = none
  s12_15 : σ 12 = none → σ 15 = none
  s15_16 : σ 15 = none → σ 16 = none
  s16_19 : σ 16 = none → σ 19 = none
  r : σ 19 = none → ∃ cs, Row w P cs 49 ∧ Cs cs v x
  l : Ls 36 w v x.ls
  b : σ 8 = none → ∀ u, σ 1 = some u → ∃ B, u = .slice (some ⟨B, 0, none⟩) 0 0 ∧ W0.heap.size ≤ B ∧ Row w B #[] 36
  a : σ 16 = none → ∀ u, σ 8 = some u → Ls 36 w u (x.ls.take i) ∧ ∀ c ∈ own u, W0.heap.size ≤ c
  a2 : ∀ u, σ 16 = some u → Ls 36 w u (x.ls.eraseIdx i) ∧ ∀ c ∈ own u, W0.heap.size ≤ c
  f : ∀ t, σ 19 = some t → ∃ u, σ 16 = some u ∧ ∃ cs, Row w P cs 49 ∧ Cs cs u { x with ls := x.ls.eraseIdx i }
section
variable {W0 w w' : World} {P k i : Nat} {v u y5 y7 y8 y12 y15 y1 : Value} {x : Wn} {σ : St}
theorem T2.start (h : WAt 49 36 W0 P v x) : T2 W0 P v x i (fun _ => none) W0.drew :=
  ⟨(Kept.refl _ _).drew, h.lt, own_lt h.s, h.nP, fun _ => rfl, fun _ => rfl, fun _ => rfl, fun _ => rfl, fun _ => rfl, fun _ => rfl, fun _ => rfl, fun _ => h.r, h.s, fun _ _ h => (by cases h), fun _ _ h => (by cases h), fun _ h => (by cases h), fun _ h => (by cases h)⟩
theorem T2.pure (h : T2 W0 P v x i σ w) (hk : k ≠ 1 ∧ k ≠ 5 ∧ k ≠ 7 ∧ k ≠ 8 ∧ k ≠ 12 ∧ k ≠ 15 ∧ k ≠ 16 ∧ k ≠ 19) : T2 W0 P v x i (σ.upd k u) w := by
  have e1 : (σ.upd k u) 1 = σ 1 := upd_ne (by omega)
  have e5 : (σ.upd k u) 5 = σ 5 := upd_ne (by omega)
  have e7 : (σ.upd k u) 7 = σ 7 := upd_ne (by omega)
  have e8 : (σ.upd k u) 8 = σ 8 := upd_ne (by omega)
  have e12 : (σ.upd k u) 12 = σ 12 := upd_ne (by omega)
  have e15 : (σ.upd k u) 15 = σ 15 := upd_ne (by omega)
  have e16 : (σ.upd k u) 16 = σ 16 := upd_ne (by omega)
  have e19 : (σ.upd k u) 19 = σ 19 := upd_ne (by omega)
  exact ⟨h.keep, h.lP, h.lv, h.nP, by rw [e1, e8]; exact h.s1_8, by rw [e5, e7]; exact h.s5_7, by rw [e7, e8]; exact h.s7_8, by rw [e8, e16]; exact h.s8_16, by rw [e12, e15]; exact h.s12_15, by rw [e15, e16]; exact h.s15_16, by rw [e16, e19]; exact h.s16_19, by rw [e19]; exact h.r, h.l, by rw [e8, e1]; exact h.b, by rw [e16, e8]; exact h.a, by rw [e16]; exact h.a2, by rw [e19, e16]; exact h.f⟩
theorem T2.p5 (h : T2 W0 P v x i σ w) : T2 W0 P v x i (σ.upd 5 u) w := by
  have e1 : (σ.upd 5 u) 1 = σ 1 := upd_ne (by omega)
  have e5 : (σ.upd 5 u) 5 = some u := upd_eq
  have e7 : (σ.upd 5 u) 7 = σ 7 := upd_ne (by omega)
  have e8 : (σ.upd 5 u) 8 = σ 8 := upd_ne (by omega)
  have e12 : (σ.upd 5 u) 12 = σ 12 := upd_ne (by omega)
  have e15 : (σ.upd 5 u) 15 = σ 15 := upd_ne (by omega)
  have e16 : (σ.upd 5 u) 16 = σ 16 := upd_ne (by omega)
  have e19 : (σ.upd 5 u) 19 = σ 19 := upd_ne (by omega)
  exact ⟨h.keep, h.lP, h.lv, h.nP, by rw [e1, e8]; exact h.s1_8, by rw [e5]; exact (fun h => by cases h), by rw [e7, e8]; exact h.s7_8, by rw [e8, e16]; exact h.s8_16, by rw [e12, e15]; exact h.s12_15, by rw [e15, e16]; exact h.s15_16, by rw [e16, e19]; exact h.s16_19, by rw [e19]; exact h.r, h.l, by rw [e8, e1]; exact h.b, by rw [e16, e8]; exact h.a, by rw [e16]; exact h.a2, by rw [e19, e16]; exact h.f⟩
theorem T2.p7 (h : T2 W0 P v x i σ w) (h5 : σ 5 = some y5) : T2 W0 P v x i (σ.upd 7 u) w := by
  have e1 : (σ.upd 7 u) 1 = σ 1 := upd_ne (by omega)
  have e5 : (σ.upd 7 u) 5 = σ 5 := upd_ne (by omega)
  have e7 : (σ.upd 7 u) 7 = some u := upd_eq
  have e8 : (σ.upd 7 u) 8 = σ 8 := upd_ne (by omega)
  have e12 : (σ.upd 7 u) 12 = σ 12 := upd_ne (by omega)
  have e15 : (σ.upd 7 u) 15 = σ 15 := upd_ne (by omega)
  have e16 : (σ.upd 7 u) 16 = σ 16 := upd_ne (by omega)
  have e19 : (σ.upd 7 u) 19 = σ 19 := upd_ne (by omega)
  exact ⟨h.keep, h.lP, h.lv, h.nP, by rw [e1, e8]; exact h.s1_8, by rw [e5, h5]; exact (fun h => by cases h), by rw [e7]; exact (fun h => by cases h), by rw [e8, e16]; exact h.s8_16, by rw [e12, e15]; exact h.s12_15, by rw [e15, e16]; exact h.s15_16, by rw [e16, e19]; exact h.s16_19, by rw [e19]; exact h.r, h.l, by rw [e8, e1]; exact h.b, by rw [e16, e8]; exact h.a, by rw [e16]; exact h.a2, by rw [e19, e16]; exact h.f⟩
theorem T2.p12 (h : T2 W0 P v x i σ w) : T2 W0 P v x i (σ.upd 12 u) w := by
  have e1 : (σ.upd 12 u) 1 = σ 1 := upd_ne (by omega)
  have e5 : (σ.upd 12 u) 5 = σ 5 := upd_ne (by omega)
  have e7 : (σ.upd 12 u) 7 = σ 7 := upd_ne (by omega)
  have e8 : (σ.upd 12 u) 8 = σ 8 := upd_ne (by omega)
  have e12 : (σ.upd 12 u) 12 = some u := upd_eq
  have e15 : (σ.upd 12 u) 15 = σ 15 := upd_ne (by omega)
  have e16 : (σ.upd 12 u) 16 = σ 16 := upd_ne (by omega)
  have e19 : (σ.upd 12 u) 19 = σ 19 := upd_ne (by omega)
  exact ⟨h.keep, h.lP, h.lv, h.nP, by rw [e1, e8]; exact h.s1_8, by rw [e5, e7]; exact h.s5_7, by rw [e7, e8]; exact h.s7_8, by rw [e8, e16]; exact h.s8_16, by rw [e12]; exact (fun h => by cases h), by rw [e15, e16]; exact h.s15_16, by rw [e16, e19]; exact h.s16_19, by rw [e19]; exact h.r, h.l, by rw [e8, e1]; exact h.b, by rw [e16, e8]; exact h.a, by rw [e16]; exact h.a2, by rw [e19, e16]; exact h.f⟩
theorem T2.p15 (h : T2 W0 P v x i σ w) (h12 : σ 12 = some y12) : T2 W0 P v x i (σ.upd 15 u) w := by
  have e1 : (σ.upd 15 u) 1 = σ 1 := upd_ne (by omega)
  have e5 : (σ.upd 15 u) 5 = σ 5 := upd_ne (by omega)
  have e7 : (σ.upd 15 u) 7 = σ 7 := upd_ne (by omega)
  have e8 : (σ.upd 15 u) 8 = σ 8 := upd_ne (by omega)
  have e12 : (σ.upd 15 u) 12 = σ 12 := upd_ne (by omega)
  have e15 : (σ.upd 15 u) 15 = some u := upd_eq
  have e16 : (σ.upd 15 u) 16 = σ 16 := upd_ne (by omega)
  have e19 : (σ.upd 15 u) 19 = σ 19 := upd_ne (by omega)
  exact ⟨h.keep, h.lP, h.lv, h.nP, by rw [e1, e8]; exact h.s1_8, by rw [e5, e7]; exact h.s5_7, by rw [e7, e8]; exact h.s7_8, by rw [e8, e16]; exact h.s8_16, by rw [e12, h12]; exact (fun h => by cases h), by rw [e15]; exact (fun h => by cases h), by rw [e16, e19]; exact h.s16_19, by rw [e19]; exact h.r, h.l, by rw [e8, e1]; exact h.b, by rw [e16, e8]; exact h.a, by rw [e16]; exact h.a2, by rw [e19, e16]; exact h.f⟩
theorem T2.alloc (h : T2 W0 P v x i σ w) (hk : σ 1 = none) : T2 W0 P v x i (σ.upd 1 (.slice (some ⟨w.heap.size, 0, none⟩) 0 0)) (w.alloc (.cells #[] 36)) := by
  have h8 := h.s1_8 hk
  have h16 := h.s8_16 h8
  have h19 := h.s16_19 h16
  have e1 : (σ.upd 1 (Value.slice (some ⟨w.heap.size, 0, none⟩) 0 0)) 1 = some (Value.slice (some ⟨w.heap.size, 0, none⟩) 0 0) := upd_eq
  have e5 : (σ.upd 1 (Value.slice (some ⟨w.heap.size, 0, none⟩) 0 0)) 5 = σ 5 := upd_ne (by omega)
  have e7 : (σ.upd 1 (Value.slice (some ⟨w.heap.size, 0, none⟩) 0 0)) 7 = σ 7 := upd_ne (by omega)
  have e8 : (σ.upd 1 (Value.slice (some ⟨w.heap.size, 0, none⟩) 0 0)) 8 = σ 8 := upd_ne (by omega)
  have e12 : (σ.upd 1 (Value.slice (some ⟨w.heap.size, 0, none⟩) 0 0)) 12 = σ 12 := upd_ne (by omega)
  have e15 : (σ.upd 1 (Value.slice (some ⟨w.heap.size, 0, none⟩) 0 0)) 15 = σ 15 := upd_ne (by omega)
  have e16 : (σ.upd 1 (Value.slice (some ⟨w.heap.size, 0, none⟩) 0 0)) 16 = σ 16 := upd_ne (by omega)
  have e19 : (σ.upd 1 (Value.slice (some ⟨w.heap.size, 0, none⟩) 0 0)) 19 = σ 19 := upd_ne (by omega)
  exact ⟨h.keep.alloc _, h.lP, h.lv, h.nP, by rw [e1]; exact (fun h => by cases h), by rw [e5, e7]; exact h.s5_7, by rw [e7, e8]; exact h.s7_8, by rw [e8, e16]; exact h.s8_16, by rw [e12, e15]; exact h.s12_15, by rw [e15, e16]; exact h.s15_16, by rw [e16, e19]; exact h.s16_19, fun _ => by obtain ⟨cs, a, b⟩ := h.r h19; exact ⟨cs, a.alloc _, b⟩, World.ownsRow.alloc h.l _,
    by rw [e8, e1]; intro _ u hu; cases hu; exact ⟨_, rfl, h.keep.size, Row.new _ _ _⟩, by rw [e16, e8, h8]; exact (fun _ _ h => by cases h), by rw [e16, h16]; exact (fun _ h => by cases h), by rw [e19, h19]; exact (fun _ h => by cases h)⟩
/-- What an append does to the rest: it writes in one new block at most. -/
theorem T2.app (h : T2 W0 P v x i σ w) {z : Value} (hg : w.grownBy w' z.ownBlock) (hz : ∀ c ∈ own z, W0.heap.size ≤ c) : Kept [P] W0 w' ∧ Ls 36 w' v x.ls ∧ (σ 19 = none → ∃ cs, Row w' P cs 49 ∧ Cs cs v x) := by
  have hnP : P ∉ own z := fun hm => by have := hz P hm; have := h.lP; omega
  refine ⟨h.keep.grown hg (fun b hb => .inr (hz b hb)), World.ownsRow.kept h.l hg ?_, fun e => by obtain ⟨cs, a, b⟩ := h.r e; exact ⟨cs, a.grownV hg hnP, b⟩⟩
  cases hv : v.ownBlock with
  | none => exact .inl rfl
  | some c =>
    refine .inr (fun e => ?_)
    have h1 := h.lv c (by simp [own, hv])
    have h2 := hz c (by simp [own, ← e])
    omega
theorem T2.append1 (h : T2 W0 P v x i σ w) {B : Nat} (h1 : σ 1 = some (.slice (some ⟨B, 0, none⟩) 0 0)) (h7 : σ 7 = some y7) (hk : σ 8 = none) (hB : W0.heap.size ≤ B) (hg : w.grownBy w' (Value.slice (some ⟨B, 0, none⟩) 0 0).ownBlock) (hu : Ls 36 w' u (x.ls.take i))
    (hn : ∀ c ∈ own u, c ∈ own (.slice (some ⟨B, 0, none⟩) 0 0) ∨ w.heap.size ≤ c) : T2 W0 P v x i (σ.upd 8 u) w' := by
  have h16 := h.s8_16 hk
  have h19 := h.s16_19 h16
  have hz : ∀ c ∈ own (.slice (some ⟨B, 0, none⟩) 0 0), W0.heap.size ≤ c := by intro c hc; simp [own, Value.ownBlock] at hc; omega
  obtain ⟨k1, l1, r1⟩ := h.app (z := .slice (some ⟨B, 0, none⟩) 0 0) hg hz
  have hsz := h.keep.size
  have e1 : (σ.upd 8 u) 1 = σ 1 := upd_ne (by omega)
  have e5 : (σ.upd 8 u) 5 = σ 5 := upd_ne (by omega)
  have e7 : (σ.upd 8 u) 7 = σ 7 := upd_ne (by omega)
  have e8 : (σ.upd 8 u) 8 = some u := upd_eq
  have e12 : (σ.upd 8 u) 12 = σ 12 := upd_ne (by omega)
  have e15 : (σ.upd 8 u) 15 = σ 15 := upd_ne (by omega)
  have e16 : (σ.upd 8 u) 16 = σ 16 := upd_ne (by omega)
  have e19 : (σ.upd 8 u) 19 = σ 19 := upd_ne (by omega)
  exact ⟨k1, h.lP, h.lv, h.nP, by rw [e1, h1]; exact (fun h => by cases h), by rw [e5, e7]; exact h.s5_7, by rw [e7, h7]; exact (fun h => by cases h), by rw [e8]; exact (fun h => by cases h), by rw [e12, e15]; exact h.s12_15, by rw [e15, e16]; exact h.s15_16, by rw [e16, e19]; exact h.s16_19, by rw [e19]; exact r1, l1,
    by rw [e8]; exact (fun h => by cases h), by rw [e8]; intro _ z hz'; cases hz'; exact ⟨hu, fun c hc => (hn c hc).elim (hz c) (fun hh => by omega)⟩, by rw [e16, h16]; exact (fun _ h => by cases h), by rw [e19, h19]; exact (fun _ h => by cases h)⟩
theorem T2.append2 (h : T2 W0 P v x i σ w) (h8 : σ 8 = some y8) (h15 : σ 15 = some y15) (hk : σ 16 = none) (hg : w.grownBy w' y8.ownBlock) (hu : Ls 36 w' u (x.ls.eraseIdx i))
    (hn : ∀ c ∈ own u, c ∈ own y8 ∨ w.heap.size ≤ c) : T2 W0 P v x i (σ.upd 16 u) w' := by
  have h19 := h.s16_19 hk
  obtain ⟨_, hnew⟩ := h.a hk y8 h8
  obtain ⟨k1, l1, r1⟩ := h.app hg hnew
  have hsz := h.keep.size
  have e1 : (σ.upd 16 u) 1 = σ 1 := upd_ne (by omega)
  have e5 : (σ.upd 16 u) 5 = σ 5 := upd_ne (by omega)
  have e7 : (σ.upd 16 u) 7 = σ 7 := upd_ne (by omega)
  have e8 : (σ.upd 16 u) 8 = σ 8 := upd_ne (by omega)
  have e12 : (σ.upd 16 u) 12 = σ 12 := upd_ne (by omega)
  have e15 : (σ.upd 16 u) 15 = σ 15 := upd_ne (by omega)
  have e16 : (σ.upd 16 u) 16 = some u := upd_eq
  have e19 : (σ.upd 16 u) 19 = σ 19 := upd_ne (by omega)
  exact ⟨k1, h.lP, h.lv, h.nP, by rw [e1, e8]; exact h.s1_8, by rw [e5, e7]; exact h.s5_7, by rw [e7, e8]; exact h.s7_8, by rw [e8, h8]; exact (fun h => by cases h), by rw [e12, e15]; exact h.s12_15, by rw [e15, h15]; exact (fun h => by cases h), by rw [e16]; exact (fun h => by cases h), by rw [e19]; exact r1, l1,
    by rw [e8, h8]; exact (fun h => by cases h), by rw [e16]; exact (fun h => by cases h), by rw [e16]; intro z hz; cases hz; exact ⟨hu, fun c hc => (hn c hc).elim (hnew c) (fun hh => by omega)⟩, by rw [e19, h19]; exact (fun _ h => by cases h)⟩
theorem T2.store (h : T2 W0 P v x i σ w) {t : Value} (h16 : σ 16 = some u) (hk : σ 19 = none) : T2 W0 P v x i (σ.upd 19 t) (w.setCell ⟨P, 1, none⟩ u) := by
  have hlP := h.lP
  have ex : σ 8 ≠ none := fun e => by rw [h.s8_16 e] at h16; cases h16
  have e1 : (σ.upd 19 t) 1 = σ 1 := upd_ne (by omega)
  have e5 : (σ.upd 19 t) 5 = σ 5 := upd_ne (by omega)
  have e7 : (σ.upd 19 t) 7 = σ 7 := upd_ne (by omega)
  have e8 : (σ.upd 19 t) 8 = σ 8 := upd_ne (by omega)
  have e12 : (σ.upd 19 t) 12 = σ 12 := upd_ne (by omega)
  have e15 : (σ.upd 19 t) 15 = σ 15 := upd_ne (by omega)
  have e16 : (σ.upd 19 t) 16 = σ 16 := upd_ne (by omega)
  have e19 : (σ.upd 19 t) 19 = some t := upd_eq
  refine ⟨h.keep.set P 1 (.inl (by simp)) _, h.lP, h.lv, h.nP, by rw [e1, e8]; exact h.s1_8, by rw [e5, e7]; exact h.s5_7, by rw [e7, e8]; exact h.s7_8, by rw [e8, e16]; exact h.s8_16, by rw [e12, e15]; exact h.s12_15, by rw [e15, e16]; exact h.s15_16, by rw [e16, h16]; exact (fun h => by cases h), by rw [e19]; exact (fun h => by cases h), own_set h.l P 1 h.nP _, by rw [e8]; exact (fun h => absurd h ex), by rw [e16, h16]; exact (fun h => by cases h), ?_, ?_⟩
  · rw [e16]
    intro z hz
    obtain ⟨ha, hc⟩ := h.a2 z hz
    exact ⟨own_set ha P 1 (fun hm => by have := hc P hm; omega) _, hc⟩
  · rw [e19, e16]
    intro z hz
    obtain ⟨cs, a, b⟩ := h.r hk
    exact ⟨u, h16, _, a.set 1 _, b.setL _⟩
theorem T2.free (h : T2 W0 P v x i σ w) : ∀ j, w.frozen? ⟨P, j, none⟩ = false := by
  cases e : σ 19 with
  | none => obtain ⟨cs, a, b⟩ := h.r e; exact a.free
  | some t => obtain ⟨u, _, cs, a, b⟩ := h.f t e; exact a.free
theorem T2.cell1 (h : T2 W0 P v x i σ w) (hk : σ 19 = none) : w.cell? ⟨P, 1, none⟩ = some v := by obtain ⟨cs, a, b⟩ := h.r hk; exact a.cell 1 _ b.c1
theorem T2.cell5 (h : T2 W0 P v x i σ w) (hk : σ 5 = none) : w.cell? ⟨P, 1, none⟩ = some v := h.cell1 (h.s16_19 (h.s8_16 (h.s7_8 (h.s5_7 hk))))
theorem T2.cell12 (h : T2 W0 P v x i σ w) (hk : σ 12 = none) : w.cell? ⟨P, 1, none⟩ = some v := h.cell1 (h.s16_19 (h.s15_16 (h.s12_15 hk)))
theorem T2.fin (h : T2 W0 P v x i σ w) (h19 : (σ 19).isSome = true) : ∃ u, WAt 49 36 w P u { x with ls := x.ls.eraseIdx i } ∧ Stp (wfp P v) (wfp P u) W0 w := by
  cases e : σ 19 with
  | none => rw [e] at h19; cases h19
  | some t =>
    obtain ⟨u, e16, cs, a, b⟩ := h.f t e
    obtain ⟨hs, hn⟩ := h.a2 u e16
    exact ⟨u, ⟨⟨cs, a, b⟩, hs, fun hm => by have := hn P hm; have := h.lP; omega⟩, h.keep.more (by simp [wfp]), fun c hc => by
      rcases List.mem_cons.1 hc with rfl | hc
      · exact .inl (List.mem_cons_self ..)
      · exact .inr (hn c hc)⟩
end
end Go.Proofs.Ytppjjbhbbnnpgaa
