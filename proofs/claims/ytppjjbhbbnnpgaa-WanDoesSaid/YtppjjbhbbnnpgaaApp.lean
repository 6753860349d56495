/- One letter more: 'append' of a letter to the letters, in whatever order. Conditions: the links lie whole in memory, the letter in a block of its own. -/
import Derived.Test.YtppjjbhbbnnpgaaFun
namespace Go.Proofs.Ytppjjbhbbnnpgaa
open Go.RowKit G
set_option linter.unusedVariables false
set_option linter.unusedSimpArgs false
attribute [local go_sem] upon_value upon_skip upon_enter runAt_run
def Wn.add (x : Wn) (y : Lt) : Wn := { x with ls := x.ls ++ [y] }
structure AP (T E : TypeId) (W0 : World) (P : Nat) (v : Value) (x : Wn) (y : Lt) (B : Nat) (σ : St) (w : World) : Prop where
  keep : Kept (P :: own v) W0 w
  lP : P < W0.heap.size
  lv : ∀ b ∈ own v, b < W0.heap.size
  nP : P ∉ own v
  s4 : σ 4 = none → σ 7 = none
  s6 : σ 6 = none → σ 7 = none
  s7 : σ 7 = none → σ 10 = none
  r : σ 10 = none → ∃ cs, Row w P cs T ∧ Cs cs v x
  o : σ 7 = none → Ls E w v x.ls
  b : ∀ u, σ 6 = some u → ∃ B, u = .slice (some ⟨B, 0, none⟩) 1 1 ∧ W0.heap.size ≤ B ∧ Row w B (ltc y).toArray E
  a : ∀ u, σ 7 = some u → Ls E w u (x.ls ++ [y]) ∧ ∀ c ∈ own u, c ∈ own v ∨ W0.heap.size ≤ c
  f : ∀ t, σ 10 = some t → ∃ u, σ 7 = some u ∧ ∃ cs, Row w P cs T ∧ Cs cs u (x.add y)
  bx : Row W0 B (ltc y).toArray E
  bn : B ∉ P :: own v
section
variable {T E : TypeId} {W0 w w' : World} {P k B : Nat} {v u : Value} {x : Wn} {y : Lt} {σ : St}
theorem AP.start (h : WAt T E W0 P v x) (hb : Row W0 B (ltc y).toArray E) (hn : B ∉ P :: own v) : AP T E W0 P v x y B (fun _ => none) W0.drew :=
  ⟨(Kept.refl _ _).drew, h.lt, own_lt h.s, h.nP, fun _ => rfl, fun _ => rfl, fun _ => rfl, fun _ => h.r, fun _ => h.s, fun _ h => (by cases h), fun _ h => (by cases h), fun _ h => (by cases h), hb, hn⟩
theorem AP.pure (h : AP T E W0 P v x y B σ w) (hk : k ≠ 4 ∧ k ≠ 6 ∧ k ≠ 7 ∧ k ≠ 10) : AP T E W0 P v x y B (σ.upd k u) w := by
  have e4 : (σ.upd k u) 4 = σ 4 := upd_ne (by omega)
  have e6 : (σ.upd k u) 6 = σ 6 := upd_ne (by omega)
  have e7 : (σ.upd k u) 7 = σ 7 := upd_ne (by omega)
  have e10 : (σ.upd k u) 10 = σ 10 := upd_ne (by omega)
  exact ⟨h.keep, h.lP, h.lv, h.nP, by rw [e4, e7]; exact h.s4, by rw [e6, e7]; exact h.s6, by rw [e7, e10]; exact h.s7, by rw [e10]; exact h.r, by rw [e7]; exact h.o, by rw [e6]; exact h.b, by rw [e7]; exact h.a, by rw [e10, e7]; exact h.f, h.bx, h.bn⟩
theorem AP.load (h : AP T E W0 P v x y B σ w) : AP T E W0 P v x y B (σ.upd 4 u) w := by
  have e4 : (σ.upd 4 u) 4 = some u := upd_eq
  have e6 : (σ.upd 4 u) 6 = σ 6 := upd_ne (by omega)
  have e7 : (σ.upd 4 u) 7 = σ 7 := upd_ne (by omega)
  have e10 : (σ.upd 4 u) 10 = σ 10 := upd_ne (by omega)
  exact ⟨h.keep, h.lP, h.lv, h.nP, by rw [e4]; exact (fun h => by cases h), by rw [e6, e7]; exact h.s6, by rw [e7, e10]; exact h.s7, by rw [e10]; exact h.r, by rw [e7]; exact h.o, by rw [e6]; exact h.b, by rw [e7]; exact h.a, by rw [e10, e7]; exact h.f, h.bx, h.bn⟩
theorem AP.alloc (h : AP T E W0 P v x y B σ w) (hk : σ 6 = none) : AP T E W0 P v x y B (σ.upd 6 (.slice (some ⟨w.heap.size, 0, none⟩) 1 1)) (w.alloc (.cells (ltc y).toArray E)) := by
  have e4 : (σ.upd 6 (.slice (some ⟨w.heap.size, 0, none⟩) 1 1)) 4 = σ 4 := upd_ne (by omega)
  have e6 : (σ.upd 6 (.slice (some ⟨w.heap.size, 0, none⟩) 1 1)) 6 = some (.slice (some ⟨w.heap.size, 0, none⟩) 1 1) := upd_eq
  have e7 : (σ.upd 6 (.slice (some ⟨w.heap.size, 0, none⟩) 1 1)) 7 = σ 7 := upd_ne (by omega)
  have e10 : (σ.upd 6 (.slice (some ⟨w.heap.size, 0, none⟩) 1 1)) 10 = σ 10 := upd_ne (by omega)
  have h7 := h.s6 hk
  have h10 := h.s7 h7
  exact ⟨h.keep.alloc _, h.lP, h.lv, h.nP, by rw [e4, e7]; exact h.s4, by rw [e6]; exact (fun h => by cases h), by rw [e7, e10]; exact h.s7,
    fun _ => by obtain ⟨cs, a, b⟩ := h.r h10; exact ⟨cs, a.alloc _, b⟩, fun _ => World.ownsRow.alloc (h.o h7) _,
    by rw [e6]; intro u hu; cases hu; exact ⟨_, rfl, h.keep.size, Row.new _ _ _⟩,
    by rw [e7, h7]; exact (fun _ h => by cases h), by rw [e10, h10]; exact (fun _ h => by cases h), h.bx, h.bn⟩
theorem AP.append (h : AP T E W0 P v x y B σ w) {s4 : Value} {B' : Nat} (h4 : σ 4 = some s4) (h6 : σ 6 = some (.slice (some ⟨B', 0, none⟩) 1 1)) (hk : σ 7 = none) (hg : w.grownBy w' v.ownBlock) (hu : Ls E w' u (x.ls ++ [y]))
    (hn : ∀ c ∈ own u, c ∈ own v ∨ w.heap.size ≤ c) : AP T E W0 P v x y B (σ.upd 7 u) w' := by
  have e4 : (σ.upd 7 u) 4 = σ 4 := upd_ne (by omega)
  have e6 : (σ.upd 7 u) 6 = σ 6 := upd_ne (by omega)
  have e7 : (σ.upd 7 u) 7 = some u := upd_eq
  have e10 : (σ.upd 7 u) 10 = σ 10 := upd_ne (by omega)
  have h10 := h.s7 hk
  have hsz := h.keep.size
  refine ⟨h.keep.grown hg (fun b hb => .inl (List.mem_cons_of_mem _ hb)), h.lP, h.lv, h.nP, by rw [e4, h4]; exact (fun h => by cases h), by rw [e6, h6]; exact (fun h => by cases h), by rw [e7]; exact (fun h => by cases h),
    fun _ => by obtain ⟨cs, a, b⟩ := h.r h10; exact ⟨cs, a.grownV hg h.nP, b⟩, by rw [e7]; exact (fun h => by cases h), ?_, ?_, by rw [e10, h10]; exact (fun _ h => by cases h), h.bx, h.bn⟩
  · rw [e6]
    intro z hz
    obtain ⟨B', e, hB, hr⟩ := h.b z hz
    exact ⟨B', e, hB, hr.grownV hg (fun hm => absurd (h.lv _ hm) (by omega))⟩
  · rw [e7]
    intro z hz
    cases hz
    exact ⟨hu, fun c hc => (hn c hc).imp id (fun hh => by omega)⟩
theorem AP.store (h : AP T E W0 P v x y B σ w) {t : Value} (h7 : σ 7 = some u) (hk : σ 10 = none) : AP T E W0 P v x y B (σ.upd 10 t) (w.setCell ⟨P, 1, none⟩ u) := by
  have e4 : (σ.upd 10 t) 4 = σ 4 := upd_ne (by omega)
  have e6 : (σ.upd 10 t) 6 = σ 6 := upd_ne (by omega)
  have e7 : (σ.upd 10 t) 7 = σ 7 := upd_ne (by omega)
  have e10 : (σ.upd 10 t) 10 = some t := upd_eq
  have hlP := h.lP
  refine ⟨h.keep.set P 1 (.inl (by simp)) _, h.lP, h.lv, h.nP, by rw [e4, e7]; exact h.s4, by rw [e6, e7]; exact h.s6, by rw [e7, h7]; exact (fun h => by cases h), by rw [e10]; exact (fun h => by cases h), by rw [e7, h7]; exact (fun h => by cases h), ?_, ?_, ?_, h.bx, h.bn⟩
  · rw [e6]
    intro z hz
    obtain ⟨B', e, hB, hr⟩ := h.b z hz
    exact ⟨B', e, hB, hr.setOther P 1 (by omega) _⟩
  · rw [e7]
    intro z hz
    obtain ⟨ha, hc⟩ := h.a z hz
    exact ⟨own_set ha P 1 (fun hm => (hc P hm).elim h.nP (fun hh => by omega)) _, hc⟩
  · rw [e10, e7]
    intro z hz
    obtain ⟨cs, a, b⟩ := h.r hk
    exact ⟨u, h7, _, a.set 1 _, b.setL _⟩
theorem AP.free (h : AP T E W0 P v x y B σ w) : ∀ i, w.frozen? ⟨P, i, none⟩ = false := by
  cases e : σ 10 with
  | none => obtain ⟨cs, a, b⟩ := h.r e; exact a.free
  | some t => obtain ⟨u, _, cs, a, b⟩ := h.f t e; exact a.free
theorem AP.cellS (h : AP T E W0 P v x y B σ w) (hk : σ 10 = none) : w.cell? ⟨P, 1, none⟩ = some v := by obtain ⟨cs, a, b⟩ := h.r hk; exact a.cell 1 _ b.c1
theorem AP.cell1 (h : AP T E W0 P v x y B σ w) (hk : σ 4 = none) : w.cell? ⟨P, 1, none⟩ = some v := h.cellS (h.s7 (h.s4 hk))
theorem AP.box (h : AP T E W0 P v x y B σ w) : w.cell? ⟨B, 0, none⟩ = some (.int .i64 y.f) ∧ w.cell? ⟨B, 1, none⟩ = some (.int .i64 y.t) ∧ w.cell? ⟨B, 2, none⟩ = some (.string y.s) := by
  have hr := h.bx.kept h.keep h.bn
  exact ⟨hr.cell 0 _ rfl, hr.cell 1 _ rfl, hr.cell 2 _ rfl⟩
theorem AP.fin (h : AP T E W0 P v x y B σ w) (h7 : (σ 7).isSome = true) (h10 : (σ 10).isSome = true) : ∃ u, WAt T E w P u (x.add y) ∧ Stp (wfp P v) (wfp P u) W0 w := by
  cases e10 : σ 10 with
  | none => rw [e10] at h10; cases h10
  | some t =>
    obtain ⟨u, e7, cs, a, b⟩ := h.f t e10
    obtain ⟨hs, hn⟩ := h.a u e7
    refine ⟨u, ⟨⟨cs, a, b⟩, hs, fun hm => (hn P hm).elim h.nP (fun hh => by have := h.lP; omega)⟩, h.keep, fun c hc => ?_⟩
    rcases List.mem_cons.1 hc with rfl | hc
    · exact .inl (List.mem_cons_self ..)
    · exact (hn c hc).imp (fun h1 => List.mem_cons_of_mem _ h1) id
end
end Go.Proofs.Ytppjjbhbbnnpgaa
