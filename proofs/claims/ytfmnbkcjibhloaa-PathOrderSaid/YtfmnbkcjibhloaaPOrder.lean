/- PathOrder: an order of ways. Condition: counts of uint32's range. -/
import Derived.Test.YtfmnbkcjibhloaaWorks
namespace Go.Proofs.Ytfmnbkcjibhloaa
open Go.RowKit
set_option linter.unusedVariables false
set_option linter.unusedSimpArgs false
attribute [local go_sem] eqA4 eqA3 G.upon_value G.upon_skip G.upon_enter G.runAt_run
open G
/-- Three blocks made in one statement, in whatever order. -/
structure A3 (W0 : World) (p q s : Pa) (σ : St) (w : World) : Prop where
  p : AC W0 6 9 #[.int .i64 0, .int .i64 0, .int .u32 0, .int .u32 0, .int .u32 0, .int .u32 0, .int .i64 0, .int .u32 0, .int .u32 0, .int .u32 0] #[.int .i64 p.f, .int .i64 p.k, .int .u32 p.a0, .int .u32 p.a1, .int .u32 p.a2, .int .u32 p.a3, .int .i64 p.u, .int .u32 p.l0, .int .u32 p.l1, .int .u32 p.l2] 26 σ w
  q : AC W0 7 10 #[.int .i64 0, .int .i64 0, .int .u32 0, .int .u32 0, .int .u32 0, .int .u32 0, .int .i64 0, .int .u32 0, .int .u32 0, .int .u32 0] #[.int .i64 q.f, .int .i64 q.k, .int .u32 q.a0, .int .u32 q.a1, .int .u32 q.a2, .int .u32 q.a3, .int .i64 q.u, .int .u32 q.l0, .int .u32 q.l1, .int .u32 q.l2] 26 σ w
  s : AC W0 8 11 #[.int .i64 0, .int .i64 0, .int .u32 0, .int .u32 0, .int .u32 0, .int .u32 0, .int .i64 0, .int .u32 0, .int .u32 0, .int .u32 0] #[.int .i64 s.f, .int .i64 s.k, .int .u32 s.a0, .int .u32 s.a1, .int .u32 s.a2, .int .u32 s.a3, .int .i64 s.u, .int .u32 s.l0, .int .u32 s.l1, .int .u32 s.l2] 26 σ w
  d : ∀ i j X, (i = 6 ∨ i = 7 ∨ i = 8) → (j = 6 ∨ j = 7 ∨ j = 8) → i ≠ j → σ i = some (.pointer (some ⟨X, 0, none⟩)) → σ j ≠ some (.pointer (some ⟨X, 0, none⟩))
theorem AC.keep {W0 w w' : World} {ia is T k : Nat} {zs xs : Array Value} {σ : St} {v : Value} (h : AC W0 ia is zs xs T σ w) (h1 : ia ≠ k) (h2 : is ≠ k) (hb : Below W0.heap.size W0 w')
    (hr : ∀ X cs, σ ia = some (.pointer (some ⟨X, 0, none⟩)) → Row w X cs T → Row w' X cs T) : AC W0 ia is zs xs T (σ.upd k v) w' :=
  ⟨hb, by rw [upd_ne h1, upd_ne h2]; exact h.i, by
    rw [upd_ne h1, upd_ne h2]
    intro u hu
    obtain ⟨X, e, hX, hr'⟩ := h.x u hu
    exact ⟨X, e, hX, hr X _ (e ▸ hu) hr'⟩⟩
section
variable {W0 w w' : World} {p q s : Pa} {σ : St} {v : Value} {k : Nat}
theorem A3.start (W0 : World) (p q s : Pa) : A3 W0 p q s (fun _ => none) W0.drew := ⟨AC.start _ _ _ _ _ _, AC.start _ _ _ _ _ _, AC.start _ _ _ _ _ _, fun i j X _ _ _ h => (by cases h)⟩
theorem A3.dpure (h : A3 W0 p q s σ w) (hk : k ≠ 6 ∧ k ≠ 7 ∧ k ≠ 8) : ∀ i j X, (i = 6 ∨ i = 7 ∨ i = 8) → (j = 6 ∨ j = 7 ∨ j = 8) → i ≠ j → (σ.upd k v) i = some (.pointer (some ⟨X, 0, none⟩)) → (σ.upd k v) j ≠ some (.pointer (some ⟨X, 0, none⟩)) := by
  intro i j X hi hj hn
  rw [upd_ne (show i ≠ k by omega), upd_ne (show j ≠ k by omega)]
  exact h.d i j X hi hj hn
theorem A3.pure (h : A3 W0 p q s σ w) (hk : k ≠ 6 ∧ k ≠ 7 ∧ k ≠ 8 ∧ k ≠ 9 ∧ k ≠ 10 ∧ k ≠ 11) : A3 W0 p q s (σ.upd k v) w :=
  ⟨h.p.pure (by omega) (by omega), h.q.pure (by omega) (by omega), h.s.pure (by omega) (by omega), h.dpure (by omega)⟩
theorem A3.call (h : A3 W0 p q s σ w) (hb : Below w.heap.size w w') (hk : k ≠ 6 ∧ k ≠ 7 ∧ k ≠ 8 ∧ k ≠ 9 ∧ k ≠ 10 ∧ k ≠ 11) : A3 W0 p q s (σ.upd k v) w' :=
  ⟨h.p.call hb (by omega) (by omega), h.q.call hb (by omega) (by omega), h.s.call hb (by omega) (by omega), h.dpure (by omega)⟩
theorem AC.lt' {ia is T : Nat} {zs xs : Array Value} (h : AC W0 ia is zs xs T σ w) {X : Nat} (e : σ ia = some (.pointer (some ⟨X, 0, none⟩))) : X < w.heap.size := by
  obtain ⟨X', e', _, hr⟩ := h.x _ e
  injection e' with e'; injection e' with e'; injection e' with e'
  subst e'
  exact hr.lt
theorem A3.dalloc (h : A3 W0 p q s σ w) (k : Nat) (hk : k = 6 ∨ k = 7 ∨ k = 8) : ∀ i j X, (i = 6 ∨ i = 7 ∨ i = 8) → (j = 6 ∨ j = 7 ∨ j = 8) → i ≠ j → (σ.upd k (.pointer (some ⟨w.heap.size, 0, none⟩))) i = some (.pointer (some ⟨X, 0, none⟩)) → (σ.upd k (.pointer (some ⟨w.heap.size, 0, none⟩))) j ≠ some (.pointer (some ⟨X, 0, none⟩)) := by
  have old : ∀ j X, (j = 6 ∨ j = 7 ∨ j = 8) → σ j = some (.pointer (some ⟨X, 0, none⟩)) → X < w.heap.size := by
    intro j X hj e
    rcases hj with rfl | rfl | rfl
    · exact h.p.lt' e
    · exact h.q.lt' e
    · exact h.s.lt' e
  intro i j X hi hj hn e1 e2
  by_cases c1 : i = k
  · subst c1
    rw [upd_eq] at e1
    rw [upd_ne (Ne.symm hn)] at e2
    have := old j X hj e2
    injection e1 with e1; injection e1 with e1; injection e1 with e1; injection e1 with e1
    omega
  · rw [upd_ne c1] at e1
    by_cases c2 : j = k
    · subst c2
      rw [upd_eq] at e2
      have := old i X hi e1
      injection e2 with e2; injection e2 with e2; injection e2 with e2; injection e2 with e2
      omega
    · rw [upd_ne c2] at e2
      exact h.d i j X hi hj hn e1 e2
theorem A3.alloc6 (h : A3 W0 p q s σ w) (hk : σ 6 = none) : A3 W0 p q s (σ.upd 6 (.pointer (some ⟨w.heap.size, 0, none⟩))) (w.alloc (.cells #[.int .i64 0, .int .i64 0, .int .u32 0, .int .u32 0, .int .u32 0, .int .u32 0, .int .i64 0, .int .u32 0, .int .u32 0, .int .u32 0] 26)) := ⟨h.p.alloc hk (by decide), h.q.call (below_new _ _) (by decide) (by decide), h.s.call (below_new _ _) (by decide) (by decide), h.dalloc 6 (by decide)⟩
theorem A3.alloc7 (h : A3 W0 p q s σ w) (hk : σ 7 = none) : A3 W0 p q s (σ.upd 7 (.pointer (some ⟨w.heap.size, 0, none⟩))) (w.alloc (.cells #[.int .i64 0, .int .i64 0, .int .u32 0, .int .u32 0, .int .u32 0, .int .u32 0, .int .i64 0, .int .u32 0, .int .u32 0, .int .u32 0] 26)) := ⟨h.p.call (below_new _ _) (by decide) (by decide), h.q.alloc hk (by decide), h.s.call (below_new _ _) (by decide) (by decide), h.dalloc 7 (by decide)⟩
theorem A3.alloc8 (h : A3 W0 p q s σ w) (hk : σ 8 = none) : A3 W0 p q s (σ.upd 8 (.pointer (some ⟨w.heap.size, 0, none⟩))) (w.alloc (.cells #[.int .i64 0, .int .i64 0, .int .u32 0, .int .u32 0, .int .u32 0, .int .u32 0, .int .i64 0, .int .u32 0, .int .u32 0, .int .u32 0] 26)) := ⟨h.p.call (below_new _ _) (by decide) (by decide), h.q.call (below_new _ _) (by decide) (by decide), h.s.alloc hk (by decide), h.dalloc 8 (by decide)⟩
theorem Row.other10 {b X T : Nat} {cs : Array Value} {v0 v1 v2 v3 v4 v5 v6 v7 v8 v9 : Value} (h : Row w b cs T) (hb : X ≠ b) : Row ((((((((((w.setCell ⟨X, 0, none⟩ v0).setCell ⟨X, 1, none⟩ v1).setCell ⟨X, 2, none⟩ v2).setCell ⟨X, 3, none⟩ v3).setCell ⟨X, 4, none⟩ v4).setCell ⟨X, 5, none⟩ v5).setCell ⟨X, 6, none⟩ v6).setCell ⟨X, 7, none⟩ v7).setCell ⟨X, 8, none⟩ v8).setCell ⟨X, 9, none⟩ v9) b cs T :=
  (((((((((h.setOther X 0 hb _).setOther X 1 hb _).setOther X 2 hb _).setOther X 3 hb _).setOther X 4 hb _).setOther X 5 hb _).setOther X 6 hb _).setOther X 7 hb _).setOther X 8 hb _).setOther X 9 hb _
theorem A3.store9 {X : Nat} (h : A3 W0 p q s σ w) (e : σ 6 = some (.pointer (some ⟨X, 0, none⟩))) (hk : σ 9 = none) : A3 W0 p q s (σ.upd 9 v) ((((((((((w.setCell ⟨X, 0, none⟩ (.int .i64 p.f)).setCell ⟨X, 1, none⟩ (.int .i64 p.k)).setCell ⟨X, 2, none⟩ (.int .u32 p.a0)).setCell ⟨X, 3, none⟩ (.int .u32 p.a1)).setCell ⟨X, 4, none⟩ (.int .u32 p.a2)).setCell ⟨X, 5, none⟩ (.int .u32 p.a3)).setCell ⟨X, 6, none⟩ (.int .i64 p.u)).setCell ⟨X, 7, none⟩ (.int .u32 p.l0)).setCell ⟨X, 8, none⟩ (.int .u32 p.l1)).setCell ⟨X, 9, none⟩ (.int .u32 p.l2)) := by
  have hX := (h.p.row e hk).1
  exact ⟨h.p.store10 e hk (by decide), h.q.keep (by decide) (by decide) (h.p.b.trans (bel10 hX)) (fun Y cs eY hr => hr.other10 (fun e' => h.d 6 7 X (by decide) (by decide) (by decide) e (e' ▸ eY))), h.s.keep (by decide) (by decide) (h.p.b.trans (bel10 hX)) (fun Y cs eY hr => hr.other10 (fun e' => h.d 6 8 X (by decide) (by decide) (by decide) e (e' ▸ eY))), h.dpure (by decide)⟩
theorem A3.store10 {X : Nat} (h : A3 W0 p q s σ w) (e : σ 7 = some (.pointer (some ⟨X, 0, none⟩))) (hk : σ 10 = none) : A3 W0 p q s (σ.upd 10 v) ((((((((((w.setCell ⟨X, 0, none⟩ (.int .i64 q.f)).setCell ⟨X, 1, none⟩ (.int .i64 q.k)).setCell ⟨X, 2, none⟩ (.int .u32 q.a0)).setCell ⟨X, 3, none⟩ (.int .u32 q.a1)).setCell ⟨X, 4, none⟩ (.int .u32 q.a2)).setCell ⟨X, 5, none⟩ (.int .u32 q.a3)).setCell ⟨X, 6, none⟩ (.int .i64 q.u)).setCell ⟨X, 7, none⟩ (.int .u32 q.l0)).setCell ⟨X, 8, none⟩ (.int .u32 q.l1)).setCell ⟨X, 9, none⟩ (.int .u32 q.l2)) := by
  have hX := (h.q.row e hk).1
  exact ⟨h.p.keep (by decide) (by decide) (h.q.b.trans (bel10 hX)) (fun Y cs eY hr => hr.other10 (fun e' => h.d 7 6 X (by decide) (by decide) (by decide) e (e' ▸ eY))), h.q.store10 e hk (by decide), h.s.keep (by decide) (by decide) (h.q.b.trans (bel10 hX)) (fun Y cs eY hr => hr.other10 (fun e' => h.d 7 8 X (by decide) (by decide) (by decide) e (e' ▸ eY))), h.dpure (by decide)⟩
theorem A3.store11 {X : Nat} (h : A3 W0 p q s σ w) (e : σ 8 = some (.pointer (some ⟨X, 0, none⟩))) (hk : σ 11 = none) : A3 W0 p q s (σ.upd 11 v) ((((((((((w.setCell ⟨X, 0, none⟩ (.int .i64 s.f)).setCell ⟨X, 1, none⟩ (.int .i64 s.k)).setCell ⟨X, 2, none⟩ (.int .u32 s.a0)).setCell ⟨X, 3, none⟩ (.int .u32 s.a1)).setCell ⟨X, 4, none⟩ (.int .u32 s.a2)).setCell ⟨X, 5, none⟩ (.int .u32 s.a3)).setCell ⟨X, 6, none⟩ (.int .i64 s.u)).setCell ⟨X, 7, none⟩ (.int .u32 s.l0)).setCell ⟨X, 8, none⟩ (.int .u32 s.l1)).setCell ⟨X, 9, none⟩ (.int .u32 s.l2)) := by
  have hX := (h.s.row e hk).1
  exact ⟨h.p.keep (by decide) (by decide) (h.s.b.trans (bel10 hX)) (fun Y cs eY hr => hr.other10 (fun e' => h.d 8 6 X (by decide) (by decide) (by decide) e (e' ▸ eY))), h.q.keep (by decide) (by decide) (h.s.b.trans (bel10 hX)) (fun Y cs eY hr => hr.other10 (fun e' => h.d 8 7 X (by decide) (by decide) (by decide) e (e' ▸ eY))), h.s.store10 e hk (by decide), h.dpure (by decide)⟩
end
theorem cmp_bd (p q : Pa) : -1 ≤ compareR p q ∧ compareR p q ≤ 1 := by
  refine orL_bd _ (fun x hx => ?_)
  simp only [List.mem_cons, List.not_mem_nil, or_false] at hx
  rcases hx with rfl | rfl | rfl | rfl | rfl | rfl | rfl | rfl | rfl | rfl <;> exact cmpI_bd _ _
theorem pa_ne {p q : Pa} (h : p ≠ q) : (p.f == q.f && (p.k == q.k && ((p.a0 == q.a0 && (p.a1 == q.a1 && (p.a2 == q.a2 && p.a3 == q.a3))) && (p.u == q.u && (p.l0 == q.l0 && (p.l1 == q.l1 && p.l2 == q.l2)))))) = false := by
  rw [Bool.eq_false_iff]
  intro e
  simp only [Bool.and_eq_true, beq_iff_eq] at e
  exact h (by cases p; cases q; simp_all)
theorem ne_if {α : Type} {x y : α} {p q : Pa} [d1 : Decidable (p.a0 = q.a0 → p.a1 = q.a1 → p.a2 = q.a2 → ¬p.a3 = q.a3)] [d2 : Decidable (p.l0 = q.l0 → p.l1 = q.l1 → ¬p.l2 = q.l2)] (h : p ≠ q) :
    (if p.f = q.f then if p.k = q.k then if p.a0 = q.a0 → p.a1 = q.a1 → p.a2 = q.a2 → ¬p.a3 = q.a3 then x else if p.u = q.u then if p.l0 = q.l0 → p.l1 = q.l1 → ¬p.l2 = q.l2 then x else y else x else x else x) = x := by
  by_cases h1 : p.f = q.f
  · rw [if_pos h1]
    by_cases h2 : p.k = q.k
    · rw [if_pos h2]
      by_cases h3 : p.a0 = q.a0 → p.a1 = q.a1 → p.a2 = q.a2 → ¬p.a3 = q.a3
      · rw [if_pos h3]
      · rw [if_neg h3]
        by_cases h4 : p.u = q.u
        · rw [if_pos h4]
          by_cases h5 : p.l0 = q.l0 → p.l1 = q.l1 → ¬p.l2 = q.l2
          · rw [if_pos h5]
          · exfalso
            refine h ?_
            have e0 : p.a0 = q.a0 := Decidable.by_contra fun e => h3 fun a => absurd a e
            have e1 : p.a1 = q.a1 := Decidable.by_contra fun e => h3 fun _ a => absurd a e
            have e2 : p.a2 = q.a2 := Decidable.by_contra fun e => h3 fun _ _ a => absurd a e
            have e3 : p.a3 = q.a3 := Decidable.by_contra fun e => h3 fun _ _ _ => e
            have f0 : p.l0 = q.l0 := Decidable.by_contra fun e => h5 fun a => absurd a e
            have f1 : p.l1 = q.l1 := Decidable.by_contra fun e => h5 fun _ a => absurd a e
            have f2 : p.l2 = q.l2 := Decidable.by_contra fun e => h5 fun _ _ => e
            cases p; cases q; simp_all
        · rw [if_neg h4]
    · rw [if_neg h2]
  · rw [if_neg h1]
set_option maxRecDepth 100000 in
set_option maxHeartbeats 16000000 in
theorem porder_any (p : Pa) (q : Pa) (s : Pa) (w : World) (okp : PaOk p) (okq : PaOk q) (oks : PaOk s) : Calls Try.prog 10 #[.agg #[.int .i64 p.f, .int .i64 p.k, .int .u32 p.a0, .int .u32 p.a1, .int .u32 p.a2, .int .u32 p.a3, .int .i64 p.u, .int .u32 p.l0, .int .u32 p.l1, .int .u32 p.l2], .agg #[.int .i64 q.f, .int .i64 q.k, .int .u32 q.a0, .int .u32 q.a1, .int .u32 q.a2, .int .u32 q.a3, .int .i64 q.u, .int .u32 q.l0, .int .u32 q.l1, .int .u32 q.l2], .agg #[.int .i64 s.f, .int .i64 s.k, .int .u32 s.a0, .int .u32 s.a1, .int .u32 s.a2, .int .u32 s.a3, .int .i64 s.u, .int .u32 s.l0, .int .u32 s.l1, .int .u32 s.l2]] w fun e' w' => e' = .returned (.bool true) ∧ Below w.heap.size w w' := by
  obtain ⟨cp, h_⟩ : ∃ c, chk p = c := ⟨_, rfl⟩
  have HC := Lib.hid h_
  clear h_
  obtain ⟨lpp, h_⟩ : ∃ r, leR p p = r := ⟨_, rfl⟩
  have Hlpp := Lib.hid h_
  clear h_
  obtain ⟨lpq, h_⟩ : ∃ r, leR p q = r := ⟨_, rfl⟩
  have Hlpq := Lib.hid h_
  clear h_
  obtain ⟨lps, h_⟩ : ∃ r, leR p s = r := ⟨_, rfl⟩
  have Hlps := Lib.hid h_
  clear h_
  obtain ⟨lqp, h_⟩ : ∃ r, leR q p = r := ⟨_, rfl⟩
  have Hlqp := Lib.hid h_
  clear h_
  obtain ⟨lqs, h_⟩ : ∃ r, leR q s = r := ⟨_, rfl⟩
  have Hlqs := Lib.hid h_
  clear h_
  obtain ⟨cpq, h_⟩ : ∃ r, compareR p q = r := ⟨_, rfl⟩
  have Hcpq := Lib.hid h_
  clear h_
  obtain ⟨cqs, h_⟩ : ∃ r, compareR q s = r := ⟨_, rfl⟩
  have Hcqs := Lib.hid h_
  clear h_
  obtain ⟨cps, h_⟩ : ∃ r, compareR p s = r := ⟨_, rfl⟩
  have Hcps := Lib.hid h_
  clear h_
  obtain ⟨cqp, h_⟩ : ∃ r, compareR q p = r := ⟨_, rfl⟩
  have Hcqp := Lib.hid h_
  clear h_
  go_enter Try.func10, Try.ntmps10
  go_upto_region 1 with (fail)
  have hp : Row (((w.alloc (.cells #[.int .i64 p.f, .int .i64 p.k, .int .u32 p.a0, .int .u32 p.a1, .int .u32 p.a2, .int .u32 p.a3, .int .i64 p.u, .int .u32 p.l0, .int .u32 p.l1, .int .u32 p.l2] 30)).alloc (.cells #[.int .i64 q.f, .int .i64 q.k, .int .u32 q.a0, .int .u32 q.a1, .int .u32 q.a2, .int .u32 q.a3, .int .i64 q.u, .int .u32 q.l0, .int .u32 q.l1, .int .u32 q.l2] 30)).alloc (.cells #[.int .i64 s.f, .int .i64 s.k, .int .u32 s.a0, .int .u32 s.a1, .int .u32 s.a2, .int .u32 s.a3, .int .i64 s.u, .int .u32 s.l0, .int .u32 s.l1, .int .u32 s.l2] 30)) (w.heap.size) #[.int .i64 p.f, .int .i64 p.k, .int .u32 p.a0, .int .u32 p.a1, .int .u32 p.a2, .int .u32 p.a3, .int .i64 p.u, .int .u32 p.l0, .int .u32 p.l1, .int .u32 p.l2] 30 := by simpa using ((Row.new w #[.int .i64 p.f, .int .i64 p.k, .int .u32 p.a0, .int .u32 p.a1, .int .u32 p.a2, .int .u32 p.a3, .int .i64 p.u, .int .u32 p.l0, .int .u32 p.l1, .int .u32 p.l2] 30).alloc (.cells #[.int .i64 q.f, .int .i64 q.k, .int .u32 q.a0, .int .u32 q.a1, .int .u32 q.a2, .int .u32 q.a3, .int .i64 q.u, .int .u32 q.l0, .int .u32 q.l1, .int .u32 q.l2] 30)).alloc (.cells #[.int .i64 s.f, .int .i64 s.k, .int .u32 s.a0, .int .u32 s.a1, .int .u32 s.a2, .int .u32 s.a3, .int .i64 s.u, .int .u32 s.l0, .int .u32 s.l1, .int .u32 s.l2] 30)
  have hq : Row (((w.alloc (.cells #[.int .i64 p.f, .int .i64 p.k, .int .u32 p.a0, .int .u32 p.a1, .int .u32 p.a2, .int .u32 p.a3, .int .i64 p.u, .int .u32 p.l0, .int .u32 p.l1, .int .u32 p.l2] 30)).alloc (.cells #[.int .i64 q.f, .int .i64 q.k, .int .u32 q.a0, .int .u32 q.a1, .int .u32 q.a2, .int .u32 q.a3, .int .i64 q.u, .int .u32 q.l0, .int .u32 q.l1, .int .u32 q.l2] 30)).alloc (.cells #[.int .i64 s.f, .int .i64 s.k, .int .u32 s.a0, .int .u32 s.a1, .int .u32 s.a2, .int .u32 s.a3, .int .i64 s.u, .int .u32 s.l0, .int .u32 s.l1, .int .u32 s.l2] 30)) (w.heap.size + 1) #[.int .i64 q.f, .int .i64 q.k, .int .u32 q.a0, .int .u32 q.a1, .int .u32 q.a2, .int .u32 q.a3, .int .i64 q.u, .int .u32 q.l0, .int .u32 q.l1, .int .u32 q.l2] 30 := by simpa using (Row.new (w.alloc (.cells #[.int .i64 p.f, .int .i64 p.k, .int .u32 p.a0, .int .u32 p.a1, .int .u32 p.a2, .int .u32 p.a3, .int .i64 p.u, .int .u32 p.l0, .int .u32 p.l1, .int .u32 p.l2] 30)) #[.int .i64 q.f, .int .i64 q.k, .int .u32 q.a0, .int .u32 q.a1, .int .u32 q.a2, .int .u32 q.a3, .int .i64 q.u, .int .u32 q.l0, .int .u32 q.l1, .int .u32 q.l2] 30).alloc (.cells #[.int .i64 s.f, .int .i64 s.k, .int .u32 s.a0, .int .u32 s.a1, .int .u32 s.a2, .int .u32 s.a3, .int .i64 s.u, .int .u32 s.l0, .int .u32 s.l1, .int .u32 s.l2] 30)
  have hs : Row (((w.alloc (.cells #[.int .i64 p.f, .int .i64 p.k, .int .u32 p.a0, .int .u32 p.a1, .int .u32 p.a2, .int .u32 p.a3, .int .i64 p.u, .int .u32 p.l0, .int .u32 p.l1, .int .u32 p.l2] 30)).alloc (.cells #[.int .i64 q.f, .int .i64 q.k, .int .u32 q.a0, .int .u32 q.a1, .int .u32 q.a2, .int .u32 q.a3, .int .i64 q.u, .int .u32 q.l0, .int .u32 q.l1, .int .u32 q.l2] 30)).alloc (.cells #[.int .i64 s.f, .int .i64 s.k, .int .u32 s.a0, .int .u32 s.a1, .int .u32 s.a2, .int .u32 s.a3, .int .i64 s.u, .int .u32 s.l0, .int .u32 s.l1, .int .u32 s.l2] 30)) (w.heap.size + 1 + 1) #[.int .i64 s.f, .int .i64 s.k, .int .u32 s.a0, .int .u32 s.a1, .int .u32 s.a2, .int .u32 s.a3, .int .i64 s.u, .int .u32 s.l0, .int .u32 s.l1, .int .u32 s.l2] 30 := by simpa using Row.new ((w.alloc (.cells #[.int .i64 p.f, .int .i64 p.k, .int .u32 p.a0, .int .u32 p.a1, .int .u32 p.a2, .int .u32 p.a3, .int .i64 p.u, .int .u32 p.l0, .int .u32 p.l1, .int .u32 p.l2] 30)).alloc (.cells #[.int .i64 q.f, .int .i64 q.k, .int .u32 q.a0, .int .u32 q.a1, .int .u32 q.a2, .int .u32 q.a3, .int .i64 q.u, .int .u32 q.l0, .int .u32 q.l1, .int .u32 q.l2] 30)) #[.int .i64 s.f, .int .i64 s.k, .int .u32 s.a0, .int .u32 s.a1, .int .u32 s.a2, .int .u32 s.a3, .int .i64 s.u, .int .u32 s.l0, .int .u32 s.l1, .int .u32 s.l2] 30
  have hz : Below w.heap.size w (((w.alloc (.cells #[.int .i64 p.f, .int .i64 p.k, .int .u32 p.a0, .int .u32 p.a1, .int .u32 p.a2, .int .u32 p.a3, .int .i64 p.u, .int .u32 p.l0, .int .u32 p.l1, .int .u32 p.l2] 30)).alloc (.cells #[.int .i64 q.f, .int .i64 q.k, .int .u32 q.a0, .int .u32 q.a1, .int .u32 q.a2, .int .u32 q.a3, .int .i64 q.u, .int .u32 q.l0, .int .u32 q.l1, .int .u32 q.l2] 30)).alloc (.cells #[.int .i64 s.f, .int .i64 s.k, .int .u32 s.a0, .int .u32 s.a1, .int .u32 s.a2, .int .u32 s.a3, .int .i64 s.u, .int .u32 s.l0, .int .u32 s.l1, .int .u32 s.l2] 30)) := below_of (below_of (below_new _ _) (below_new _ _)) (below_new _ _)
  have HZ := Lib.hid hz
  clear hz
  generalize (((w.alloc (.cells #[.int .i64 p.f, .int .i64 p.k, .int .u32 p.a0, .int .u32 p.a1, .int .u32 p.a2, .int .u32 p.a3, .int .i64 p.u, .int .u32 p.l0, .int .u32 p.l1, .int .u32 p.l2] 30)).alloc (.cells #[.int .i64 q.f, .int .i64 q.k, .int .u32 q.a0, .int .u32 q.a1, .int .u32 q.a2, .int .u32 q.a3, .int .i64 q.u, .int .u32 q.l0, .int .u32 q.l1, .int .u32 q.l2] 30)).alloc (.cells #[.int .i64 s.f, .int .i64 s.k, .int .u32 s.a0, .int .u32 s.a1, .int .u32 s.a2, .int .u32 s.a3, .int .i64 s.u, .int .u32 s.l0, .int .u32 s.l1, .int .u32 s.l2] 30)) = wc at hp hq hs HZ ⊢
  generalize w.heap.size = Bp at hp hq hs ⊢
  generalize Bp + 1 = Bq at hq hs ⊢
  generalize Bq + 1 = Bs at hs ⊢
  have hz := HZ.out
  clear HZ
  go_upto_region 3 with (go_at_call 37; (with_reducible refine (works_any _).mono ?_); rintro e' w1 ⟨rfl, hb1⟩; replace hp := hp.below hb1; replace hq := hq.below hb1; replace hs := hs.below hb1; replace hz := below_of hz hb1; clear hb1)
  clear wc
  obtain ⟨wc, rfl⟩ : ∃ wc, wc = w1 := ⟨_, rfl⟩
  have Hhp := Lib.hid hp
  have Hhq := Lib.hid hq
  have Hhs := Lib.hid hs
  clear hp hq hs
  refine region_gen (A3 wc p q s) (by kernel_rfl) (by kernel_rfl) (A3.start _ _ _ _) ?_
  repeat
    (refine step_gen (by decide) (by rfl) (fun K hK => ?_)
     go_simp
     first
       | (with_reducible apply H1.one
          · intro σ wv hk hd hv
            have Hv := Lib.hid hv
            have qp := Hhp.out.below hv.p.b
            obtain ⟨p_0, p_1, p_2, p_3, p_4, p_5, p_6, p_7, p_8, p_9, p_f⟩ := qp.ten
            clear qp
            have qq := Hhq.out.below hv.p.b
            obtain ⟨q_0, q_1, q_2, q_3, q_4, q_5, q_6, q_7, q_8, q_9, q_f⟩ := qq.ten
            clear qq
            have qs := Hhs.out.below hv.p.b
            obtain ⟨s_0, s_1, s_2, s_3, s_4, s_5, s_6, s_7, s_8, s_9, s_f⟩ := qs.ten
            clear qs
            try (have z_ := (hv.p.row (hd.get 6 (List.mem_cons_of_mem _ (List.mem_cons_of_mem _ (List.mem_cons_self ..))) (by kernel_rfl)) hk).2; obtain ⟨x_0, x_1, x_2, x_3, x_4, x_5, x_6, x_7, x_8, x_9, x_f⟩ := z_.ten; clear z_)
            try (have z_ := (hv.q.row (hd.get 7 (List.mem_cons_of_mem _ (List.mem_cons_self ..)) (by kernel_rfl)) hk).2; obtain ⟨x_0, x_1, x_2, x_3, x_4, x_5, x_6, x_7, x_8, x_9, x_f⟩ := z_.ten; clear z_)
            try (have z_ := (hv.s.row (hd.get 8 (List.mem_cons_self ..) (by kernel_rfl)) hk).2; obtain ⟨x_0, x_1, x_2, x_3, x_4, x_5, x_6, x_7, x_8, x_9, x_f⟩ := z_.ten; clear z_)
            clear hv
            go_simp
            (first
              | (go_at_call 23; (with_reducible refine (law_to p _).mono ?_); rintro e' w1 ⟨rfl, hb1⟩; exact ⟨_, rfl, rfl, Hv.out.call hb1 (by decide)⟩)
              | (go_at_call 23; (with_reducible refine (law_to q _).mono ?_); rintro e' w1 ⟨rfl, hb1⟩; exact ⟨_, rfl, rfl, Hv.out.call hb1 (by decide)⟩)
              | (go_at_call 23; (with_reducible refine (law_to s _).mono ?_); rintro e' w1 ⟨rfl, hb1⟩; exact ⟨_, rfl, rfl, Hv.out.call hb1 (by decide)⟩)
              | (with_reducible refine ⟨rfl, ?_⟩; first | (with_reducible exact A3.pure Hv.out (by decide)) | (with_reducible exact A3.store9 Hv.out (hd.get 6 (List.mem_cons_of_mem _ (List.mem_cons_of_mem _ (List.mem_cons_self ..))) (by kernel_rfl)) hk) | (with_reducible exact A3.store10 Hv.out (hd.get 7 (List.mem_cons_of_mem _ (List.mem_cons_self ..)) (by kernel_rfl)) hk) | (with_reducible exact A3.store11 Hv.out (hd.get 8 (List.mem_cons_self ..) (by kernel_rfl)) hk)))
          refine hK _ _ _ ?_
          clear hK K)
       | (with_reducible refine H1.any IsPtr ⟨_, IsPtr.mk 0⟩ ?_ ?_
          · intro σ wv hk hd hv
            have Hv := Lib.hid hv
            go_simp
            first | (exact ⟨IsPtr.mk _, Hv.out.alloc6 hk⟩) | (exact ⟨IsPtr.mk _, Hv.out.alloc7 hk⟩) | (exact ⟨IsPtr.mk _, Hv.out.alloc8 hk⟩)
          intro v_ hv_
          obtain ⟨X, rfl⟩ := hv_
          refine hK _ _ _ ?_
          clear hK K)
       | (with_reducible apply Sk.of
          · (intro σ wv hk hv; exact hv.pure (by decide))
          refine hK _ _ _ ?_
          clear hK K))
  refine nil_gen ?_
  intro σ wn hσ hT hq
  obtain ⟨hbn, ha⟩ := hq.p.done hσ (by decide) (hT _ (List.mem_cons_of_mem _ (List.mem_cons_of_mem _ (List.mem_cons_self ..))))
  have hb := (hq.q.done hσ (by decide) (hT _ (List.mem_cons_of_mem _ (List.mem_cons_self ..)))).2
  have hc := (hq.s.done hσ (by decide) (hT _ (List.mem_cons_self ..))).2
  clear hσ hT hq
  have hp := Hhp.out.below hbn
  have hq := Hhq.out.below hbn
  have hs := Hhs.out.below hbn
  replace hz := below_of hz hbn
  clear Hhp Hhq Hhs hbn wc
  obtain ⟨wc, rfl⟩ : ∃ wc, wc = wn := ⟨_, rfl⟩
  try simp only [Act.put, List.setIfInBounds_toArray, List.set_cons_zero, List.set_cons_succ]
  go_upto_region 4 with (fail)
  go_cut [57] (fun vt wr => vt = .bool false ∧ Below wc.heap.size wc wr)
  case first =>
    have hy : Below wc.heap.size wc wc := Below.refl _ _
    rcases lpq with _ | _
    · by_cases hcp : cp = 0
      · subst hcp
        have hpp := le_refl' HC.out
        rw [Hlpp.out] at hpp
        subst hpp
        obtain ⟨p_0, p_1, p_2, p_3, p_4, p_5, p_6, p_7, p_8, p_9, p_f⟩ := hp.ten
        obtain ⟨q_0, q_1, q_2, q_3, q_4, q_5, q_6, q_7, q_8, q_9, q_f⟩ := hq.ten
        obtain ⟨a_0, a_1, a_2, a_3, a_4, a_5, a_6, a_7, a_8, a_9, a_f⟩ := ha.ten
        obtain ⟨b_0, b_1, b_2, b_3, b_4, b_5, b_6, b_7, b_8, b_9, b_f⟩ := hb.ten
        obtain ⟨c_0, c_1, c_2, c_3, c_4, c_5, c_6, c_7, c_8, c_9, c_f⟩ := hc.ten
        go_wp2_with (first | (go_at_call 29; (with_reducible refine (le_any p p _).mono ?_); rw [Hlpp.out]; rintro e' w1 ⟨rfl, hb1⟩; replace hp := hp.below hb1; replace hq := hq.below hb1; replace hs := hs.below hb1; replace ha := ha.below hb1; replace hb := hb.below hb1; replace hc := hc.below hb1; replace hz := below_of hz hb1; replace hy := below_of hy hb1; clear hb1; clear p_0 p_1 p_2 p_3 p_4 p_5 p_6 p_7 p_8 p_9 p_f q_0 q_1 q_2 q_3 q_4 q_5 q_6 q_7 q_8 q_9 q_f a_0 a_1 a_2 a_3 a_4 a_5 a_6 a_7 a_8 a_9 a_f b_0 b_1 b_2 b_3 b_4 b_5 b_6 b_7 b_8 b_9 b_f c_0 c_1 c_2 c_3 c_4 c_5 c_6 c_7 c_8 c_9 c_f; obtain ⟨p_0, p_1, p_2, p_3, p_4, p_5, p_6, p_7, p_8, p_9, p_f⟩ := hp.ten; obtain ⟨q_0, q_1, q_2, q_3, q_4, q_5, q_6, q_7, q_8, q_9, q_f⟩ := hq.ten; obtain ⟨a_0, a_1, a_2, a_3, a_4, a_5, a_6, a_7, a_8, a_9, a_f⟩ := ha.ten; obtain ⟨b_0, b_1, b_2, b_3, b_4, b_5, b_6, b_7, b_8, b_9, b_f⟩ := hb.ten; obtain ⟨c_0, c_1, c_2, c_3, c_4, c_5, c_6, c_7, c_8, c_9, c_f⟩ := hc.ten) | (go_at_call 29; (with_reducible refine (le_any p q _).mono ?_); rw [Hlpq.out]; rintro e' w1 ⟨rfl, hb1⟩; replace hp := hp.below hb1; replace hq := hq.below hb1; replace hs := hs.below hb1; replace ha := ha.below hb1; replace hb := hb.below hb1; replace hc := hc.below hb1; replace hz := below_of hz hb1; replace hy := below_of hy hb1; clear hb1; clear p_0 p_1 p_2 p_3 p_4 p_5 p_6 p_7 p_8 p_9 p_f q_0 q_1 q_2 q_3 q_4 q_5 q_6 q_7 q_8 q_9 q_f a_0 a_1 a_2 a_3 a_4 a_5 a_6 a_7 a_8 a_9 a_f b_0 b_1 b_2 b_3 b_4 b_5 b_6 b_7 b_8 b_9 b_f c_0 c_1 c_2 c_3 c_4 c_5 c_6 c_7 c_8 c_9 c_f; obtain ⟨p_0, p_1, p_2, p_3, p_4, p_5, p_6, p_7, p_8, p_9, p_f⟩ := hp.ten; obtain ⟨q_0, q_1, q_2, q_3, q_4, q_5, q_6, q_7, q_8, q_9, q_f⟩ := hq.ten; obtain ⟨a_0, a_1, a_2, a_3, a_4, a_5, a_6, a_7, a_8, a_9, a_f⟩ := ha.ten; obtain ⟨b_0, b_1, b_2, b_3, b_4, b_5, b_6, b_7, b_8, b_9, b_f⟩ := hb.ten; obtain ⟨c_0, c_1, c_2, c_3, c_4, c_5, c_6, c_7, c_8, c_9, c_f⟩ := hc.ten) | (go_at_call 29; (with_reducible refine (le_any p s _).mono ?_); rw [Hlps.out]; rintro e' w1 ⟨rfl, hb1⟩; replace hp := hp.below hb1; replace hq := hq.below hb1; replace hs := hs.below hb1; replace ha := ha.below hb1; replace hb := hb.below hb1; replace hc := hc.below hb1; replace hz := below_of hz hb1; replace hy := below_of hy hb1; clear hb1; clear p_0 p_1 p_2 p_3 p_4 p_5 p_6 p_7 p_8 p_9 p_f q_0 q_1 q_2 q_3 q_4 q_5 q_6 q_7 q_8 q_9 q_f a_0 a_1 a_2 a_3 a_4 a_5 a_6 a_7 a_8 a_9 a_f b_0 b_1 b_2 b_3 b_4 b_5 b_6 b_7 b_8 b_9 b_f c_0 c_1 c_2 c_3 c_4 c_5 c_6 c_7 c_8 c_9 c_f; obtain ⟨p_0, p_1, p_2, p_3, p_4, p_5, p_6, p_7, p_8, p_9, p_f⟩ := hp.ten; obtain ⟨q_0, q_1, q_2, q_3, q_4, q_5, q_6, q_7, q_8, q_9, q_f⟩ := hq.ten; obtain ⟨a_0, a_1, a_2, a_3, a_4, a_5, a_6, a_7, a_8, a_9, a_f⟩ := ha.ten; obtain ⟨b_0, b_1, b_2, b_3, b_4, b_5, b_6, b_7, b_8, b_9, b_f⟩ := hb.ten; obtain ⟨c_0, c_1, c_2, c_3, c_4, c_5, c_6, c_7, c_8, c_9, c_f⟩ := hc.ten) | (go_at_call 29; (with_reducible refine (le_any q p _).mono ?_); rw [Hlqp.out]; rintro e' w1 ⟨rfl, hb1⟩; replace hp := hp.below hb1; replace hq := hq.below hb1; replace hs := hs.below hb1; replace ha := ha.below hb1; replace hb := hb.below hb1; replace hc := hc.below hb1; replace hz := below_of hz hb1; replace hy := below_of hy hb1; clear hb1; clear p_0 p_1 p_2 p_3 p_4 p_5 p_6 p_7 p_8 p_9 p_f q_0 q_1 q_2 q_3 q_4 q_5 q_6 q_7 q_8 q_9 q_f a_0 a_1 a_2 a_3 a_4 a_5 a_6 a_7 a_8 a_9 a_f b_0 b_1 b_2 b_3 b_4 b_5 b_6 b_7 b_8 b_9 b_f c_0 c_1 c_2 c_3 c_4 c_5 c_6 c_7 c_8 c_9 c_f; obtain ⟨p_0, p_1, p_2, p_3, p_4, p_5, p_6, p_7, p_8, p_9, p_f⟩ := hp.ten; obtain ⟨q_0, q_1, q_2, q_3, q_4, q_5, q_6, q_7, q_8, q_9, q_f⟩ := hq.ten; obtain ⟨a_0, a_1, a_2, a_3, a_4, a_5, a_6, a_7, a_8, a_9, a_f⟩ := ha.ten; obtain ⟨b_0, b_1, b_2, b_3, b_4, b_5, b_6, b_7, b_8, b_9, b_f⟩ := hb.ten; obtain ⟨c_0, c_1, c_2, c_3, c_4, c_5, c_6, c_7, c_8, c_9, c_f⟩ := hc.ten) | (go_at_call 29; (with_reducible refine (le_any q s _).mono ?_); rw [Hlqs.out]; rintro e' w1 ⟨rfl, hb1⟩; replace hp := hp.below hb1; replace hq := hq.below hb1; replace hs := hs.below hb1; replace ha := ha.below hb1; replace hb := hb.below hb1; replace hc := hc.below hb1; replace hz := below_of hz hb1; replace hy := below_of hy hb1; clear hb1; clear p_0 p_1 p_2 p_3 p_4 p_5 p_6 p_7 p_8 p_9 p_f q_0 q_1 q_2 q_3 q_4 q_5 q_6 q_7 q_8 q_9 q_f a_0 a_1 a_2 a_3 a_4 a_5 a_6 a_7 a_8 a_9 a_f b_0 b_1 b_2 b_3 b_4 b_5 b_6 b_7 b_8 b_9 b_f c_0 c_1 c_2 c_3 c_4 c_5 c_6 c_7 c_8 c_9 c_f; obtain ⟨p_0, p_1, p_2, p_3, p_4, p_5, p_6, p_7, p_8, p_9, p_f⟩ := hp.ten; obtain ⟨q_0, q_1, q_2, q_3, q_4, q_5, q_6, q_7, q_8, q_9, q_f⟩ := hq.ten; obtain ⟨a_0, a_1, a_2, a_3, a_4, a_5, a_6, a_7, a_8, a_9, a_f⟩ := ha.ten; obtain ⟨b_0, b_1, b_2, b_3, b_4, b_5, b_6, b_7, b_8, b_9, b_f⟩ := hb.ten; obtain ⟨c_0, c_1, c_2, c_3, c_4, c_5, c_6, c_7, c_8, c_9, c_f⟩ := hc.ten) | (go_at_call 22; (with_reducible refine (check_all p.f p.k p.a0 p.a1 p.a2 p.a3 p.u p.l0 p.l1 p.l2 _ _ HC.out).mono ?_); rintro e' w1 ⟨rfl, hb1⟩; replace hp := hp.below hb1; replace hq := hq.below hb1; replace hs := hs.below hb1; replace ha := ha.below hb1; replace hb := hb.below hb1; replace hc := hc.below hb1; replace hz := below_of hz hb1; replace hy := below_of hy hb1; clear hb1; clear p_0 p_1 p_2 p_3 p_4 p_5 p_6 p_7 p_8 p_9 p_f q_0 q_1 q_2 q_3 q_4 q_5 q_6 q_7 q_8 q_9 q_f a_0 a_1 a_2 a_3 a_4 a_5 a_6 a_7 a_8 a_9 a_f b_0 b_1 b_2 b_3 b_4 b_5 b_6 b_7 b_8 b_9 b_f c_0 c_1 c_2 c_3 c_4 c_5 c_6 c_7 c_8 c_9 c_f; obtain ⟨p_0, p_1, p_2, p_3, p_4, p_5, p_6, p_7, p_8, p_9, p_f⟩ := hp.ten; obtain ⟨q_0, q_1, q_2, q_3, q_4, q_5, q_6, q_7, q_8, q_9, q_f⟩ := hq.ten; obtain ⟨a_0, a_1, a_2, a_3, a_4, a_5, a_6, a_7, a_8, a_9, a_f⟩ := ha.ten; obtain ⟨b_0, b_1, b_2, b_3, b_4, b_5, b_6, b_7, b_8, b_9, b_f⟩ := hb.ten; obtain ⟨c_0, c_1, c_2, c_3, c_4, c_5, c_6, c_7, c_8, c_9, c_f⟩ := hc.ten))
        go_meet
        case rel => exact ⟨rfl, hy⟩
      · have hcpb : (cp == 0) = false := by simp [hcp]
        clear hcp
        obtain ⟨p_0, p_1, p_2, p_3, p_4, p_5, p_6, p_7, p_8, p_9, p_f⟩ := hp.ten
        obtain ⟨q_0, q_1, q_2, q_3, q_4, q_5, q_6, q_7, q_8, q_9, q_f⟩ := hq.ten
        obtain ⟨a_0, a_1, a_2, a_3, a_4, a_5, a_6, a_7, a_8, a_9, a_f⟩ := ha.ten
        obtain ⟨b_0, b_1, b_2, b_3, b_4, b_5, b_6, b_7, b_8, b_9, b_f⟩ := hb.ten
        obtain ⟨c_0, c_1, c_2, c_3, c_4, c_5, c_6, c_7, c_8, c_9, c_f⟩ := hc.ten
        go_wp2_with (first | (go_at_call 29; (with_reducible refine (le_any p p _).mono ?_); rw [Hlpp.out]; rintro e' w1 ⟨rfl, hb1⟩; replace hp := hp.below hb1; replace hq := hq.below hb1; replace hs := hs.below hb1; replace ha := ha.below hb1; replace hb := hb.below hb1; replace hc := hc.below hb1; replace hz := below_of hz hb1; replace hy := below_of hy hb1; clear hb1; clear p_0 p_1 p_2 p_3 p_4 p_5 p_6 p_7 p_8 p_9 p_f q_0 q_1 q_2 q_3 q_4 q_5 q_6 q_7 q_8 q_9 q_f a_0 a_1 a_2 a_3 a_4 a_5 a_6 a_7 a_8 a_9 a_f b_0 b_1 b_2 b_3 b_4 b_5 b_6 b_7 b_8 b_9 b_f c_0 c_1 c_2 c_3 c_4 c_5 c_6 c_7 c_8 c_9 c_f; obtain ⟨p_0, p_1, p_2, p_3, p_4, p_5, p_6, p_7, p_8, p_9, p_f⟩ := hp.ten; obtain ⟨q_0, q_1, q_2, q_3, q_4, q_5, q_6, q_7, q_8, q_9, q_f⟩ := hq.ten; obtain ⟨a_0, a_1, a_2, a_3, a_4, a_5, a_6, a_7, a_8, a_9, a_f⟩ := ha.ten; obtain ⟨b_0, b_1, b_2, b_3, b_4, b_5, b_6, b_7, b_8, b_9, b_f⟩ := hb.ten; obtain ⟨c_0, c_1, c_2, c_3, c_4, c_5, c_6, c_7, c_8, c_9, c_f⟩ := hc.ten) | (go_at_call 29; (with_reducible refine (le_any p q _).mono ?_); rw [Hlpq.out]; rintro e' w1 ⟨rfl, hb1⟩; replace hp := hp.below hb1; replace hq := hq.below hb1; replace hs := hs.below hb1; replace ha := ha.below hb1; replace hb := hb.below hb1; replace hc := hc.below hb1; replace hz := below_of hz hb1; replace hy := below_of hy hb1; clear hb1; clear p_0 p_1 p_2 p_3 p_4 p_5 p_6 p_7 p_8 p_9 p_f q_0 q_1 q_2 q_3 q_4 q_5 q_6 q_7 q_8 q_9 q_f a_0 a_1 a_2 a_3 a_4 a_5 a_6 a_7 a_8 a_9 a_f b_0 b_1 b_2 b_3 b_4 b_5 b_6 b_7 b_8 b_9 b_f c_0 c_1 c_2 c_3 c_4 c_5 c_6 c_7 c_8 c_9 c_f; obtain ⟨p_0, p_1, p_2, p_3, p_4, p_5, p_6, p_7, p_8, p_9, p_f⟩ := hp.ten; obtain ⟨q_0, q_1, q_2, q_3, q_4, q_5, q_6, q_7, q_8, q_9, q_f⟩ := hq.ten; obtain ⟨a_0, a_1, a_2, a_3, a_4, a_5, a_6, a_7, a_8, a_9, a_f⟩ := ha.ten; obtain ⟨b_0, b_1, b_2, b_3, b_4, b_5, b_6, b_7, b_8, b_9, b_f⟩ := hb.ten; obtain ⟨c_0, c_1, c_2, c_3, c_4, c_5, c_6, c_7, c_8, c_9, c_f⟩ := hc.ten) | (go_at_call 29; (with_reducible refine (le_any p s _).mono ?_); rw [Hlps.out]; rintro e' w1 ⟨rfl, hb1⟩; replace hp := hp.below hb1; replace hq := hq.below hb1; replace hs := hs.below hb1; replace ha := ha.below hb1; replace hb := hb.below hb1; replace hc := hc.below hb1; replace hz := below_of hz hb1; replace hy := below_of hy hb1; clear hb1; clear p_0 p_1 p_2 p_3 p_4 p_5 p_6 p_7 p_8 p_9 p_f q_0 q_1 q_2 q_3 q_4 q_5 q_6 q_7 q_8 q_9 q_f a_0 a_1 a_2 a_3 a_4 a_5 a_6 a_7 a_8 a_9 a_f b_0 b_1 b_2 b_3 b_4 b_5 b_6 b_7 b_8 b_9 b_f c_0 c_1 c_2 c_3 c_4 c_5 c_6 c_7 c_8 c_9 c_f; obtain ⟨p_0, p_1, p_2, p_3, p_4, p_5, p_6, p_7, p_8, p_9, p_f⟩ := hp.ten; obtain ⟨q_0, q_1, q_2, q_3, q_4, q_5, q_6, q_7, q_8, q_9, q_f⟩ := hq.ten; obtain ⟨a_0, a_1, a_2, a_3, a_4, a_5, a_6, a_7, a_8, a_9, a_f⟩ := ha.ten; obtain ⟨b_0, b_1, b_2, b_3, b_4, b_5, b_6, b_7, b_8, b_9, b_f⟩ := hb.ten; obtain ⟨c_0, c_1, c_2, c_3, c_4, c_5, c_6, c_7, c_8, c_9, c_f⟩ := hc.ten) | (go_at_call 29; (with_reducible refine (le_any q p _).mono ?_); rw [Hlqp.out]; rintro e' w1 ⟨rfl, hb1⟩; replace hp := hp.below hb1; replace hq := hq.below hb1; replace hs := hs.below hb1; replace ha := ha.below hb1; replace hb := hb.below hb1; replace hc := hc.below hb1; replace hz := below_of hz hb1; replace hy := below_of hy hb1; clear hb1; clear p_0 p_1 p_2 p_3 p_4 p_5 p_6 p_7 p_8 p_9 p_f q_0 q_1 q_2 q_3 q_4 q_5 q_6 q_7 q_8 q_9 q_f a_0 a_1 a_2 a_3 a_4 a_5 a_6 a_7 a_8 a_9 a_f b_0 b_1 b_2 b_3 b_4 b_5 b_6 b_7 b_8 b_9 b_f c_0 c_1 c_2 c_3 c_4 c_5 c_6 c_7 c_8 c_9 c_f; obtain ⟨p_0, p_1, p_2, p_3, p_4, p_5, p_6, p_7, p_8, p_9, p_f⟩ := hp.ten; obtain ⟨q_0, q_1, q_2, q_3, q_4, q_5, q_6, q_7, q_8, q_9, q_f⟩ := hq.ten; obtain ⟨a_0, a_1, a_2, a_3, a_4, a_5, a_6, a_7, a_8, a_9, a_f⟩ := ha.ten; obtain ⟨b_0, b_1, b_2, b_3, b_4, b_5, b_6, b_7, b_8, b_9, b_f⟩ := hb.ten; obtain ⟨c_0, c_1, c_2, c_3, c_4, c_5, c_6, c_7, c_8, c_9, c_f⟩ := hc.ten) | (go_at_call 29; (with_reducible refine (le_any q s _).mono ?_); rw [Hlqs.out]; rintro e' w1 ⟨rfl, hb1⟩; replace hp := hp.below hb1; replace hq := hq.below hb1; replace hs := hs.below hb1; replace ha := ha.below hb1; replace hb := hb.below hb1; replace hc := hc.below hb1; replace hz := below_of hz hb1; replace hy := below_of hy hb1; clear hb1; clear p_0 p_1 p_2 p_3 p_4 p_5 p_6 p_7 p_8 p_9 p_f q_0 q_1 q_2 q_3 q_4 q_5 q_6 q_7 q_8 q_9 q_f a_0 a_1 a_2 a_3 a_4 a_5 a_6 a_7 a_8 a_9 a_f b_0 b_1 b_2 b_3 b_4 b_5 b_6 b_7 b_8 b_9 b_f c_0 c_1 c_2 c_3 c_4 c_5 c_6 c_7 c_8 c_9 c_f; obtain ⟨p_0, p_1, p_2, p_3, p_4, p_5, p_6, p_7, p_8, p_9, p_f⟩ := hp.ten; obtain ⟨q_0, q_1, q_2, q_3, q_4, q_5, q_6, q_7, q_8, q_9, q_f⟩ := hq.ten; obtain ⟨a_0, a_1, a_2, a_3, a_4, a_5, a_6, a_7, a_8, a_9, a_f⟩ := ha.ten; obtain ⟨b_0, b_1, b_2, b_3, b_4, b_5, b_6, b_7, b_8, b_9, b_f⟩ := hb.ten; obtain ⟨c_0, c_1, c_2, c_3, c_4, c_5, c_6, c_7, c_8, c_9, c_f⟩ := hc.ten) | (go_at_call 22; (with_reducible refine (check_all p.f p.k p.a0 p.a1 p.a2 p.a3 p.u p.l0 p.l1 p.l2 _ _ HC.out).mono ?_); rintro e' w1 ⟨rfl, hb1⟩; replace hp := hp.below hb1; replace hq := hq.below hb1; replace hs := hs.below hb1; replace ha := ha.below hb1; replace hb := hb.below hb1; replace hc := hc.below hb1; replace hz := below_of hz hb1; replace hy := below_of hy hb1; clear hb1; clear p_0 p_1 p_2 p_3 p_4 p_5 p_6 p_7 p_8 p_9 p_f q_0 q_1 q_2 q_3 q_4 q_5 q_6 q_7 q_8 q_9 q_f a_0 a_1 a_2 a_3 a_4 a_5 a_6 a_7 a_8 a_9 a_f b_0 b_1 b_2 b_3 b_4 b_5 b_6 b_7 b_8 b_9 b_f c_0 c_1 c_2 c_3 c_4 c_5 c_6 c_7 c_8 c_9 c_f; obtain ⟨p_0, p_1, p_2, p_3, p_4, p_5, p_6, p_7, p_8, p_9, p_f⟩ := hp.ten; obtain ⟨q_0, q_1, q_2, q_3, q_4, q_5, q_6, q_7, q_8, q_9, q_f⟩ := hq.ten; obtain ⟨a_0, a_1, a_2, a_3, a_4, a_5, a_6, a_7, a_8, a_9, a_f⟩ := ha.ten; obtain ⟨b_0, b_1, b_2, b_3, b_4, b_5, b_6, b_7, b_8, b_9, b_f⟩ := hb.ten; obtain ⟨c_0, c_1, c_2, c_3, c_4, c_5, c_6, c_7, c_8, c_9, c_f⟩ := hc.ten))
        go_meet
        case rel => exact ⟨rfl, hy⟩
    · rcases lqs with _ | _
      · rcases lqp with _ | _
        · by_cases hcp : cp = 0
          · subst hcp
            have hpp := le_refl' HC.out
            rw [Hlpp.out] at hpp
            subst hpp
            obtain ⟨p_0, p_1, p_2, p_3, p_4, p_5, p_6, p_7, p_8, p_9, p_f⟩ := hp.ten
            obtain ⟨q_0, q_1, q_2, q_3, q_4, q_5, q_6, q_7, q_8, q_9, q_f⟩ := hq.ten
            obtain ⟨a_0, a_1, a_2, a_3, a_4, a_5, a_6, a_7, a_8, a_9, a_f⟩ := ha.ten
            obtain ⟨b_0, b_1, b_2, b_3, b_4, b_5, b_6, b_7, b_8, b_9, b_f⟩ := hb.ten
            obtain ⟨c_0, c_1, c_2, c_3, c_4, c_5, c_6, c_7, c_8, c_9, c_f⟩ := hc.ten
            go_wp2_with (first | (go_at_call 29; (with_reducible refine (le_any p p _).mono ?_); rw [Hlpp.out]; rintro e' w1 ⟨rfl, hb1⟩; replace hp := hp.below hb1; replace hq := hq.below hb1; replace hs := hs.below hb1; replace ha := ha.below hb1; replace hb := hb.below hb1; replace hc := hc.below hb1; replace hz := below_of hz hb1; replace hy := below_of hy hb1; clear hb1; clear p_0 p_1 p_2 p_3 p_4 p_5 p_6 p_7 p_8 p_9 p_f q_0 q_1 q_2 q_3 q_4 q_5 q_6 q_7 q_8 q_9 q_f a_0 a_1 a_2 a_3 a_4 a_5 a_6 a_7 a_8 a_9 a_f b_0 b_1 b_2 b_3 b_4 b_5 b_6 b_7 b_8 b_9 b_f c_0 c_1 c_2 c_3 c_4 c_5 c_6 c_7 c_8 c_9 c_f; obtain ⟨p_0, p_1, p_2, p_3, p_4, p_5, p_6, p_7, p_8, p_9, p_f⟩ := hp.ten; obtain ⟨q_0, q_1, q_2, q_3, q_4, q_5, q_6, q_7, q_8, q_9, q_f⟩ := hq.ten; obtain ⟨a_0, a_1, a_2, a_3, a_4, a_5, a_6, a_7, a_8, a_9, a_f⟩ := ha.ten; obtain ⟨b_0, b_1, b_2, b_3, b_4, b_5, b_6, b_7, b_8, b_9, b_f⟩ := hb.ten; obtain ⟨c_0, c_1, c_2, c_3, c_4, c_5, c_6, c_7, c_8, c_9, c_f⟩ := hc.ten) | (go_at_call 29; (with_reducible refine (le_any p q _).mono ?_); rw [Hlpq.out]; rintro e' w1 ⟨rfl, hb1⟩; replace hp := hp.below hb1; replace hq := hq.below hb1; replace hs := hs.below hb1; replace ha := ha.below hb1; replace hb := hb.below hb1; replace hc := hc.below hb1; replace hz := below_of hz hb1; replace hy := below_of hy hb1; clear hb1; clear p_0 p_1 p_2 p_3 p_4 p_5 p_6 p_7 p_8 p_9 p_f q_0 q_1 q_2 q_3 q_4 q_5 q_6 q_7 q_8 q_9 q_f a_0 a_1 a_2 a_3 a_4 a_5 a_6 a_7 a_8 a_9 a_f b_0 b_1 b_2 b_3 b_4 b_5 b_6 b_7 b_8 b_9 b_f c_0 c_1 c_2 c_3 c_4 c_5 c_6 c_7 c_8 c_9 c_f; obtain ⟨p_0, p_1, p_2, p_3, p_4, p_5, p_6, p_7, p_8, p_9, p_f⟩ := hp.ten; obtain ⟨q_0, q_1, q_2, q_3, q_4, q_5, q_6, q_7, q_8, q_9, q_f⟩ := hq.ten; obtain ⟨a_0, a_1, a_2, a_3, a_4, a_5, a_6, a_7, a_8, a_9, a_f⟩ := ha.ten; obtain ⟨b_0, b_1, b_2, b_3, b_4, b_5, b_6, b_7, b_8, b_9, b_f⟩ := hb.ten; obtain ⟨c_0, c_1, c_2, c_3, c_4, c_5, c_6, c_7, c_8, c_9, c_f⟩ := hc.ten) | (go_at_call 29; (with_reducible refine (le_any p s _).mono ?_); rw [Hlps.out]; rintro e' w1 ⟨rfl, hb1⟩; replace hp := hp.below hb1; replace hq := hq.below hb1; replace hs := hs.below hb1; replace ha := ha.below hb1; replace hb := hb.below hb1; replace hc := hc.below hb1; replace hz := below_of hz hb1; replace hy := below_of hy hb1; clear hb1; clear p_0 p_1 p_2 p_3 p_4 p_5 p_6 p_7 p_8 p_9 p_f q_0 q_1 q_2 q_3 q_4 q_5 q_6 q_7 q_8 q_9 q_f a_0 a_1 a_2 a_3 a_4 a_5 a_6 a_7 a_8 a_9 a_f b_0 b_1 b_2 b_3 b_4 b_5 b_6 b_7 b_8 b_9 b_f c_0 c_1 c_2 c_3 c_4 c_5 c_6 c_7 c_8 c_9 c_f; obtain ⟨p_0, p_1, p_2, p_3, p_4, p_5, p_6, p_7, p_8, p_9, p_f⟩ := hp.ten; obtain ⟨q_0, q_1, q_2, q_3, q_4, q_5, q_6, q_7, q_8, q_9, q_f⟩ := hq.ten; obtain ⟨a_0, a_1, a_2, a_3, a_4, a_5, a_6, a_7, a_8, a_9, a_f⟩ := ha.ten; obtain ⟨b_0, b_1, b_2, b_3, b_4, b_5, b_6, b_7, b_8, b_9, b_f⟩ := hb.ten; obtain ⟨c_0, c_1, c_2, c_3, c_4, c_5, c_6, c_7, c_8, c_9, c_f⟩ := hc.ten) | (go_at_call 29; (with_reducible refine (le_any q p _).mono ?_); rw [Hlqp.out]; rintro e' w1 ⟨rfl, hb1⟩; replace hp := hp.below hb1; replace hq := hq.below hb1; replace hs := hs.below hb1; replace ha := ha.below hb1; replace hb := hb.below hb1; replace hc := hc.below hb1; replace hz := below_of hz hb1; replace hy := below_of hy hb1; clear hb1; clear p_0 p_1 p_2 p_3 p_4 p_5 p_6 p_7 p_8 p_9 p_f q_0 q_1 q_2 q_3 q_4 q_5 q_6 q_7 q_8 q_9 q_f a_0 a_1 a_2 a_3 a_4 a_5 a_6 a_7 a_8 a_9 a_f b_0 b_1 b_2 b_3 b_4 b_5 b_6 b_7 b_8 b_9 b_f c_0 c_1 c_2 c_3 c_4 c_5 c_6 c_7 c_8 c_9 c_f; obtain ⟨p_0, p_1, p_2, p_3, p_4, p_5, p_6, p_7, p_8, p_9, p_f⟩ := hp.ten; obtain ⟨q_0, q_1, q_2, q_3, q_4, q_5, q_6, q_7, q_8, q_9, q_f⟩ := hq.ten; obtain ⟨a_0, a_1, a_2, a_3, a_4, a_5, a_6, a_7, a_8, a_9, a_f⟩ := ha.ten; obtain ⟨b_0, b_1, b_2, b_3, b_4, b_5, b_6, b_7, b_8, b_9, b_f⟩ := hb.ten; obtain ⟨c_0, c_1, c_2, c_3, c_4, c_5, c_6, c_7, c_8, c_9, c_f⟩ := hc.ten) | (go_at_call 29; (with_reducible refine (le_any q s _).mono ?_); rw [Hlqs.out]; rintro e' w1 ⟨rfl, hb1⟩; replace hp := hp.below hb1; replace hq := hq.below hb1; replace hs := hs.below hb1; replace ha := ha.below hb1; replace hb := hb.below hb1; replace hc := hc.below hb1; replace hz := below_of hz hb1; replace hy := below_of hy hb1; clear hb1; clear p_0 p_1 p_2 p_3 p_4 p_5 p_6 p_7 p_8 p_9 p_f q_0 q_1 q_2 q_3 q_4 q_5 q_6 q_7 q_8 q_9 q_f a_0 a_1 a_2 a_3 a_4 a_5 a_6 a_7 a_8 a_9 a_f b_0 b_1 b_2 b_3 b_4 b_5 b_6 b_7 b_8 b_9 b_f c_0 c_1 c_2 c_3 c_4 c_5 c_6 c_7 c_8 c_9 c_f; obtain ⟨p_0, p_1, p_2, p_3, p_4, p_5, p_6, p_7, p_8, p_9, p_f⟩ := hp.ten; obtain ⟨q_0, q_1, q_2, q_3, q_4, q_5, q_6, q_7, q_8, q_9, q_f⟩ := hq.ten; obtain ⟨a_0, a_1, a_2, a_3, a_4, a_5, a_6, a_7, a_8, a_9, a_f⟩ := ha.ten; obtain ⟨b_0, b_1, b_2, b_3, b_4, b_5, b_6, b_7, b_8, b_9, b_f⟩ := hb.ten; obtain ⟨c_0, c_1, c_2, c_3, c_4, c_5, c_6, c_7, c_8, c_9, c_f⟩ := hc.ten) | (go_at_call 22; (with_reducible refine (check_all p.f p.k p.a0 p.a1 p.a2 p.a3 p.u p.l0 p.l1 p.l2 _ _ HC.out).mono ?_); rintro e' w1 ⟨rfl, hb1⟩; replace hp := hp.below hb1; replace hq := hq.below hb1; replace hs := hs.below hb1; replace ha := ha.below hb1; replace hb := hb.below hb1; replace hc := hc.below hb1; replace hz := below_of hz hb1; replace hy := below_of hy hb1; clear hb1; clear p_0 p_1 p_2 p_3 p_4 p_5 p_6 p_7 p_8 p_9 p_f q_0 q_1 q_2 q_3 q_4 q_5 q_6 q_7 q_8 q_9 q_f a_0 a_1 a_2 a_3 a_4 a_5 a_6 a_7 a_8 a_9 a_f b_0 b_1 b_2 b_3 b_4 b_5 b_6 b_7 b_8 b_9 b_f c_0 c_1 c_2 c_3 c_4 c_5 c_6 c_7 c_8 c_9 c_f; obtain ⟨p_0, p_1, p_2, p_3, p_4, p_5, p_6, p_7, p_8, p_9, p_f⟩ := hp.ten; obtain ⟨q_0, q_1, q_2, q_3, q_4, q_5, q_6, q_7, q_8, q_9, q_f⟩ := hq.ten; obtain ⟨a_0, a_1, a_2, a_3, a_4, a_5, a_6, a_7, a_8, a_9, a_f⟩ := ha.ten; obtain ⟨b_0, b_1, b_2, b_3, b_4, b_5, b_6, b_7, b_8, b_9, b_f⟩ := hb.ten; obtain ⟨c_0, c_1, c_2, c_3, c_4, c_5, c_6, c_7, c_8, c_9, c_f⟩ := hc.ten))
            go_meet
            case rel => exact ⟨rfl, hy⟩
          · have hcpb : (cp == 0) = false := by simp [hcp]
            clear hcp
            obtain ⟨p_0, p_1, p_2, p_3, p_4, p_5, p_6, p_7, p_8, p_9, p_f⟩ := hp.ten
            obtain ⟨q_0, q_1, q_2, q_3, q_4, q_5, q_6, q_7, q_8, q_9, q_f⟩ := hq.ten
            obtain ⟨a_0, a_1, a_2, a_3, a_4, a_5, a_6, a_7, a_8, a_9, a_f⟩ := ha.ten
            obtain ⟨b_0, b_1, b_2, b_3, b_4, b_5, b_6, b_7, b_8, b_9, b_f⟩ := hb.ten
            obtain ⟨c_0, c_1, c_2, c_3, c_4, c_5, c_6, c_7, c_8, c_9, c_f⟩ := hc.ten
            go_wp2_with (first | (go_at_call 29; (with_reducible refine (le_any p p _).mono ?_); rw [Hlpp.out]; rintro e' w1 ⟨rfl, hb1⟩; replace hp := hp.below hb1; replace hq := hq.below hb1; replace hs := hs.below hb1; replace ha := ha.below hb1; replace hb := hb.below hb1; replace hc := hc.below hb1; replace hz := below_of hz hb1; replace hy := below_of hy hb1; clear hb1; clear p_0 p_1 p_2 p_3 p_4 p_5 p_6 p_7 p_8 p_9 p_f q_0 q_1 q_2 q_3 q_4 q_5 q_6 q_7 q_8 q_9 q_f a_0 a_1 a_2 a_3 a_4 a_5 a_6 a_7 a_8 a_9 a_f b_0 b_1 b_2 b_3 b_4 b_5 b_6 b_7 b_8 b_9 b_f c_0 c_1 c_2 c_3 c_4 c_5 c_6 c_7 c_8 c_9 c_f; obtain ⟨p_0, p_1, p_2, p_3, p_4, p_5, p_6, p_7, p_8, p_9, p_f⟩ := hp.ten; obtain ⟨q_0, q_1, q_2, q_3, q_4, q_5, q_6, q_7, q_8, q_9, q_f⟩ := hq.ten; obtain ⟨a_0, a_1, a_2, a_3, a_4, a_5, a_6, a_7, a_8, a_9, a_f⟩ := ha.ten; obtain ⟨b_0, b_1, b_2, b_3, b_4, b_5, b_6, b_7, b_8, b_9, b_f⟩ := hb.ten; obtain ⟨c_0, c_1, c_2, c_3, c_4, c_5, c_6, c_7, c_8, c_9, c_f⟩ := hc.ten) | (go_at_call 29; (with_reducible refine (le_any p q _).mono ?_); rw [Hlpq.out]; rintro e' w1 ⟨rfl, hb1⟩; replace hp := hp.below hb1; replace hq := hq.below hb1; replace hs := hs.below hb1; replace ha := ha.below hb1; replace hb := hb.below hb1; replace hc := hc.below hb1; replace hz := below_of hz hb1; replace hy := below_of hy hb1; clear hb1; clear p_0 p_1 p_2 p_3 p_4 p_5 p_6 p_7 p_8 p_9 p_f q_0 q_1 q_2 q_3 q_4 q_5 q_6 q_7 q_8 q_9 q_f a_0 a_1 a_2 a_3 a_4 a_5 a_6 a_7 a_8 a_9 a_f b_0 b_1 b_2 b_3 b_4 b_5 b_6 b_7 b_8 b_9 b_f c_0 c_1 c_2 c_3 c_4 c_5 c_6 c_7 c_8 c_9 c_f; obtain ⟨p_0, p_1, p_2, p_3, p_4, p_5, p_6, p_7, p_8, p_9, p_f⟩ := hp.ten; obtain ⟨q_0, q_1, q_2, q_3, q_4, q_5, q_6, q_7, q_8, q_9, q_f⟩ := hq.ten; obtain ⟨a_0, a_1, a_2, a_3, a_4, a_5, a_6, a_7, a_8, a_9, a_f⟩ := ha.ten; obtain ⟨b_0, b_1, b_2, b_3, b_4, b_5, b_6, b_7, b_8, b_9, b_f⟩ := hb.ten; obtain ⟨c_0, c_1, c_2, c_3, c_4, c_5, c_6, c_7, c_8, c_9, c_f⟩ := hc.ten) | (go_at_call 29; (with_reducible refine (le_any p s _).mono ?_); rw [Hlps.out]; rintro e' w1 ⟨rfl, hb1⟩; replace hp := hp.below hb1; replace hq := hq.below hb1; replace hs := hs.below hb1; replace ha := ha.below hb1; replace hb := hb.below hb1; replace hc := hc.below hb1; replace hz := below_of hz hb1; replace hy := below_of hy hb1; clear hb1; clear p_0 p_1 p_2 p_3 p_4 p_5 p_6 p_7 p_8 p_9 p_f q_0 q_1 q_2 q_3 q_4 q_5 q_6 q_7 q_8 q_9 q_f a_0 a_1 a_2 a_3 a_4 a_5 a_6 a_7 a_8 a_9 a_f b_0 b_1 b_2 b_3 b_4 b_5 b_6 b_7 b_8 b_9 b_f c_0 c_1 c_2 c_3 c_4 c_5 c_6 c_7 c_8 c_9 c_f; obtain ⟨p_0, p_1, p_2, p_3, p_4, p_5, p_6, p_7, p_8, p_9, p_f⟩ := hp.ten; obtain ⟨q_0, q_1, q_2, q_3, q_4, q_5, q_6, q_7, q_8, q_9, q_f⟩ := hq.ten; obtain ⟨a_0, a_1, a_2, a_3, a_4, a_5, a_6, a_7, a_8, a_9, a_f⟩ := ha.ten; obtain ⟨b_0, b_1, b_2, b_3, b_4, b_5, b_6, b_7, b_8, b_9, b_f⟩ := hb.ten; obtain ⟨c_0, c_1, c_2, c_3, c_4, c_5, c_6, c_7, c_8, c_9, c_f⟩ := hc.ten) | (go_at_call 29; (with_reducible refine (le_any q p _).mono ?_); rw [Hlqp.out]; rintro e' w1 ⟨rfl, hb1⟩; replace hp := hp.below hb1; replace hq := hq.below hb1; replace hs := hs.below hb1; replace ha := ha.below hb1; replace hb := hb.below hb1; replace hc := hc.below hb1; replace hz := below_of hz hb1; replace hy := below_of hy hb1; clear hb1; clear p_0 p_1 p_2 p_3 p_4 p_5 p_6 p_7 p_8 p_9 p_f q_0 q_1 q_2 q_3 q_4 q_5 q_6 q_7 q_8 q_9 q_f a_0 a_1 a_2 a_3 a_4 a_5 a_6 a_7 a_8 a_9 a_f b_0 b_1 b_2 b_3 b_4 b_5 b_6 b_7 b_8 b_9 b_f c_0 c_1 c_2 c_3 c_4 c_5 c_6 c_7 c_8 c_9 c_f; obtain ⟨p_0, p_1, p_2, p_3, p_4, p_5, p_6, p_7, p_8, p_9, p_f⟩ := hp.ten; obtain ⟨q_0, q_1, q_2, q_3, q_4, q_5, q_6, q_7, q_8, q_9, q_f⟩ := hq.ten; obtain ⟨a_0, a_1, a_2, a_3, a_4, a_5, a_6, a_7, a_8, a_9, a_f⟩ := ha.ten; obtain ⟨b_0, b_1, b_2, b_3, b_4, b_5, b_6, b_7, b_8, b_9, b_f⟩ := hb.ten; obtain ⟨c_0, c_1, c_2, c_3, c_4, c_5, c_6, c_7, c_8, c_9, c_f⟩ := hc.ten) | (go_at_call 29; (with_reducible refine (le_any q s _).mono ?_); rw [Hlqs.out]; rintro e' w1 ⟨rfl, hb1⟩; replace hp := hp.below hb1; replace hq := hq.below hb1; replace hs := hs.below hb1; replace ha := ha.below hb1; replace hb := hb.below hb1; replace hc := hc.below hb1; replace hz := below_of hz hb1; replace hy := below_of hy hb1; clear hb1; clear p_0 p_1 p_2 p_3 p_4 p_5 p_6 p_7 p_8 p_9 p_f q_0 q_1 q_2 q_3 q_4 q_5 q_6 q_7 q_8 q_9 q_f a_0 a_1 a_2 a_3 a_4 a_5 a_6 a_7 a_8 a_9 a_f b_0 b_1 b_2 b_3 b_4 b_5 b_6 b_7 b_8 b_9 b_f c_0 c_1 c_2 c_3 c_4 c_5 c_6 c_7 c_8 c_9 c_f; obtain ⟨p_0, p_1, p_2, p_3, p_4, p_5, p_6, p_7, p_8, p_9, p_f⟩ := hp.ten; obtain ⟨q_0, q_1, q_2, q_3, q_4, q_5, q_6, q_7, q_8, q_9, q_f⟩ := hq.ten; obtain ⟨a_0, a_1, a_2, a_3, a_4, a_5, a_6, a_7, a_8, a_9, a_f⟩ := ha.ten; obtain ⟨b_0, b_1, b_2, b_3, b_4, b_5, b_6, b_7, b_8, b_9, b_f⟩ := hb.ten; obtain ⟨c_0, c_1, c_2, c_3, c_4, c_5, c_6, c_7, c_8, c_9, c_f⟩ := hc.ten) | (go_at_call 22; (with_reducible refine (check_all p.f p.k p.a0 p.a1 p.a2 p.a3 p.u p.l0 p.l1 p.l2 _ _ HC.out).mono ?_); rintro e' w1 ⟨rfl, hb1⟩; replace hp := hp.below hb1; replace hq := hq.below hb1; replace hs := hs.below hb1; replace ha := ha.below hb1; replace hb := hb.below hb1; replace hc := hc.below hb1; replace hz := below_of hz hb1; replace hy := below_of hy hb1; clear hb1; clear p_0 p_1 p_2 p_3 p_4 p_5 p_6 p_7 p_8 p_9 p_f q_0 q_1 q_2 q_3 q_4 q_5 q_6 q_7 q_8 q_9 q_f a_0 a_1 a_2 a_3 a_4 a_5 a_6 a_7 a_8 a_9 a_f b_0 b_1 b_2 b_3 b_4 b_5 b_6 b_7 b_8 b_9 b_f c_0 c_1 c_2 c_3 c_4 c_5 c_6 c_7 c_8 c_9 c_f; obtain ⟨p_0, p_1, p_2, p_3, p_4, p_5, p_6, p_7, p_8, p_9, p_f⟩ := hp.ten; obtain ⟨q_0, q_1, q_2, q_3, q_4, q_5, q_6, q_7, q_8, q_9, q_f⟩ := hq.ten; obtain ⟨a_0, a_1, a_2, a_3, a_4, a_5, a_6, a_7, a_8, a_9, a_f⟩ := ha.ten; obtain ⟨b_0, b_1, b_2, b_3, b_4, b_5, b_6, b_7, b_8, b_9, b_f⟩ := hb.ten; obtain ⟨c_0, c_1, c_2, c_3, c_4, c_5, c_6, c_7, c_8, c_9, c_f⟩ := hc.ten))
            go_meet
            case rel => exact ⟨rfl, hy⟩
        · have hpq := le_anti Hlpq.out Hlqp.out
          subst hpq
          obtain rfl : lpp = true := Hlpp.out.symm.trans Hlpq.out
          obtain rfl : lps = false := Hlps.out.symm.trans Hlqs.out
          by_cases hcp : cp = 0
          · subst hcp
            obtain ⟨p_0, p_1, p_2, p_3, p_4, p_5, p_6, p_7, p_8, p_9, p_f⟩ := hp.ten
            obtain ⟨q_0, q_1, q_2, q_3, q_4, q_5, q_6, q_7, q_8, q_9, q_f⟩ := hq.ten
            obtain ⟨a_0, a_1, a_2, a_3, a_4, a_5, a_6, a_7, a_8, a_9, a_f⟩ := ha.ten
            obtain ⟨b_0, b_1, b_2, b_3, b_4, b_5, b_6, b_7, b_8, b_9, b_f⟩ := hb.ten
            obtain ⟨c_0, c_1, c_2, c_3, c_4, c_5, c_6, c_7, c_8, c_9, c_f⟩ := hc.ten
            go_wp2_with (first | (go_at_call 29; (with_reducible refine (le_any p p _).mono ?_); rw [Hlpp.out]; rintro e' w1 ⟨rfl, hb1⟩; replace hp := hp.below hb1; replace hq := hq.below hb1; replace hs := hs.below hb1; replace ha := ha.below hb1; replace hb := hb.below hb1; replace hc := hc.below hb1; replace hz := below_of hz hb1; replace hy := below_of hy hb1; clear hb1; clear p_0 p_1 p_2 p_3 p_4 p_5 p_6 p_7 p_8 p_9 p_f q_0 q_1 q_2 q_3 q_4 q_5 q_6 q_7 q_8 q_9 q_f a_0 a_1 a_2 a_3 a_4 a_5 a_6 a_7 a_8 a_9 a_f b_0 b_1 b_2 b_3 b_4 b_5 b_6 b_7 b_8 b_9 b_f c_0 c_1 c_2 c_3 c_4 c_5 c_6 c_7 c_8 c_9 c_f; obtain ⟨p_0, p_1, p_2, p_3, p_4, p_5, p_6, p_7, p_8, p_9, p_f⟩ := hp.ten; obtain ⟨q_0, q_1, q_2, q_3, q_4, q_5, q_6, q_7, q_8, q_9, q_f⟩ := hq.ten; obtain ⟨a_0, a_1, a_2, a_3, a_4, a_5, a_6, a_7, a_8, a_9, a_f⟩ := ha.ten; obtain ⟨b_0, b_1, b_2, b_3, b_4, b_5, b_6, b_7, b_8, b_9, b_f⟩ := hb.ten; obtain ⟨c_0, c_1, c_2, c_3, c_4, c_5, c_6, c_7, c_8, c_9, c_f⟩ := hc.ten) | (go_at_call 29; (with_reducible refine (le_any p q _).mono ?_); rw [Hlpq.out]; rintro e' w1 ⟨rfl, hb1⟩; replace hp := hp.below hb1; replace hq := hq.below hb1; replace hs := hs.below hb1; replace ha := ha.below hb1; replace hb := hb.below hb1; replace hc := hc.below hb1; replace hz := below_of hz hb1; replace hy := below_of hy hb1; clear hb1; clear p_0 p_1 p_2 p_3 p_4 p_5 p_6 p_7 p_8 p_9 p_f q_0 q_1 q_2 q_3 q_4 q_5 q_6 q_7 q_8 q_9 q_f a_0 a_1 a_2 a_3 a_4 a_5 a_6 a_7 a_8 a_9 a_f b_0 b_1 b_2 b_3 b_4 b_5 b_6 b_7 b_8 b_9 b_f c_0 c_1 c_2 c_3 c_4 c_5 c_6 c_7 c_8 c_9 c_f; obtain ⟨p_0, p_1, p_2, p_3, p_4, p_5, p_6, p_7, p_8, p_9, p_f⟩ := hp.ten; obtain ⟨q_0, q_1, q_2, q_3, q_4, q_5, q_6, q_7, q_8, q_9, q_f⟩ := hq.ten; obtain ⟨a_0, a_1, a_2, a_3, a_4, a_5, a_6, a_7, a_8, a_9, a_f⟩ := ha.ten; obtain ⟨b_0, b_1, b_2, b_3, b_4, b_5, b_6, b_7, b_8, b_9, b_f⟩ := hb.ten; obtain ⟨c_0, c_1, c_2, c_3, c_4, c_5, c_6, c_7, c_8, c_9, c_f⟩ := hc.ten) | (go_at_call 29; (with_reducible refine (le_any p s _).mono ?_); rw [Hlps.out]; rintro e' w1 ⟨rfl, hb1⟩; replace hp := hp.below hb1; replace hq := hq.below hb1; replace hs := hs.below hb1; replace ha := ha.below hb1; replace hb := hb.below hb1; replace hc := hc.below hb1; replace hz := below_of hz hb1; replace hy := below_of hy hb1; clear hb1; clear p_0 p_1 p_2 p_3 p_4 p_5 p_6 p_7 p_8 p_9 p_f q_0 q_1 q_2 q_3 q_4 q_5 q_6 q_7 q_8 q_9 q_f a_0 a_1 a_2 a_3 a_4 a_5 a_6 a_7 a_8 a_9 a_f b_0 b_1 b_2 b_3 b_4 b_5 b_6 b_7 b_8 b_9 b_f c_0 c_1 c_2 c_3 c_4 c_5 c_6 c_7 c_8 c_9 c_f; obtain ⟨p_0, p_1, p_2, p_3, p_4, p_5, p_6, p_7, p_8, p_9, p_f⟩ := hp.ten; obtain ⟨q_0, q_1, q_2, q_3, q_4, q_5, q_6, q_7, q_8, q_9, q_f⟩ := hq.ten; obtain ⟨a_0, a_1, a_2, a_3, a_4, a_5, a_6, a_7, a_8, a_9, a_f⟩ := ha.ten; obtain ⟨b_0, b_1, b_2, b_3, b_4, b_5, b_6, b_7, b_8, b_9, b_f⟩ := hb.ten; obtain ⟨c_0, c_1, c_2, c_3, c_4, c_5, c_6, c_7, c_8, c_9, c_f⟩ := hc.ten) | (go_at_call 29; (with_reducible refine (le_any q p _).mono ?_); rw [Hlqp.out]; rintro e' w1 ⟨rfl, hb1⟩; replace hp := hp.below hb1; replace hq := hq.below hb1; replace hs := hs.below hb1; replace ha := ha.below hb1; replace hb := hb.below hb1; replace hc := hc.below hb1; replace hz := below_of hz hb1; replace hy := below_of hy hb1; clear hb1; clear p_0 p_1 p_2 p_3 p_4 p_5 p_6 p_7 p_8 p_9 p_f q_0 q_1 q_2 q_3 q_4 q_5 q_6 q_7 q_8 q_9 q_f a_0 a_1 a_2 a_3 a_4 a_5 a_6 a_7 a_8 a_9 a_f b_0 b_1 b_2 b_3 b_4 b_5 b_6 b_7 b_8 b_9 b_f c_0 c_1 c_2 c_3 c_4 c_5 c_6 c_7 c_8 c_9 c_f; obtain ⟨p_0, p_1, p_2, p_3, p_4, p_5, p_6, p_7, p_8, p_9, p_f⟩ := hp.ten; obtain ⟨q_0, q_1, q_2, q_3, q_4, q_5, q_6, q_7, q_8, q_9, q_f⟩ := hq.ten; obtain ⟨a_0, a_1, a_2, a_3, a_4, a_5, a_6, a_7, a_8, a_9, a_f⟩ := ha.ten; obtain ⟨b_0, b_1, b_2, b_3, b_4, b_5, b_6, b_7, b_8, b_9, b_f⟩ := hb.ten; obtain ⟨c_0, c_1, c_2, c_3, c_4, c_5, c_6, c_7, c_8, c_9, c_f⟩ := hc.ten) | (go_at_call 29; (with_reducible refine (le_any q s _).mono ?_); rw [Hlqs.out]; rintro e' w1 ⟨rfl, hb1⟩; replace hp := hp.below hb1; replace hq := hq.below hb1; replace hs := hs.below hb1; replace ha := ha.below hb1; replace hb := hb.below hb1; replace hc := hc.below hb1; replace hz := below_of hz hb1; replace hy := below_of hy hb1; clear hb1; clear p_0 p_1 p_2 p_3 p_4 p_5 p_6 p_7 p_8 p_9 p_f q_0 q_1 q_2 q_3 q_4 q_5 q_6 q_7 q_8 q_9 q_f a_0 a_1 a_2 a_3 a_4 a_5 a_6 a_7 a_8 a_9 a_f b_0 b_1 b_2 b_3 b_4 b_5 b_6 b_7 b_8 b_9 b_f c_0 c_1 c_2 c_3 c_4 c_5 c_6 c_7 c_8 c_9 c_f; obtain ⟨p_0, p_1, p_2, p_3, p_4, p_5, p_6, p_7, p_8, p_9, p_f⟩ := hp.ten; obtain ⟨q_0, q_1, q_2, q_3, q_4, q_5, q_6, q_7, q_8, q_9, q_f⟩ := hq.ten; obtain ⟨a_0, a_1, a_2, a_3, a_4, a_5, a_6, a_7, a_8, a_9, a_f⟩ := ha.ten; obtain ⟨b_0, b_1, b_2, b_3, b_4, b_5, b_6, b_7, b_8, b_9, b_f⟩ := hb.ten; obtain ⟨c_0, c_1, c_2, c_3, c_4, c_5, c_6, c_7, c_8, c_9, c_f⟩ := hc.ten) | (go_at_call 22; (with_reducible refine (check_all p.f p.k p.a0 p.a1 p.a2 p.a3 p.u p.l0 p.l1 p.l2 _ _ HC.out).mono ?_); rintro e' w1 ⟨rfl, hb1⟩; replace hp := hp.below hb1; replace hq := hq.below hb1; replace hs := hs.below hb1; replace ha := ha.below hb1; replace hb := hb.below hb1; replace hc := hc.below hb1; replace hz := below_of hz hb1; replace hy := below_of hy hb1; clear hb1; clear p_0 p_1 p_2 p_3 p_4 p_5 p_6 p_7 p_8 p_9 p_f q_0 q_1 q_2 q_3 q_4 q_5 q_6 q_7 q_8 q_9 q_f a_0 a_1 a_2 a_3 a_4 a_5 a_6 a_7 a_8 a_9 a_f b_0 b_1 b_2 b_3 b_4 b_5 b_6 b_7 b_8 b_9 b_f c_0 c_1 c_2 c_3 c_4 c_5 c_6 c_7 c_8 c_9 c_f; obtain ⟨p_0, p_1, p_2, p_3, p_4, p_5, p_6, p_7, p_8, p_9, p_f⟩ := hp.ten; obtain ⟨q_0, q_1, q_2, q_3, q_4, q_5, q_6, q_7, q_8, q_9, q_f⟩ := hq.ten; obtain ⟨a_0, a_1, a_2, a_3, a_4, a_5, a_6, a_7, a_8, a_9, a_f⟩ := ha.ten; obtain ⟨b_0, b_1, b_2, b_3, b_4, b_5, b_6, b_7, b_8, b_9, b_f⟩ := hb.ten; obtain ⟨c_0, c_1, c_2, c_3, c_4, c_5, c_6, c_7, c_8, c_9, c_f⟩ := hc.ten))
            go_meet
            case rel => exact ⟨rfl, hy⟩
          · have hcpb : (cp == 0) = false := by simp [hcp]
            clear hcp
            obtain ⟨p_0, p_1, p_2, p_3, p_4, p_5, p_6, p_7, p_8, p_9, p_f⟩ := hp.ten
            obtain ⟨q_0, q_1, q_2, q_3, q_4, q_5, q_6, q_7, q_8, q_9, q_f⟩ := hq.ten
            obtain ⟨a_0, a_1, a_2, a_3, a_4, a_5, a_6, a_7, a_8, a_9, a_f⟩ := ha.ten
            obtain ⟨b_0, b_1, b_2, b_3, b_4, b_5, b_6, b_7, b_8, b_9, b_f⟩ := hb.ten
            obtain ⟨c_0, c_1, c_2, c_3, c_4, c_5, c_6, c_7, c_8, c_9, c_f⟩ := hc.ten
            go_wp2_with (first | (go_at_call 29; (with_reducible refine (le_any p p _).mono ?_); rw [Hlpp.out]; rintro e' w1 ⟨rfl, hb1⟩; replace hp := hp.below hb1; replace hq := hq.below hb1; replace hs := hs.below hb1; replace ha := ha.below hb1; replace hb := hb.below hb1; replace hc := hc.below hb1; replace hz := below_of hz hb1; replace hy := below_of hy hb1; clear hb1; clear p_0 p_1 p_2 p_3 p_4 p_5 p_6 p_7 p_8 p_9 p_f q_0 q_1 q_2 q_3 q_4 q_5 q_6 q_7 q_8 q_9 q_f a_0 a_1 a_2 a_3 a_4 a_5 a_6 a_7 a_8 a_9 a_f b_0 b_1 b_2 b_3 b_4 b_5 b_6 b_7 b_8 b_9 b_f c_0 c_1 c_2 c_3 c_4 c_5 c_6 c_7 c_8 c_9 c_f; obtain ⟨p_0, p_1, p_2, p_3, p_4, p_5, p_6, p_7, p_8, p_9, p_f⟩ := hp.ten; obtain ⟨q_0, q_1, q_2, q_3, q_4, q_5, q_6, q_7, q_8, q_9, q_f⟩ := hq.ten; obtain ⟨a_0, a_1, a_2, a_3, a_4, a_5, a_6, a_7, a_8, a_9, a_f⟩ := ha.ten; obtain ⟨b_0, b_1, b_2, b_3, b_4, b_5, b_6, b_7, b_8, b_9, b_f⟩ := hb.ten; obtain ⟨c_0, c_1, c_2, c_3, c_4, c_5, c_6, c_7, c_8, c_9, c_f⟩ := hc.ten) | (go_at_call 29; (with_reducible refine (le_any p q _).mono ?_); rw [Hlpq.out]; rintro e' w1 ⟨rfl, hb1⟩; replace hp := hp.below hb1; replace hq := hq.below hb1; replace hs := hs.below hb1; replace ha := ha.below hb1; replace hb := hb.below hb1; replace hc := hc.below hb1; replace hz := below_of hz hb1; replace hy := below_of hy hb1; clear hb1; clear p_0 p_1 p_2 p_3 p_4 p_5 p_6 p_7 p_8 p_9 p_f q_0 q_1 q_2 q_3 q_4 q_5 q_6 q_7 q_8 q_9 q_f a_0 a_1 a_2 a_3 a_4 a_5 a_6 a_7 a_8 a_9 a_f b_0 b_1 b_2 b_3 b_4 b_5 b_6 b_7 b_8 b_9 b_f c_0 c_1 c_2 c_3 c_4 c_5 c_6 c_7 c_8 c_9 c_f; obtain ⟨p_0, p_1, p_2, p_3, p_4, p_5, p_6, p_7, p_8, p_9, p_f⟩ := hp.ten; obtain ⟨q_0, q_1, q_2, q_3, q_4, q_5, q_6, q_7, q_8, q_9, q_f⟩ := hq.ten; obtain ⟨a_0, a_1, a_2, a_3, a_4, a_5, a_6, a_7, a_8, a_9, a_f⟩ := ha.ten; obtain ⟨b_0, b_1, b_2, b_3, b_4, b_5, b_6, b_7, b_8, b_9, b_f⟩ := hb.ten; obtain ⟨c_0, c_1, c_2, c_3, c_4, c_5, c_6, c_7, c_8, c_9, c_f⟩ := hc.ten) | (go_at_call 29; (with_reducible refine (le_any p s _).mono ?_); rw [Hlps.out]; rintro e' w1 ⟨rfl, hb1⟩; replace hp := hp.below hb1; replace hq := hq.below hb1; replace hs := hs.below hb1; replace ha := ha.below hb1; replace hb := hb.below hb1; replace hc := hc.below hb1; replace hz := below_of hz hb1; replace hy := below_of hy hb1; clear hb1; clear p_0 p_1 p_2 p_3 p_4 p_5 p_6 p_7 p_8 p_9 p_f q_0 q_1 q_2 q_3 q_4 q_5 q_6 q_7 q_8 q_9 q_f a_0 a_1 a_2 a_3 a_4 a_5 a_6 a_7 a_8 a_9 a_f b_0 b_1 b_2 b_3 b_4 b_5 b_6 b_7 b_8 b_9 b_f c_0 c_1 c_2 c_3 c_4 c_5 c_6 c_7 c_8 c_9 c_f; obtain ⟨p_0, p_1, p_2, p_3, p_4, p_5, p_6, p_7, p_8, p_9, p_f⟩ := hp.ten; obtain ⟨q_0, q_1, q_2, q_3, q_4, q_5, q_6, q_7, q_8, q_9, q_f⟩ := hq.ten; obtain ⟨a_0, a_1, a_2, a_3, a_4, a_5, a_6, a_7, a_8, a_9, a_f⟩ := ha.ten; obtain ⟨b_0, b_1, b_2, b_3, b_4, b_5, b_6, b_7, b_8, b_9, b_f⟩ := hb.ten; obtain ⟨c_0, c_1, c_2, c_3, c_4, c_5, c_6, c_7, c_8, c_9, c_f⟩ := hc.ten) | (go_at_call 29; (with_reducible refine (le_any q p _).mono ?_); rw [Hlqp.out]; rintro e' w1 ⟨rfl, hb1⟩; replace hp := hp.below hb1; replace hq := hq.below hb1; replace hs := hs.below hb1; replace ha := ha.below hb1; replace hb := hb.below hb1; replace hc := hc.below hb1; replace hz := below_of hz hb1; replace hy := below_of hy hb1; clear hb1; clear p_0 p_1 p_2 p_3 p_4 p_5 p_6 p_7 p_8 p_9 p_f q_0 q_1 q_2 q_3 q_4 q_5 q_6 q_7 q_8 q_9 q_f a_0 a_1 a_2 a_3 a_4 a_5 a_6 a_7 a_8 a_9 a_f b_0 b_1 b_2 b_3 b_4 b_5 b_6 b_7 b_8 b_9 b_f c_0 c_1 c_2 c_3 c_4 c_5 c_6 c_7 c_8 c_9 c_f; obtain ⟨p_0, p_1, p_2, p_3, p_4, p_5, p_6, p_7, p_8, p_9, p_f⟩ := hp.ten; obtain ⟨q_0, q_1, q_2, q_3, q_4, q_5, q_6, q_7, q_8, q_9, q_f⟩ := hq.ten; obtain ⟨a_0, a_1, a_2, a_3, a_4, a_5, a_6, a_7, a_8, a_9, a_f⟩ := ha.ten; obtain ⟨b_0, b_1, b_2, b_3, b_4, b_5, b_6, b_7, b_8, b_9, b_f⟩ := hb.ten; obtain ⟨c_0, c_1, c_2, c_3, c_4, c_5, c_6, c_7, c_8, c_9, c_f⟩ := hc.ten) | (go_at_call 29; (with_reducible refine (le_any q s _).mono ?_); rw [Hlqs.out]; rintro e' w1 ⟨rfl, hb1⟩; replace hp := hp.below hb1; replace hq := hq.below hb1; replace hs := hs.below hb1; replace ha := ha.below hb1; replace hb := hb.below hb1; replace hc := hc.below hb1; replace hz := below_of hz hb1; replace hy := below_of hy hb1; clear hb1; clear p_0 p_1 p_2 p_3 p_4 p_5 p_6 p_7 p_8 p_9 p_f q_0 q_1 q_2 q_3 q_4 q_5 q_6 q_7 q_8 q_9 q_f a_0 a_1 a_2 a_3 a_4 a_5 a_6 a_7 a_8 a_9 a_f b_0 b_1 b_2 b_3 b_4 b_5 b_6 b_7 b_8 b_9 b_f c_0 c_1 c_2 c_3 c_4 c_5 c_6 c_7 c_8 c_9 c_f; obtain ⟨p_0, p_1, p_2, p_3, p_4, p_5, p_6, p_7, p_8, p_9, p_f⟩ := hp.ten; obtain ⟨q_0, q_1, q_2, q_3, q_4, q_5, q_6, q_7, q_8, q_9, q_f⟩ := hq.ten; obtain ⟨a_0, a_1, a_2, a_3, a_4, a_5, a_6, a_7, a_8, a_9, a_f⟩ := ha.ten; obtain ⟨b_0, b_1, b_2, b_3, b_4, b_5, b_6, b_7, b_8, b_9, b_f⟩ := hb.ten; obtain ⟨c_0, c_1, c_2, c_3, c_4, c_5, c_6, c_7, c_8, c_9, c_f⟩ := hc.ten) | (go_at_call 22; (with_reducible refine (check_all p.f p.k p.a0 p.a1 p.a2 p.a3 p.u p.l0 p.l1 p.l2 _ _ HC.out).mono ?_); rintro e' w1 ⟨rfl, hb1⟩; replace hp := hp.below hb1; replace hq := hq.below hb1; replace hs := hs.below hb1; replace ha := ha.below hb1; replace hb := hb.below hb1; replace hc := hc.below hb1; replace hz := below_of hz hb1; replace hy := below_of hy hb1; clear hb1; clear p_0 p_1 p_2 p_3 p_4 p_5 p_6 p_7 p_8 p_9 p_f q_0 q_1 q_2 q_3 q_4 q_5 q_6 q_7 q_8 q_9 q_f a_0 a_1 a_2 a_3 a_4 a_5 a_6 a_7 a_8 a_9 a_f b_0 b_1 b_2 b_3 b_4 b_5 b_6 b_7 b_8 b_9 b_f c_0 c_1 c_2 c_3 c_4 c_5 c_6 c_7 c_8 c_9 c_f; obtain ⟨p_0, p_1, p_2, p_3, p_4, p_5, p_6, p_7, p_8, p_9, p_f⟩ := hp.ten; obtain ⟨q_0, q_1, q_2, q_3, q_4, q_5, q_6, q_7, q_8, q_9, q_f⟩ := hq.ten; obtain ⟨a_0, a_1, a_2, a_3, a_4, a_5, a_6, a_7, a_8, a_9, a_f⟩ := ha.ten; obtain ⟨b_0, b_1, b_2, b_3, b_4, b_5, b_6, b_7, b_8, b_9, b_f⟩ := hb.ten; obtain ⟨c_0, c_1, c_2, c_3, c_4, c_5, c_6, c_7, c_8, c_9, c_f⟩ := hc.ten))
            go_meet
            case rel => exact ⟨rfl, hy⟩
      · have ht := le_trans' Hlpq.out Hlqs.out
        rw [Hlps.out] at ht
        subst ht
        rcases lqp with _ | _
        · by_cases hcp : cp = 0
          · subst hcp
            have hpp := le_refl' HC.out
            rw [Hlpp.out] at hpp
            subst hpp
            obtain ⟨p_0, p_1, p_2, p_3, p_4, p_5, p_6, p_7, p_8, p_9, p_f⟩ := hp.ten
            obtain ⟨q_0, q_1, q_2, q_3, q_4, q_5, q_6, q_7, q_8, q_9, q_f⟩ := hq.ten
            obtain ⟨a_0, a_1, a_2, a_3, a_4, a_5, a_6, a_7, a_8, a_9, a_f⟩ := ha.ten
            obtain ⟨b_0, b_1, b_2, b_3, b_4, b_5, b_6, b_7, b_8, b_9, b_f⟩ := hb.ten
            obtain ⟨c_0, c_1, c_2, c_3, c_4, c_5, c_6, c_7, c_8, c_9, c_f⟩ := hc.ten
            go_wp2_with (first | (go_at_call 29; (with_reducible refine (le_any p p _).mono ?_); rw [Hlpp.out]; rintro e' w1 ⟨rfl, hb1⟩; replace hp := hp.below hb1; replace hq := hq.below hb1; replace hs := hs.below hb1; replace ha := ha.below hb1; replace hb := hb.below hb1; replace hc := hc.below hb1; replace hz := below_of hz hb1; replace hy := below_of hy hb1; clear hb1; clear p_0 p_1 p_2 p_3 p_4 p_5 p_6 p_7 p_8 p_9 p_f q_0 q_1 q_2 q_3 q_4 q_5 q_6 q_7 q_8 q_9 q_f a_0 a_1 a_2 a_3 a_4 a_5 a_6 a_7 a_8 a_9 a_f b_0 b_1 b_2 b_3 b_4 b_5 b_6 b_7 b_8 b_9 b_f c_0 c_1 c_2 c_3 c_4 c_5 c_6 c_7 c_8 c_9 c_f; obtain ⟨p_0, p_1, p_2, p_3, p_4, p_5, p_6, p_7, p_8, p_9, p_f⟩ := hp.ten; obtain ⟨q_0, q_1, q_2, q_3, q_4, q_5, q_6, q_7, q_8, q_9, q_f⟩ := hq.ten; obtain ⟨a_0, a_1, a_2, a_3, a_4, a_5, a_6, a_7, a_8, a_9, a_f⟩ := ha.ten; obtain ⟨b_0, b_1, b_2, b_3, b_4, b_5, b_6, b_7, b_8, b_9, b_f⟩ := hb.ten; obtain ⟨c_0, c_1, c_2, c_3, c_4, c_5, c_6, c_7, c_8, c_9, c_f⟩ := hc.ten) | (go_at_call 29; (with_reducible refine (le_any p q _).mono ?_); rw [Hlpq.out]; rintro e' w1 ⟨rfl, hb1⟩; replace hp := hp.below hb1; replace hq := hq.below hb1; replace hs := hs.below hb1; replace ha := ha.below hb1; replace hb := hb.below hb1; replace hc := hc.below hb1; replace hz := below_of hz hb1; replace hy := below_of hy hb1; clear hb1; clear p_0 p_1 p_2 p_3 p_4 p_5 p_6 p_7 p_8 p_9 p_f q_0 q_1 q_2 q_3 q_4 q_5 q_6 q_7 q_8 q_9 q_f a_0 a_1 a_2 a_3 a_4 a_5 a_6 a_7 a_8 a_9 a_f b_0 b_1 b_2 b_3 b_4 b_5 b_6 b_7 b_8 b_9 b_f c_0 c_1 c_2 c_3 c_4 c_5 c_6 c_7 c_8 c_9 c_f; obtain ⟨p_0, p_1, p_2, p_3, p_4, p_5, p_6, p_7, p_8, p_9, p_f⟩ := hp.ten; obtain ⟨q_0, q_1, q_2, q_3, q_4, q_5, q_6, q_7, q_8, q_9, q_f⟩ := hq.ten; obtain ⟨a_0, a_1, a_2, a_3, a_4, a_5, a_6, a_7, a_8, a_9, a_f⟩ := ha.ten; obtain ⟨b_0, b_1, b_2, b_3, b_4, b_5, b_6, b_7, b_8, b_9, b_f⟩ := hb.ten; obtain ⟨c_0, c_1, c_2, c_3, c_4, c_5, c_6, c_7, c_8, c_9, c_f⟩ := hc.ten) | (go_at_call 29; (with_reducible refine (le_any p s _).mono ?_); rw [Hlps.out]; rintro e' w1 ⟨rfl, hb1⟩; replace hp := hp.below hb1; replace hq := hq.below hb1; replace hs := hs.below hb1; replace ha := ha.below hb1; replace hb := hb.below hb1; replace hc := hc.below hb1; replace hz := below_of hz hb1; replace hy := below_of hy hb1; clear hb1; clear p_0 p_1 p_2 p_3 p_4 p_5 p_6 p_7 p_8 p_9 p_f q_0 q_1 q_2 q_3 q_4 q_5 q_6 q_7 q_8 q_9 q_f a_0 a_1 a_2 a_3 a_4 a_5 a_6 a_7 a_8 a_9 a_f b_0 b_1 b_2 b_3 b_4 b_5 b_6 b_7 b_8 b_9 b_f c_0 c_1 c_2 c_3 c_4 c_5 c_6 c_7 c_8 c_9 c_f; obtain ⟨p_0, p_1, p_2, p_3, p_4, p_5, p_6, p_7, p_8, p_9, p_f⟩ := hp.ten; obtain ⟨q_0, q_1, q_2, q_3, q_4, q_5, q_6, q_7, q_8, q_9, q_f⟩ := hq.ten; obtain ⟨a_0, a_1, a_2, a_3, a_4, a_5, a_6, a_7, a_8, a_9, a_f⟩ := ha.ten; obtain ⟨b_0, b_1, b_2, b_3, b_4, b_5, b_6, b_7, b_8, b_9, b_f⟩ := hb.ten; obtain ⟨c_0, c_1, c_2, c_3, c_4, c_5, c_6, c_7, c_8, c_9, c_f⟩ := hc.ten) | (go_at_call 29; (with_reducible refine (le_any q p _).mono ?_); rw [Hlqp.out]; rintro e' w1 ⟨rfl, hb1⟩; replace hp := hp.below hb1; replace hq := hq.below hb1; replace hs := hs.below hb1; replace ha := ha.below hb1; replace hb := hb.below hb1; replace hc := hc.below hb1; replace hz := below_of hz hb1; replace hy := below_of hy hb1; clear hb1; clear p_0 p_1 p_2 p_3 p_4 p_5 p_6 p_7 p_8 p_9 p_f q_0 q_1 q_2 q_3 q_4 q_5 q_6 q_7 q_8 q_9 q_f a_0 a_1 a_2 a_3 a_4 a_5 a_6 a_7 a_8 a_9 a_f b_0 b_1 b_2 b_3 b_4 b_5 b_6 b_7 b_8 b_9 b_f c_0 c_1 c_2 c_3 c_4 c_5 c_6 c_7 c_8 c_9 c_f; obtain ⟨p_0, p_1, p_2, p_3, p_4, p_5, p_6, p_7, p_8, p_9, p_f⟩ := hp.ten; obtain ⟨q_0, q_1, q_2, q_3, q_4, q_5, q_6, q_7, q_8, q_9, q_f⟩ := hq.ten; obtain ⟨a_0, a_1, a_2, a_3, a_4, a_5, a_6, a_7, a_8, a_9, a_f⟩ := ha.ten; obtain ⟨b_0, b_1, b_2, b_3, b_4, b_5, b_6, b_7, b_8, b_9, b_f⟩ := hb.ten; obtain ⟨c_0, c_1, c_2, c_3, c_4, c_5, c_6, c_7, c_8, c_9, c_f⟩ := hc.ten) | (go_at_call 29; (with_reducible refine (le_any q s _).mono ?_); rw [Hlqs.out]; rintro e' w1 ⟨rfl, hb1⟩; replace hp := hp.below hb1; replace hq := hq.below hb1; replace hs := hs.below hb1; replace ha := ha.below hb1; replace hb := hb.below hb1; replace hc := hc.below hb1; replace hz := below_of hz hb1; replace hy := below_of hy hb1; clear hb1; clear p_0 p_1 p_2 p_3 p_4 p_5 p_6 p_7 p_8 p_9 p_f q_0 q_1 q_2 q_3 q_4 q_5 q_6 q_7 q_8 q_9 q_f a_0 a_1 a_2 a_3 a_4 a_5 a_6 a_7 a_8 a_9 a_f b_0 b_1 b_2 b_3 b_4 b_5 b_6 b_7 b_8 b_9 b_f c_0 c_1 c_2 c_3 c_4 c_5 c_6 c_7 c_8 c_9 c_f; obtain ⟨p_0, p_1, p_2, p_3, p_4, p_5, p_6, p_7, p_8, p_9, p_f⟩ := hp.ten; obtain ⟨q_0, q_1, q_2, q_3, q_4, q_5, q_6, q_7, q_8, q_9, q_f⟩ := hq.ten; obtain ⟨a_0, a_1, a_2, a_3, a_4, a_5, a_6, a_7, a_8, a_9, a_f⟩ := ha.ten; obtain ⟨b_0, b_1, b_2, b_3, b_4, b_5, b_6, b_7, b_8, b_9, b_f⟩ := hb.ten; obtain ⟨c_0, c_1, c_2, c_3, c_4, c_5, c_6, c_7, c_8, c_9, c_f⟩ := hc.ten) | (go_at_call 22; (with_reducible refine (check_all p.f p.k p.a0 p.a1 p.a2 p.a3 p.u p.l0 p.l1 p.l2 _ _ HC.out).mono ?_); rintro e' w1 ⟨rfl, hb1⟩; replace hp := hp.below hb1; replace hq := hq.below hb1; replace hs := hs.below hb1; replace ha := ha.below hb1; replace hb := hb.below hb1; replace hc := hc.below hb1; replace hz := below_of hz hb1; replace hy := below_of hy hb1; clear hb1; clear p_0 p_1 p_2 p_3 p_4 p_5 p_6 p_7 p_8 p_9 p_f q_0 q_1 q_2 q_3 q_4 q_5 q_6 q_7 q_8 q_9 q_f a_0 a_1 a_2 a_3 a_4 a_5 a_6 a_7 a_8 a_9 a_f b_0 b_1 b_2 b_3 b_4 b_5 b_6 b_7 b_8 b_9 b_f c_0 c_1 c_2 c_3 c_4 c_5 c_6 c_7 c_8 c_9 c_f; obtain ⟨p_0, p_1, p_2, p_3, p_4, p_5, p_6, p_7, p_8, p_9, p_f⟩ := hp.ten; obtain ⟨q_0, q_1, q_2, q_3, q_4, q_5, q_6, q_7, q_8, q_9, q_f⟩ := hq.ten; obtain ⟨a_0, a_1, a_2, a_3, a_4, a_5, a_6, a_7, a_8, a_9, a_f⟩ := ha.ten; obtain ⟨b_0, b_1, b_2, b_3, b_4, b_5, b_6, b_7, b_8, b_9, b_f⟩ := hb.ten; obtain ⟨c_0, c_1, c_2, c_3, c_4, c_5, c_6, c_7, c_8, c_9, c_f⟩ := hc.ten))
            go_meet
            case rel => exact ⟨rfl, hy⟩
          · have hcpb : (cp == 0) = false := by simp [hcp]
            clear hcp
            obtain ⟨p_0, p_1, p_2, p_3, p_4, p_5, p_6, p_7, p_8, p_9, p_f⟩ := hp.ten
            obtain ⟨q_0, q_1, q_2, q_3, q_4, q_5, q_6, q_7, q_8, q_9, q_f⟩ := hq.ten
            obtain ⟨a_0, a_1, a_2, a_3, a_4, a_5, a_6, a_7, a_8, a_9, a_f⟩ := ha.ten
            obtain ⟨b_0, b_1, b_2, b_3, b_4, b_5, b_6, b_7, b_8, b_9, b_f⟩ := hb.ten
            obtain ⟨c_0, c_1, c_2, c_3, c_4, c_5, c_6, c_7, c_8, c_9, c_f⟩ := hc.ten
            go_wp2_with (first | (go_at_call 29; (with_reducible refine (le_any p p _).mono ?_); rw [Hlpp.out]; rintro e' w1 ⟨rfl, hb1⟩; replace hp := hp.below hb1; replace hq := hq.below hb1; replace hs := hs.below hb1; replace ha := ha.below hb1; replace hb := hb.below hb1; replace hc := hc.below hb1; replace hz := below_of hz hb1; replace hy := below_of hy hb1; clear hb1; clear p_0 p_1 p_2 p_3 p_4 p_5 p_6 p_7 p_8 p_9 p_f q_0 q_1 q_2 q_3 q_4 q_5 q_6 q_7 q_8 q_9 q_f a_0 a_1 a_2 a_3 a_4 a_5 a_6 a_7 a_8 a_9 a_f b_0 b_1 b_2 b_3 b_4 b_5 b_6 b_7 b_8 b_9 b_f c_0 c_1 c_2 c_3 c_4 c_5 c_6 c_7 c_8 c_9 c_f; obtain ⟨p_0, p_1, p_2, p_3, p_4, p_5, p_6, p_7, p_8, p_9, p_f⟩ := hp.ten; obtain ⟨q_0, q_1, q_2, q_3, q_4, q_5, q_6, q_7, q_8, q_9, q_f⟩ := hq.ten; obtain ⟨a_0, a_1, a_2, a_3, a_4, a_5, a_6, a_7, a_8, a_9, a_f⟩ := ha.ten; obtain ⟨b_0, b_1, b_2, b_3, b_4, b_5, b_6, b_7, b_8, b_9, b_f⟩ := hb.ten; obtain ⟨c_0, c_1, c_2, c_3, c_4, c_5, c_6, c_7, c_8, c_9, c_f⟩ := hc.ten) | (go_at_call 29; (with_reducible refine (le_any p q _).mono ?_); rw [Hlpq.out]; rintro e' w1 ⟨rfl, hb1⟩; replace hp := hp.below hb1; replace hq := hq.below hb1; replace hs := hs.below hb1; replace ha := ha.below hb1; replace hb := hb.below hb1; replace hc := hc.below hb1; replace hz := below_of hz hb1; replace hy := below_of hy hb1; clear hb1; clear p_0 p_1 p_2 p_3 p_4 p_5 p_6 p_7 p_8 p_9 p_f q_0 q_1 q_2 q_3 q_4 q_5 q_6 q_7 q_8 q_9 q_f a_0 a_1 a_2 a_3 a_4 a_5 a_6 a_7 a_8 a_9 a_f b_0 b_1 b_2 b_3 b_4 b_5 b_6 b_7 b_8 b_9 b_f c_0 c_1 c_2 c_3 c_4 c_5 c_6 c_7 c_8 c_9 c_f; obtain ⟨p_0, p_1, p_2, p_3, p_4, p_5, p_6, p_7, p_8, p_9, p_f⟩ := hp.ten; obtain ⟨q_0, q_1, q_2, q_3, q_4, q_5, q_6, q_7, q_8, q_9, q_f⟩ := hq.ten; obtain ⟨a_0, a_1, a_2, a_3, a_4, a_5, a_6, a_7, a_8, a_9, a_f⟩ := ha.ten; obtain ⟨b_0, b_1, b_2, b_3, b_4, b_5, b_6, b_7, b_8, b_9, b_f⟩ := hb.ten; obtain ⟨c_0, c_1, c_2, c_3, c_4, c_5, c_6, c_7, c_8, c_9, c_f⟩ := hc.ten) | (go_at_call 29; (with_reducible refine (le_any p s _).mono ?_); rw [Hlps.out]; rintro e' w1 ⟨rfl, hb1⟩; replace hp := hp.below hb1; replace hq := hq.below hb1; replace hs := hs.below hb1; replace ha := ha.below hb1; replace hb := hb.below hb1; replace hc := hc.below hb1; replace hz := below_of hz hb1; replace hy := below_of hy hb1; clear hb1; clear p_0 p_1 p_2 p_3 p_4 p_5 p_6 p_7 p_8 p_9 p_f q_0 q_1 q_2 q_3 q_4 q_5 q_6 q_7 q_8 q_9 q_f a_0 a_1 a_2 a_3 a_4 a_5 a_6 a_7 a_8 a_9 a_f b_0 b_1 b_2 b_3 b_4 b_5 b_6 b_7 b_8 b_9 b_f c_0 c_1 c_2 c_3 c_4 c_5 c_6 c_7 c_8 c_9 c_f; obtain ⟨p_0, p_1, p_2, p_3, p_4, p_5, p_6, p_7, p_8, p_9, p_f⟩ := hp.ten; obtain ⟨q_0, q_1, q_2, q_3, q_4, q_5, q_6, q_7, q_8, q_9, q_f⟩ := hq.ten; obtain ⟨a_0, a_1, a_2, a_3, a_4, a_5, a_6, a_7, a_8, a_9, a_f⟩ := ha.ten; obtain ⟨b_0, b_1, b_2, b_3, b_4, b_5, b_6, b_7, b_8, b_9, b_f⟩ := hb.ten; obtain ⟨c_0, c_1, c_2, c_3, c_4, c_5, c_6, c_7, c_8, c_9, c_f⟩ := hc.ten) | (go_at_call 29; (with_reducible refine (le_any q p _).mono ?_); rw [Hlqp.out]; rintro e' w1 ⟨rfl, hb1⟩; replace hp := hp.below hb1; replace hq := hq.below hb1; replace hs := hs.below hb1; replace ha := ha.below hb1; replace hb := hb.below hb1; replace hc := hc.below hb1; replace hz := below_of hz hb1; replace hy := below_of hy hb1; clear hb1; clear p_0 p_1 p_2 p_3 p_4 p_5 p_6 p_7 p_8 p_9 p_f q_0 q_1 q_2 q_3 q_4 q_5 q_6 q_7 q_8 q_9 q_f a_0 a_1 a_2 a_3 a_4 a_5 a_6 a_7 a_8 a_9 a_f b_0 b_1 b_2 b_3 b_4 b_5 b_6 b_7 b_8 b_9 b_f c_0 c_1 c_2 c_3 c_4 c_5 c_6 c_7 c_8 c_9 c_f; obtain ⟨p_0, p_1, p_2, p_3, p_4, p_5, p_6, p_7, p_8, p_9, p_f⟩ := hp.ten; obtain ⟨q_0, q_1, q_2, q_3, q_4, q_5, q_6, q_7, q_8, q_9, q_f⟩ := hq.ten; obtain ⟨a_0, a_1, a_2, a_3, a_4, a_5, a_6, a_7, a_8, a_9, a_f⟩ := ha.ten; obtain ⟨b_0, b_1, b_2, b_3, b_4, b_5, b_6, b_7, b_8, b_9, b_f⟩ := hb.ten; obtain ⟨c_0, c_1, c_2, c_3, c_4, c_5, c_6, c_7, c_8, c_9, c_f⟩ := hc.ten) | (go_at_call 29; (with_reducible refine (le_any q s _).mono ?_); rw [Hlqs.out]; rintro e' w1 ⟨rfl, hb1⟩; replace hp := hp.below hb1; replace hq := hq.below hb1; replace hs := hs.below hb1; replace ha := ha.below hb1; replace hb := hb.below hb1; replace hc := hc.below hb1; replace hz := below_of hz hb1; replace hy := below_of hy hb1; clear hb1; clear p_0 p_1 p_2 p_3 p_4 p_5 p_6 p_7 p_8 p_9 p_f q_0 q_1 q_2 q_3 q_4 q_5 q_6 q_7 q_8 q_9 q_f a_0 a_1 a_2 a_3 a_4 a_5 a_6 a_7 a_8 a_9 a_f b_0 b_1 b_2 b_3 b_4 b_5 b_6 b_7 b_8 b_9 b_f c_0 c_1 c_2 c_3 c_4 c_5 c_6 c_7 c_8 c_9 c_f; obtain ⟨p_0, p_1, p_2, p_3, p_4, p_5, p_6, p_7, p_8, p_9, p_f⟩ := hp.ten; obtain ⟨q_0, q_1, q_2, q_3, q_4, q_5, q_6, q_7, q_8, q_9, q_f⟩ := hq.ten; obtain ⟨a_0, a_1, a_2, a_3, a_4, a_5, a_6, a_7, a_8, a_9, a_f⟩ := ha.ten; obtain ⟨b_0, b_1, b_2, b_3, b_4, b_5, b_6, b_7, b_8, b_9, b_f⟩ := hb.ten; obtain ⟨c_0, c_1, c_2, c_3, c_4, c_5, c_6, c_7, c_8, c_9, c_f⟩ := hc.ten) | (go_at_call 22; (with_reducible refine (check_all p.f p.k p.a0 p.a1 p.a2 p.a3 p.u p.l0 p.l1 p.l2 _ _ HC.out).mono ?_); rintro e' w1 ⟨rfl, hb1⟩; replace hp := hp.below hb1; replace hq := hq.below hb1; replace hs := hs.below hb1; replace ha := ha.below hb1; replace hb := hb.below hb1; replace hc := hc.below hb1; replace hz := below_of hz hb1; replace hy := below_of hy hb1; clear hb1; clear p_0 p_1 p_2 p_3 p_4 p_5 p_6 p_7 p_8 p_9 p_f q_0 q_1 q_2 q_3 q_4 q_5 q_6 q_7 q_8 q_9 q_f a_0 a_1 a_2 a_3 a_4 a_5 a_6 a_7 a_8 a_9 a_f b_0 b_1 b_2 b_3 b_4 b_5 b_6 b_7 b_8 b_9 b_f c_0 c_1 c_2 c_3 c_4 c_5 c_6 c_7 c_8 c_9 c_f; obtain ⟨p_0, p_1, p_2, p_3, p_4, p_5, p_6, p_7, p_8, p_9, p_f⟩ := hp.ten; obtain ⟨q_0, q_1, q_2, q_3, q_4, q_5, q_6, q_7, q_8, q_9, q_f⟩ := hq.ten; obtain ⟨a_0, a_1, a_2, a_3, a_4, a_5, a_6, a_7, a_8, a_9, a_f⟩ := ha.ten; obtain ⟨b_0, b_1, b_2, b_3, b_4, b_5, b_6, b_7, b_8, b_9, b_f⟩ := hb.ten; obtain ⟨c_0, c_1, c_2, c_3, c_4, c_5, c_6, c_7, c_8, c_9, c_f⟩ := hc.ten))
            go_meet
            case rel => exact ⟨rfl, hy⟩
        · have hpq := le_anti Hlpq.out Hlqp.out
          subst hpq
          obtain rfl : lpp = true := Hlpp.out.symm.trans Hlpq.out
          by_cases hcp : cp = 0
          · subst hcp
            obtain ⟨p_0, p_1, p_2, p_3, p_4, p_5, p_6, p_7, p_8, p_9, p_f⟩ := hp.ten
            obtain ⟨q_0, q_1, q_2, q_3, q_4, q_5, q_6, q_7, q_8, q_9, q_f⟩ := hq.ten
            obtain ⟨a_0, a_1, a_2, a_3, a_4, a_5, a_6, a_7, a_8, a_9, a_f⟩ := ha.ten
            obtain ⟨b_0, b_1, b_2, b_3, b_4, b_5, b_6, b_7, b_8, b_9, b_f⟩ := hb.ten
            obtain ⟨c_0, c_1, c_2, c_3, c_4, c_5, c_6, c_7, c_8, c_9, c_f⟩ := hc.ten
            go_wp2_with (first | (go_at_call 29; (with_reducible refine (le_any p p _).mono ?_); rw [Hlpp.out]; rintro e' w1 ⟨rfl, hb1⟩; replace hp := hp.below hb1; replace hq := hq.below hb1; replace hs := hs.below hb1; replace ha := ha.below hb1; replace hb := hb.below hb1; replace hc := hc.below hb1; replace hz := below_of hz hb1; replace hy := below_of hy hb1; clear hb1; clear p_0 p_1 p_2 p_3 p_4 p_5 p_6 p_7 p_8 p_9 p_f q_0 q_1 q_2 q_3 q_4 q_5 q_6 q_7 q_8 q_9 q_f a_0 a_1 a_2 a_3 a_4 a_5 a_6 a_7 a_8 a_9 a_f b_0 b_1 b_2 b_3 b_4 b_5 b_6 b_7 b_8 b_9 b_f c_0 c_1 c_2 c_3 c_4 c_5 c_6 c_7 c_8 c_9 c_f; obtain ⟨p_0, p_1, p_2, p_3, p_4, p_5, p_6, p_7, p_8, p_9, p_f⟩ := hp.ten; obtain ⟨q_0, q_1, q_2, q_3, q_4, q_5, q_6, q_7, q_8, q_9, q_f⟩ := hq.ten; obtain ⟨a_0, a_1, a_2, a_3, a_4, a_5, a_6, a_7, a_8, a_9, a_f⟩ := ha.ten; obtain ⟨b_0, b_1, b_2, b_3, b_4, b_5, b_6, b_7, b_8, b_9, b_f⟩ := hb.ten; obtain ⟨c_0, c_1, c_2, c_3, c_4, c_5, c_6, c_7, c_8, c_9, c_f⟩ := hc.ten) | (go_at_call 29; (with_reducible refine (le_any p q _).mono ?_); rw [Hlpq.out]; rintro e' w1 ⟨rfl, hb1⟩; replace hp := hp.below hb1; replace hq := hq.below hb1; replace hs := hs.below hb1; replace ha := ha.below hb1; replace hb := hb.below hb1; replace hc := hc.below hb1; replace hz := below_of hz hb1; replace hy := below_of hy hb1; clear hb1; clear p_0 p_1 p_2 p_3 p_4 p_5 p_6 p_7 p_8 p_9 p_f q_0 q_1 q_2 q_3 q_4 q_5 q_6 q_7 q_8 q_9 q_f a_0 a_1 a_2 a_3 a_4 a_5 a_6 a_7 a_8 a_9 a_f b_0 b_1 b_2 b_3 b_4 b_5 b_6 b_7 b_8 b_9 b_f c_0 c_1 c_2 c_3 c_4 c_5 c_6 c_7 c_8 c_9 c_f; obtain ⟨p_0, p_1, p_2, p_3, p_4, p_5, p_6, p_7, p_8, p_9, p_f⟩ := hp.ten; obtain ⟨q_0, q_1, q_2, q_3, q_4, q_5, q_6, q_7, q_8, q_9, q_f⟩ := hq.ten; obtain ⟨a_0, a_1, a_2, a_3, a_4, a_5, a_6, a_7, a_8, a_9, a_f⟩ := ha.ten; obtain ⟨b_0, b_1, b_2, b_3, b_4, b_5, b_6, b_7, b_8, b_9, b_f⟩ := hb.ten; obtain ⟨c_0, c_1, c_2, c_3, c_4, c_5, c_6, c_7, c_8, c_9, c_f⟩ := hc.ten) | (go_at_call 29; (with_reducible refine (le_any p s _).mono ?_); rw [Hlps.out]; rintro e' w1 ⟨rfl, hb1⟩; replace hp := hp.below hb1; replace hq := hq.below hb1; replace hs := hs.below hb1; replace ha := ha.below hb1; replace hb := hb.below hb1; replace hc := hc.below hb1; replace hz := below_of hz hb1; replace hy := below_of hy hb1; clear hb1; clear p_0 p_1 p_2 p_3 p_4 p_5 p_6 p_7 p_8 p_9 p_f q_0 q_1 q_2 q_3 q_4 q_5 q_6 q_7 q_8 q_9 q_f a_0 a_1 a_2 a_3 a_4 a_5 a_6 a_7 a_8 a_9 a_f b_0 b_1 b_2 b_3 b_4 b_5 b_6 b_7 b_8 b_9 b_f c_0 c_1 c_2 c_3 c_4 c_5 c_6 c_7 c_8 c_9 c_f; obtain ⟨p_0, p_1, p_2, p_3, p_4, p_5, p_6, p_7, p_8, p_9, p_f⟩ := hp.ten; obtain ⟨q_0, q_1, q_2, q_3, q_4, q_5, q_6, q_7, q_8, q_9, q_f⟩ := hq.ten; obtain ⟨a_0, a_1, a_2, a_3, a_4, a_5, a_6, a_7, a_8, a_9, a_f⟩ := ha.ten; obtain ⟨b_0, b_1, b_2, b_3, b_4, b_5, b_6, b_7, b_8, b_9, b_f⟩ := hb.ten; obtain ⟨c_0, c_1, c_2, c_3, c_4, c_5, c_6, c_7, c_8, c_9, c_f⟩ := hc.ten) | (go_at_call 29; (with_reducible refine (le_any q p _).mono ?_); rw [Hlqp.out]; rintro e' w1 ⟨rfl, hb1⟩; replace hp := hp.below hb1; replace hq := hq.below hb1; replace hs := hs.below hb1; replace ha := ha.below hb1; replace hb := hb.below hb1; replace hc := hc.below hb1; replace hz := below_of hz hb1; replace hy := below_of hy hb1; clear hb1; clear p_0 p_1 p_2 p_3 p_4 p_5 p_6 p_7 p_8 p_9 p_f q_0 q_1 q_2 q_3 q_4 q_5 q_6 q_7 q_8 q_9 q_f a_0 a_1 a_2 a_3 a_4 a_5 a_6 a_7 a_8 a_9 a_f b_0 b_1 b_2 b_3 b_4 b_5 b_6 b_7 b_8 b_9 b_f c_0 c_1 c_2 c_3 c_4 c_5 c_6 c_7 c_8 c_9 c_f; obtain ⟨p_0, p_1, p_2, p_3, p_4, p_5, p_6, p_7, p_8, p_9, p_f⟩ := hp.ten; obtain ⟨q_0, q_1, q_2, q_3, q_4, q_5, q_6, q_7, q_8, q_9, q_f⟩ := hq.ten; obtain ⟨a_0, a_1, a_2, a_3, a_4, a_5, a_6, a_7, a_8, a_9, a_f⟩ := ha.ten; obtain ⟨b_0, b_1, b_2, b_3, b_4, b_5, b_6, b_7, b_8, b_9, b_f⟩ := hb.ten; obtain ⟨c_0, c_1, c_2, c_3, c_4, c_5, c_6, c_7, c_8, c_9, c_f⟩ := hc.ten) | (go_at_call 29; (with_reducible refine (le_any q s _).mono ?_); rw [Hlqs.out]; rintro e' w1 ⟨rfl, hb1⟩; replace hp := hp.below hb1; replace hq := hq.below hb1; replace hs := hs.below hb1; replace ha := ha.below hb1; replace hb := hb.below hb1; replace hc := hc.below hb1; replace hz := below_of hz hb1; replace hy := below_of hy hb1; clear hb1; clear p_0 p_1 p_2 p_3 p_4 p_5 p_6 p_7 p_8 p_9 p_f q_0 q_1 q_2 q_3 q_4 q_5 q_6 q_7 q_8 q_9 q_f a_0 a_1 a_2 a_3 a_4 a_5 a_6 a_7 a_8 a_9 a_f b_0 b_1 b_2 b_3 b_4 b_5 b_6 b_7 b_8 b_9 b_f c_0 c_1 c_2 c_3 c_4 c_5 c_6 c_7 c_8 c_9 c_f; obtain ⟨p_0, p_1, p_2, p_3, p_4, p_5, p_6, p_7, p_8, p_9, p_f⟩ := hp.ten; obtain ⟨q_0, q_1, q_2, q_3, q_4, q_5, q_6, q_7, q_8, q_9, q_f⟩ := hq.ten; obtain ⟨a_0, a_1, a_2, a_3, a_4, a_5, a_6, a_7, a_8, a_9, a_f⟩ := ha.ten; obtain ⟨b_0, b_1, b_2, b_3, b_4, b_5, b_6, b_7, b_8, b_9, b_f⟩ := hb.ten; obtain ⟨c_0, c_1, c_2, c_3, c_4, c_5, c_6, c_7, c_8, c_9, c_f⟩ := hc.ten) | (go_at_call 22; (with_reducible refine (check_all p.f p.k p.a0 p.a1 p.a2 p.a3 p.u p.l0 p.l1 p.l2 _ _ HC.out).mono ?_); rintro e' w1 ⟨rfl, hb1⟩; replace hp := hp.below hb1; replace hq := hq.below hb1; replace hs := hs.below hb1; replace ha := ha.below hb1; replace hb := hb.below hb1; replace hc := hc.below hb1; replace hz := below_of hz hb1; replace hy := below_of hy hb1; clear hb1; clear p_0 p_1 p_2 p_3 p_4 p_5 p_6 p_7 p_8 p_9 p_f q_0 q_1 q_2 q_3 q_4 q_5 q_6 q_7 q_8 q_9 q_f a_0 a_1 a_2 a_3 a_4 a_5 a_6 a_7 a_8 a_9 a_f b_0 b_1 b_2 b_3 b_4 b_5 b_6 b_7 b_8 b_9 b_f c_0 c_1 c_2 c_3 c_4 c_5 c_6 c_7 c_8 c_9 c_f; obtain ⟨p_0, p_1, p_2, p_3, p_4, p_5, p_6, p_7, p_8, p_9, p_f⟩ := hp.ten; obtain ⟨q_0, q_1, q_2, q_3, q_4, q_5, q_6, q_7, q_8, q_9, q_f⟩ := hq.ten; obtain ⟨a_0, a_1, a_2, a_3, a_4, a_5, a_6, a_7, a_8, a_9, a_f⟩ := ha.ten; obtain ⟨b_0, b_1, b_2, b_3, b_4, b_5, b_6, b_7, b_8, b_9, b_f⟩ := hb.ten; obtain ⟨c_0, c_1, c_2, c_3, c_4, c_5, c_6, c_7, c_8, c_9, c_f⟩ := hc.ten))
            go_meet
            case rel => exact ⟨rfl, hy⟩
          · have hcpb : (cp == 0) = false := by simp [hcp]
            clear hcp
            obtain ⟨p_0, p_1, p_2, p_3, p_4, p_5, p_6, p_7, p_8, p_9, p_f⟩ := hp.ten
            obtain ⟨q_0, q_1, q_2, q_3, q_4, q_5, q_6, q_7, q_8, q_9, q_f⟩ := hq.ten
            obtain ⟨a_0, a_1, a_2, a_3, a_4, a_5, a_6, a_7, a_8, a_9, a_f⟩ := ha.ten
            obtain ⟨b_0, b_1, b_2, b_3, b_4, b_5, b_6, b_7, b_8, b_9, b_f⟩ := hb.ten
            obtain ⟨c_0, c_1, c_2, c_3, c_4, c_5, c_6, c_7, c_8, c_9, c_f⟩ := hc.ten
            go_wp2_with (first | (go_at_call 29; (with_reducible refine (le_any p p _).mono ?_); rw [Hlpp.out]; rintro e' w1 ⟨rfl, hb1⟩; replace hp := hp.below hb1; replace hq := hq.below hb1; replace hs := hs.below hb1; replace ha := ha.below hb1; replace hb := hb.below hb1; replace hc := hc.below hb1; replace hz := below_of hz hb1; replace hy := below_of hy hb1; clear hb1; clear p_0 p_1 p_2 p_3 p_4 p_5 p_6 p_7 p_8 p_9 p_f q_0 q_1 q_2 q_3 q_4 q_5 q_6 q_7 q_8 q_9 q_f a_0 a_1 a_2 a_3 a_4 a_5 a_6 a_7 a_8 a_9 a_f b_0 b_1 b_2 b_3 b_4 b_5 b_6 b_7 b_8 b_9 b_f c_0 c_1 c_2 c_3 c_4 c_5 c_6 c_7 c_8 c_9 c_f; obtain ⟨p_0, p_1, p_2, p_3, p_4, p_5, p_6, p_7, p_8, p_9, p_f⟩ := hp.ten; obtain ⟨q_0, q_1, q_2, q_3, q_4, q_5, q_6, q_7, q_8, q_9, q_f⟩ := hq.ten; obtain ⟨a_0, a_1, a_2, a_3, a_4, a_5, a_6, a_7, a_8, a_9, a_f⟩ := ha.ten; obtain ⟨b_0, b_1, b_2, b_3, b_4, b_5, b_6, b_7, b_8, b_9, b_f⟩ := hb.ten; obtain ⟨c_0, c_1, c_2, c_3, c_4, c_5, c_6, c_7, c_8, c_9, c_f⟩ := hc.ten) | (go_at_call 29; (with_reducible refine (le_any p q _).mono ?_); rw [Hlpq.out]; rintro e' w1 ⟨rfl, hb1⟩; replace hp := hp.below hb1; replace hq := hq.below hb1; replace hs := hs.below hb1; replace ha := ha.below hb1; replace hb := hb.below hb1; replace hc := hc.below hb1; replace hz := below_of hz hb1; replace hy := below_of hy hb1; clear hb1; clear p_0 p_1 p_2 p_3 p_4 p_5 p_6 p_7 p_8 p_9 p_f q_0 q_1 q_2 q_3 q_4 q_5 q_6 q_7 q_8 q_9 q_f a_0 a_1 a_2 a_3 a_4 a_5 a_6 a_7 a_8 a_9 a_f b_0 b_1 b_2 b_3 b_4 b_5 b_6 b_7 b_8 b_9 b_f c_0 c_1 c_2 c_3 c_4 c_5 c_6 c_7 c_8 c_9 c_f; obtain ⟨p_0, p_1, p_2, p_3, p_4, p_5, p_6, p_7, p_8, p_9, p_f⟩ := hp.ten; obtain ⟨q_0, q_1, q_2, q_3, q_4, q_5, q_6, q_7, q_8, q_9, q_f⟩ := hq.ten; obtain ⟨a_0, a_1, a_2, a_3, a_4, a_5, a_6, a_7, a_8, a_9, a_f⟩ := ha.ten; obtain ⟨b_0, b_1, b_2, b_3, b_4, b_5, b_6, b_7, b_8, b_9, b_f⟩ := hb.ten; obtain ⟨c_0, c_1, c_2, c_3, c_4, c_5, c_6, c_7, c_8, c_9, c_f⟩ := hc.ten) | (go_at_call 29; (with_reducible refine (le_any p s _).mono ?_); rw [Hlps.out]; rintro e' w1 ⟨rfl, hb1⟩; replace hp := hp.below hb1; replace hq := hq.below hb1; replace hs := hs.below hb1; replace ha := ha.below hb1; replace hb := hb.below hb1; replace hc := hc.below hb1; replace hz := below_of hz hb1; replace hy := below_of hy hb1; clear hb1; clear p_0 p_1 p_2 p_3 p_4 p_5 p_6 p_7 p_8 p_9 p_f q_0 q_1 q_2 q_3 q_4 q_5 q_6 q_7 q_8 q_9 q_f a_0 a_1 a_2 a_3 a_4 a_5 a_6 a_7 a_8 a_9 a_f b_0 b_1 b_2 b_3 b_4 b_5 b_6 b_7 b_8 b_9 b_f c_0 c_1 c_2 c_3 c_4 c_5 c_6 c_7 c_8 c_9 c_f; obtain ⟨p_0, p_1, p_2, p_3, p_4, p_5, p_6, p_7, p_8, p_9, p_f⟩ := hp.ten; obtain ⟨q_0, q_1, q_2, q_3, q_4, q_5, q_6, q_7, q_8, q_9, q_f⟩ := hq.ten; obtain ⟨a_0, a_1, a_2, a_3, a_4, a_5, a_6, a_7, a_8, a_9, a_f⟩ := ha.ten; obtain ⟨b_0, b_1, b_2, b_3, b_4, b_5, b_6, b_7, b_8, b_9, b_f⟩ := hb.ten; obtain ⟨c_0, c_1, c_2, c_3, c_4, c_5, c_6, c_7, c_8, c_9, c_f⟩ := hc.ten) | (go_at_call 29; (with_reducible refine (le_any q p _).mono ?_); rw [Hlqp.out]; rintro e' w1 ⟨rfl, hb1⟩; replace hp := hp.below hb1; replace hq := hq.below hb1; replace hs := hs.below hb1; replace ha := ha.below hb1; replace hb := hb.below hb1; replace hc := hc.below hb1; replace hz := below_of hz hb1; replace hy := below_of hy hb1; clear hb1; clear p_0 p_1 p_2 p_3 p_4 p_5 p_6 p_7 p_8 p_9 p_f q_0 q_1 q_2 q_3 q_4 q_5 q_6 q_7 q_8 q_9 q_f a_0 a_1 a_2 a_3 a_4 a_5 a_6 a_7 a_8 a_9 a_f b_0 b_1 b_2 b_3 b_4 b_5 b_6 b_7 b_8 b_9 b_f c_0 c_1 c_2 c_3 c_4 c_5 c_6 c_7 c_8 c_9 c_f; obtain ⟨p_0, p_1, p_2, p_3, p_4, p_5, p_6, p_7, p_8, p_9, p_f⟩ := hp.ten; obtain ⟨q_0, q_1, q_2, q_3, q_4, q_5, q_6, q_7, q_8, q_9, q_f⟩ := hq.ten; obtain ⟨a_0, a_1, a_2, a_3, a_4, a_5, a_6, a_7, a_8, a_9, a_f⟩ := ha.ten; obtain ⟨b_0, b_1, b_2, b_3, b_4, b_5, b_6, b_7, b_8, b_9, b_f⟩ := hb.ten; obtain ⟨c_0, c_1, c_2, c_3, c_4, c_5, c_6, c_7, c_8, c_9, c_f⟩ := hc.ten) | (go_at_call 29; (with_reducible refine (le_any q s _).mono ?_); rw [Hlqs.out]; rintro e' w1 ⟨rfl, hb1⟩; replace hp := hp.below hb1; replace hq := hq.below hb1; replace hs := hs.below hb1; replace ha := ha.below hb1; replace hb := hb.below hb1; replace hc := hc.below hb1; replace hz := below_of hz hb1; replace hy := below_of hy hb1; clear hb1; clear p_0 p_1 p_2 p_3 p_4 p_5 p_6 p_7 p_8 p_9 p_f q_0 q_1 q_2 q_3 q_4 q_5 q_6 q_7 q_8 q_9 q_f a_0 a_1 a_2 a_3 a_4 a_5 a_6 a_7 a_8 a_9 a_f b_0 b_1 b_2 b_3 b_4 b_5 b_6 b_7 b_8 b_9 b_f c_0 c_1 c_2 c_3 c_4 c_5 c_6 c_7 c_8 c_9 c_f; obtain ⟨p_0, p_1, p_2, p_3, p_4, p_5, p_6, p_7, p_8, p_9, p_f⟩ := hp.ten; obtain ⟨q_0, q_1, q_2, q_3, q_4, q_5, q_6, q_7, q_8, q_9, q_f⟩ := hq.ten; obtain ⟨a_0, a_1, a_2, a_3, a_4, a_5, a_6, a_7, a_8, a_9, a_f⟩ := ha.ten; obtain ⟨b_0, b_1, b_2, b_3, b_4, b_5, b_6, b_7, b_8, b_9, b_f⟩ := hb.ten; obtain ⟨c_0, c_1, c_2, c_3, c_4, c_5, c_6, c_7, c_8, c_9, c_f⟩ := hc.ten) | (go_at_call 22; (with_reducible refine (check_all p.f p.k p.a0 p.a1 p.a2 p.a3 p.u p.l0 p.l1 p.l2 _ _ HC.out).mono ?_); rintro e' w1 ⟨rfl, hb1⟩; replace hp := hp.below hb1; replace hq := hq.below hb1; replace hs := hs.below hb1; replace ha := ha.below hb1; replace hb := hb.below hb1; replace hc := hc.below hb1; replace hz := below_of hz hb1; replace hy := below_of hy hb1; clear hb1; clear p_0 p_1 p_2 p_3 p_4 p_5 p_6 p_7 p_8 p_9 p_f q_0 q_1 q_2 q_3 q_4 q_5 q_6 q_7 q_8 q_9 q_f a_0 a_1 a_2 a_3 a_4 a_5 a_6 a_7 a_8 a_9 a_f b_0 b_1 b_2 b_3 b_4 b_5 b_6 b_7 b_8 b_9 b_f c_0 c_1 c_2 c_3 c_4 c_5 c_6 c_7 c_8 c_9 c_f; obtain ⟨p_0, p_1, p_2, p_3, p_4, p_5, p_6, p_7, p_8, p_9, p_f⟩ := hp.ten; obtain ⟨q_0, q_1, q_2, q_3, q_4, q_5, q_6, q_7, q_8, q_9, q_f⟩ := hq.ten; obtain ⟨a_0, a_1, a_2, a_3, a_4, a_5, a_6, a_7, a_8, a_9, a_f⟩ := ha.ten; obtain ⟨b_0, b_1, b_2, b_3, b_4, b_5, b_6, b_7, b_8, b_9, b_f⟩ := hb.ten; obtain ⟨c_0, c_1, c_2, c_3, c_4, c_5, c_6, c_7, c_8, c_9, c_f⟩ := hc.ten))
            go_meet
            case rel => exact ⟨rfl, hy⟩
  case rest =>
  obtain ⟨rfl, hcut⟩ := hcut
  replace hp := hp.below hcut
  replace hq := hq.below hcut
  replace hs := hs.below hcut
  replace ha := ha.below hcut
  replace hb := hb.below hcut
  replace hc := hc.below hcut
  replace hz := below_of hz hcut
  clear hcut
  go_upto_region 6 with (fail)
  go_cut [73] (fun vt wr => vt = .bool false ∧ Below wc.heap.size wc wr)
  case first =>
    have hy : Below wc.heap.size wc wc := Below.refl _ _
    by_cases h1 : cpq ≤ 0
    · have d1 : decide (cpq ≤ 0) = true := by simp [h1]
      by_cases h2 : cqs ≤ 0
      · have h3 := compare_trans p q s (by rw [Hcpq.out]; exact h1) (by rw [Hcqs.out]; exact h2)
        rw [Hcps.out] at h3
        have d2 : decide (cqs ≤ 0) = true := by simp [h2]
        have d3 : decide (0 < cps) = false := by simp; omega
        obtain ⟨p_0, p_1, p_2, p_3, p_4, p_5, p_6, p_7, p_8, p_9, p_f⟩ := hp.ten
        obtain ⟨q_0, q_1, q_2, q_3, q_4, q_5, q_6, q_7, q_8, q_9, q_f⟩ := hq.ten
        obtain ⟨a_0, a_1, a_2, a_3, a_4, a_5, a_6, a_7, a_8, a_9, a_f⟩ := ha.ten
        obtain ⟨b_0, b_1, b_2, b_3, b_4, b_5, b_6, b_7, b_8, b_9, b_f⟩ := hb.ten
        obtain ⟨c_0, c_1, c_2, c_3, c_4, c_5, c_6, c_7, c_8, c_9, c_f⟩ := hc.ten
        go_wp2_with (first | (go_at_call 31; (with_reducible refine (compare_any p q _).mono ?_); rw [Hcpq.out]; rintro e' w1 ⟨rfl, hb1⟩; replace hp := hp.below hb1; replace hq := hq.below hb1; replace hs := hs.below hb1; replace ha := ha.below hb1; replace hb := hb.below hb1; replace hc := hc.below hb1; replace hz := below_of hz hb1; replace hy := below_of hy hb1; clear hb1; clear p_0 p_1 p_2 p_3 p_4 p_5 p_6 p_7 p_8 p_9 p_f q_0 q_1 q_2 q_3 q_4 q_5 q_6 q_7 q_8 q_9 q_f a_0 a_1 a_2 a_3 a_4 a_5 a_6 a_7 a_8 a_9 a_f b_0 b_1 b_2 b_3 b_4 b_5 b_6 b_7 b_8 b_9 b_f c_0 c_1 c_2 c_3 c_4 c_5 c_6 c_7 c_8 c_9 c_f; obtain ⟨p_0, p_1, p_2, p_3, p_4, p_5, p_6, p_7, p_8, p_9, p_f⟩ := hp.ten; obtain ⟨q_0, q_1, q_2, q_3, q_4, q_5, q_6, q_7, q_8, q_9, q_f⟩ := hq.ten; obtain ⟨a_0, a_1, a_2, a_3, a_4, a_5, a_6, a_7, a_8, a_9, a_f⟩ := ha.ten; obtain ⟨b_0, b_1, b_2, b_3, b_4, b_5, b_6, b_7, b_8, b_9, b_f⟩ := hb.ten; obtain ⟨c_0, c_1, c_2, c_3, c_4, c_5, c_6, c_7, c_8, c_9, c_f⟩ := hc.ten) | (go_at_call 31; (with_reducible refine (compare_any q s _).mono ?_); rw [Hcqs.out]; rintro e' w1 ⟨rfl, hb1⟩; replace hp := hp.below hb1; replace hq := hq.below hb1; replace hs := hs.below hb1; replace ha := ha.below hb1; replace hb := hb.below hb1; replace hc := hc.below hb1; replace hz := below_of hz hb1; replace hy := below_of hy hb1; clear hb1; clear p_0 p_1 p_2 p_3 p_4 p_5 p_6 p_7 p_8 p_9 p_f q_0 q_1 q_2 q_3 q_4 q_5 q_6 q_7 q_8 q_9 q_f a_0 a_1 a_2 a_3 a_4 a_5 a_6 a_7 a_8 a_9 a_f b_0 b_1 b_2 b_3 b_4 b_5 b_6 b_7 b_8 b_9 b_f c_0 c_1 c_2 c_3 c_4 c_5 c_6 c_7 c_8 c_9 c_f; obtain ⟨p_0, p_1, p_2, p_3, p_4, p_5, p_6, p_7, p_8, p_9, p_f⟩ := hp.ten; obtain ⟨q_0, q_1, q_2, q_3, q_4, q_5, q_6, q_7, q_8, q_9, q_f⟩ := hq.ten; obtain ⟨a_0, a_1, a_2, a_3, a_4, a_5, a_6, a_7, a_8, a_9, a_f⟩ := ha.ten; obtain ⟨b_0, b_1, b_2, b_3, b_4, b_5, b_6, b_7, b_8, b_9, b_f⟩ := hb.ten; obtain ⟨c_0, c_1, c_2, c_3, c_4, c_5, c_6, c_7, c_8, c_9, c_f⟩ := hc.ten) | (go_at_call 31; (with_reducible refine (compare_any p s _).mono ?_); rw [Hcps.out]; rintro e' w1 ⟨rfl, hb1⟩; replace hp := hp.below hb1; replace hq := hq.below hb1; replace hs := hs.below hb1; replace ha := ha.below hb1; replace hb := hb.below hb1; replace hc := hc.below hb1; replace hz := below_of hz hb1; replace hy := below_of hy hb1; clear hb1; clear p_0 p_1 p_2 p_3 p_4 p_5 p_6 p_7 p_8 p_9 p_f q_0 q_1 q_2 q_3 q_4 q_5 q_6 q_7 q_8 q_9 q_f a_0 a_1 a_2 a_3 a_4 a_5 a_6 a_7 a_8 a_9 a_f b_0 b_1 b_2 b_3 b_4 b_5 b_6 b_7 b_8 b_9 b_f c_0 c_1 c_2 c_3 c_4 c_5 c_6 c_7 c_8 c_9 c_f; obtain ⟨p_0, p_1, p_2, p_3, p_4, p_5, p_6, p_7, p_8, p_9, p_f⟩ := hp.ten; obtain ⟨q_0, q_1, q_2, q_3, q_4, q_5, q_6, q_7, q_8, q_9, q_f⟩ := hq.ten; obtain ⟨a_0, a_1, a_2, a_3, a_4, a_5, a_6, a_7, a_8, a_9, a_f⟩ := ha.ten; obtain ⟨b_0, b_1, b_2, b_3, b_4, b_5, b_6, b_7, b_8, b_9, b_f⟩ := hb.ten; obtain ⟨c_0, c_1, c_2, c_3, c_4, c_5, c_6, c_7, c_8, c_9, c_f⟩ := hc.ten) | (go_at_call 31; (with_reducible refine (compare_any q p _).mono ?_); rw [Hcqp.out]; rintro e' w1 ⟨rfl, hb1⟩; replace hp := hp.below hb1; replace hq := hq.below hb1; replace hs := hs.below hb1; replace ha := ha.below hb1; replace hb := hb.below hb1; replace hc := hc.below hb1; replace hz := below_of hz hb1; replace hy := below_of hy hb1; clear hb1; clear p_0 p_1 p_2 p_3 p_4 p_5 p_6 p_7 p_8 p_9 p_f q_0 q_1 q_2 q_3 q_4 q_5 q_6 q_7 q_8 q_9 q_f a_0 a_1 a_2 a_3 a_4 a_5 a_6 a_7 a_8 a_9 a_f b_0 b_1 b_2 b_3 b_4 b_5 b_6 b_7 b_8 b_9 b_f c_0 c_1 c_2 c_3 c_4 c_5 c_6 c_7 c_8 c_9 c_f; obtain ⟨p_0, p_1, p_2, p_3, p_4, p_5, p_6, p_7, p_8, p_9, p_f⟩ := hp.ten; obtain ⟨q_0, q_1, q_2, q_3, q_4, q_5, q_6, q_7, q_8, q_9, q_f⟩ := hq.ten; obtain ⟨a_0, a_1, a_2, a_3, a_4, a_5, a_6, a_7, a_8, a_9, a_f⟩ := ha.ten; obtain ⟨b_0, b_1, b_2, b_3, b_4, b_5, b_6, b_7, b_8, b_9, b_f⟩ := hb.ten; obtain ⟨c_0, c_1, c_2, c_3, c_4, c_5, c_6, c_7, c_8, c_9, c_f⟩ := hc.ten))
        go_meet
        case rel => exact ⟨rfl, hy⟩
      · have d2 : decide (cqs ≤ 0) = false := by simp; omega
        obtain ⟨p_0, p_1, p_2, p_3, p_4, p_5, p_6, p_7, p_8, p_9, p_f⟩ := hp.ten
        obtain ⟨q_0, q_1, q_2, q_3, q_4, q_5, q_6, q_7, q_8, q_9, q_f⟩ := hq.ten
        obtain ⟨a_0, a_1, a_2, a_3, a_4, a_5, a_6, a_7, a_8, a_9, a_f⟩ := ha.ten
        obtain ⟨b_0, b_1, b_2, b_3, b_4, b_5, b_6, b_7, b_8, b_9, b_f⟩ := hb.ten
        obtain ⟨c_0, c_1, c_2, c_3, c_4, c_5, c_6, c_7, c_8, c_9, c_f⟩ := hc.ten
        go_wp2_with (first | (go_at_call 31; (with_reducible refine (compare_any p q _).mono ?_); rw [Hcpq.out]; rintro e' w1 ⟨rfl, hb1⟩; replace hp := hp.below hb1; replace hq := hq.below hb1; replace hs := hs.below hb1; replace ha := ha.below hb1; replace hb := hb.below hb1; replace hc := hc.below hb1; replace hz := below_of hz hb1; replace hy := below_of hy hb1; clear hb1; clear p_0 p_1 p_2 p_3 p_4 p_5 p_6 p_7 p_8 p_9 p_f q_0 q_1 q_2 q_3 q_4 q_5 q_6 q_7 q_8 q_9 q_f a_0 a_1 a_2 a_3 a_4 a_5 a_6 a_7 a_8 a_9 a_f b_0 b_1 b_2 b_3 b_4 b_5 b_6 b_7 b_8 b_9 b_f c_0 c_1 c_2 c_3 c_4 c_5 c_6 c_7 c_8 c_9 c_f; obtain ⟨p_0, p_1, p_2, p_3, p_4, p_5, p_6, p_7, p_8, p_9, p_f⟩ := hp.ten; obtain ⟨q_0, q_1, q_2, q_3, q_4, q_5, q_6, q_7, q_8, q_9, q_f⟩ := hq.ten; obtain ⟨a_0, a_1, a_2, a_3, a_4, a_5, a_6, a_7, a_8, a_9, a_f⟩ := ha.ten; obtain ⟨b_0, b_1, b_2, b_3, b_4, b_5, b_6, b_7, b_8, b_9, b_f⟩ := hb.ten; obtain ⟨c_0, c_1, c_2, c_3, c_4, c_5, c_6, c_7, c_8, c_9, c_f⟩ := hc.ten) | (go_at_call 31; (with_reducible refine (compare_any q s _).mono ?_); rw [Hcqs.out]; rintro e' w1 ⟨rfl, hb1⟩; replace hp := hp.below hb1; replace hq := hq.below hb1; replace hs := hs.below hb1; replace ha := ha.below hb1; replace hb := hb.below hb1; replace hc := hc.below hb1; replace hz := below_of hz hb1; replace hy := below_of hy hb1; clear hb1; clear p_0 p_1 p_2 p_3 p_4 p_5 p_6 p_7 p_8 p_9 p_f q_0 q_1 q_2 q_3 q_4 q_5 q_6 q_7 q_8 q_9 q_f a_0 a_1 a_2 a_3 a_4 a_5 a_6 a_7 a_8 a_9 a_f b_0 b_1 b_2 b_3 b_4 b_5 b_6 b_7 b_8 b_9 b_f c_0 c_1 c_2 c_3 c_4 c_5 c_6 c_7 c_8 c_9 c_f; obtain ⟨p_0, p_1, p_2, p_3, p_4, p_5, p_6, p_7, p_8, p_9, p_f⟩ := hp.ten; obtain ⟨q_0, q_1, q_2, q_3, q_4, q_5, q_6, q_7, q_8, q_9, q_f⟩ := hq.ten; obtain ⟨a_0, a_1, a_2, a_3, a_4, a_5, a_6, a_7, a_8, a_9, a_f⟩ := ha.ten; obtain ⟨b_0, b_1, b_2, b_3, b_4, b_5, b_6, b_7, b_8, b_9, b_f⟩ := hb.ten; obtain ⟨c_0, c_1, c_2, c_3, c_4, c_5, c_6, c_7, c_8, c_9, c_f⟩ := hc.ten) | (go_at_call 31; (with_reducible refine (compare_any p s _).mono ?_); rw [Hcps.out]; rintro e' w1 ⟨rfl, hb1⟩; replace hp := hp.below hb1; replace hq := hq.below hb1; replace hs := hs.below hb1; replace ha := ha.below hb1; replace hb := hb.below hb1; replace hc := hc.below hb1; replace hz := below_of hz hb1; replace hy := below_of hy hb1; clear hb1; clear p_0 p_1 p_2 p_3 p_4 p_5 p_6 p_7 p_8 p_9 p_f q_0 q_1 q_2 q_3 q_4 q_5 q_6 q_7 q_8 q_9 q_f a_0 a_1 a_2 a_3 a_4 a_5 a_6 a_7 a_8 a_9 a_f b_0 b_1 b_2 b_3 b_4 b_5 b_6 b_7 b_8 b_9 b_f c_0 c_1 c_2 c_3 c_4 c_5 c_6 c_7 c_8 c_9 c_f; obtain ⟨p_0, p_1, p_2, p_3, p_4, p_5, p_6, p_7, p_8, p_9, p_f⟩ := hp.ten; obtain ⟨q_0, q_1, q_2, q_3, q_4, q_5, q_6, q_7, q_8, q_9, q_f⟩ := hq.ten; obtain ⟨a_0, a_1, a_2, a_3, a_4, a_5, a_6, a_7, a_8, a_9, a_f⟩ := ha.ten; obtain ⟨b_0, b_1, b_2, b_3, b_4, b_5, b_6, b_7, b_8, b_9, b_f⟩ := hb.ten; obtain ⟨c_0, c_1, c_2, c_3, c_4, c_5, c_6, c_7, c_8, c_9, c_f⟩ := hc.ten) | (go_at_call 31; (with_reducible refine (compare_any q p _).mono ?_); rw [Hcqp.out]; rintro e' w1 ⟨rfl, hb1⟩; replace hp := hp.below hb1; replace hq := hq.below hb1; replace hs := hs.below hb1; replace ha := ha.below hb1; replace hb := hb.below hb1; replace hc := hc.below hb1; replace hz := below_of hz hb1; replace hy := below_of hy hb1; clear hb1; clear p_0 p_1 p_2 p_3 p_4 p_5 p_6 p_7 p_8 p_9 p_f q_0 q_1 q_2 q_3 q_4 q_5 q_6 q_7 q_8 q_9 q_f a_0 a_1 a_2 a_3 a_4 a_5 a_6 a_7 a_8 a_9 a_f b_0 b_1 b_2 b_3 b_4 b_5 b_6 b_7 b_8 b_9 b_f c_0 c_1 c_2 c_3 c_4 c_5 c_6 c_7 c_8 c_9 c_f; obtain ⟨p_0, p_1, p_2, p_3, p_4, p_5, p_6, p_7, p_8, p_9, p_f⟩ := hp.ten; obtain ⟨q_0, q_1, q_2, q_3, q_4, q_5, q_6, q_7, q_8, q_9, q_f⟩ := hq.ten; obtain ⟨a_0, a_1, a_2, a_3, a_4, a_5, a_6, a_7, a_8, a_9, a_f⟩ := ha.ten; obtain ⟨b_0, b_1, b_2, b_3, b_4, b_5, b_6, b_7, b_8, b_9, b_f⟩ := hb.ten; obtain ⟨c_0, c_1, c_2, c_3, c_4, c_5, c_6, c_7, c_8, c_9, c_f⟩ := hc.ten))
        go_meet
        case rel => exact ⟨rfl, hy⟩
    · have d1 : decide (cpq ≤ 0) = false := by simp; omega
      obtain ⟨p_0, p_1, p_2, p_3, p_4, p_5, p_6, p_7, p_8, p_9, p_f⟩ := hp.ten
      obtain ⟨q_0, q_1, q_2, q_3, q_4, q_5, q_6, q_7, q_8, q_9, q_f⟩ := hq.ten
      obtain ⟨a_0, a_1, a_2, a_3, a_4, a_5, a_6, a_7, a_8, a_9, a_f⟩ := ha.ten
      obtain ⟨b_0, b_1, b_2, b_3, b_4, b_5, b_6, b_7, b_8, b_9, b_f⟩ := hb.ten
      obtain ⟨c_0, c_1, c_2, c_3, c_4, c_5, c_6, c_7, c_8, c_9, c_f⟩ := hc.ten
      go_wp2_with (first | (go_at_call 31; (with_reducible refine (compare_any p q _).mono ?_); rw [Hcpq.out]; rintro e' w1 ⟨rfl, hb1⟩; replace hp := hp.below hb1; replace hq := hq.below hb1; replace hs := hs.below hb1; replace ha := ha.below hb1; replace hb := hb.below hb1; replace hc := hc.below hb1; replace hz := below_of hz hb1; replace hy := below_of hy hb1; clear hb1; clear p_0 p_1 p_2 p_3 p_4 p_5 p_6 p_7 p_8 p_9 p_f q_0 q_1 q_2 q_3 q_4 q_5 q_6 q_7 q_8 q_9 q_f a_0 a_1 a_2 a_3 a_4 a_5 a_6 a_7 a_8 a_9 a_f b_0 b_1 b_2 b_3 b_4 b_5 b_6 b_7 b_8 b_9 b_f c_0 c_1 c_2 c_3 c_4 c_5 c_6 c_7 c_8 c_9 c_f; obtain ⟨p_0, p_1, p_2, p_3, p_4, p_5, p_6, p_7, p_8, p_9, p_f⟩ := hp.ten; obtain ⟨q_0, q_1, q_2, q_3, q_4, q_5, q_6, q_7, q_8, q_9, q_f⟩ := hq.ten; obtain ⟨a_0, a_1, a_2, a_3, a_4, a_5, a_6, a_7, a_8, a_9, a_f⟩ := ha.ten; obtain ⟨b_0, b_1, b_2, b_3, b_4, b_5, b_6, b_7, b_8, b_9, b_f⟩ := hb.ten; obtain ⟨c_0, c_1, c_2, c_3, c_4, c_5, c_6, c_7, c_8, c_9, c_f⟩ := hc.ten) | (go_at_call 31; (with_reducible refine (compare_any q s _).mono ?_); rw [Hcqs.out]; rintro e' w1 ⟨rfl, hb1⟩; replace hp := hp.below hb1; replace hq := hq.below hb1; replace hs := hs.below hb1; replace ha := ha.below hb1; replace hb := hb.below hb1; replace hc := hc.below hb1; replace hz := below_of hz hb1; replace hy := below_of hy hb1; clear hb1; clear p_0 p_1 p_2 p_3 p_4 p_5 p_6 p_7 p_8 p_9 p_f q_0 q_1 q_2 q_3 q_4 q_5 q_6 q_7 q_8 q_9 q_f a_0 a_1 a_2 a_3 a_4 a_5 a_6 a_7 a_8 a_9 a_f b_0 b_1 b_2 b_3 b_4 b_5 b_6 b_7 b_8 b_9 b_f c_0 c_1 c_2 c_3 c_4 c_5 c_6 c_7 c_8 c_9 c_f; obtain ⟨p_0, p_1, p_2, p_3, p_4, p_5, p_6, p_7, p_8, p_9, p_f⟩ := hp.ten; obtain ⟨q_0, q_1, q_2, q_3, q_4, q_5, q_6, q_7, q_8, q_9, q_f⟩ := hq.ten; obtain ⟨a_0, a_1, a_2, a_3, a_4, a_5, a_6, a_7, a_8, a_9, a_f⟩ := ha.ten; obtain ⟨b_0, b_1, b_2, b_3, b_4, b_5, b_6, b_7, b_8, b_9, b_f⟩ := hb.ten; obtain ⟨c_0, c_1, c_2, c_3, c_4, c_5, c_6, c_7, c_8, c_9, c_f⟩ := hc.ten) | (go_at_call 31; (with_reducible refine (compare_any p s _).mono ?_); rw [Hcps.out]; rintro e' w1 ⟨rfl, hb1⟩; replace hp := hp.below hb1; replace hq := hq.below hb1; replace hs := hs.below hb1; replace ha := ha.below hb1; replace hb := hb.below hb1; replace hc := hc.below hb1; replace hz := below_of hz hb1; replace hy := below_of hy hb1; clear hb1; clear p_0 p_1 p_2 p_3 p_4 p_5 p_6 p_7 p_8 p_9 p_f q_0 q_1 q_2 q_3 q_4 q_5 q_6 q_7 q_8 q_9 q_f a_0 a_1 a_2 a_3 a_4 a_5 a_6 a_7 a_8 a_9 a_f b_0 b_1 b_2 b_3 b_4 b_5 b_6 b_7 b_8 b_9 b_f c_0 c_1 c_2 c_3 c_4 c_5 c_6 c_7 c_8 c_9 c_f; obtain ⟨p_0, p_1, p_2, p_3, p_4, p_5, p_6, p_7, p_8, p_9, p_f⟩ := hp.ten; obtain ⟨q_0, q_1, q_2, q_3, q_4, q_5, q_6, q_7, q_8, q_9, q_f⟩ := hq.ten; obtain ⟨a_0, a_1, a_2, a_3, a_4, a_5, a_6, a_7, a_8, a_9, a_f⟩ := ha.ten; obtain ⟨b_0, b_1, b_2, b_3, b_4, b_5, b_6, b_7, b_8, b_9, b_f⟩ := hb.ten; obtain ⟨c_0, c_1, c_2, c_3, c_4, c_5, c_6, c_7, c_8, c_9, c_f⟩ := hc.ten) | (go_at_call 31; (with_reducible refine (compare_any q p _).mono ?_); rw [Hcqp.out]; rintro e' w1 ⟨rfl, hb1⟩; replace hp := hp.below hb1; replace hq := hq.below hb1; replace hs := hs.below hb1; replace ha := ha.below hb1; replace hb := hb.below hb1; replace hc := hc.below hb1; replace hz := below_of hz hb1; replace hy := below_of hy hb1; clear hb1; clear p_0 p_1 p_2 p_3 p_4 p_5 p_6 p_7 p_8 p_9 p_f q_0 q_1 q_2 q_3 q_4 q_5 q_6 q_7 q_8 q_9 q_f a_0 a_1 a_2 a_3 a_4 a_5 a_6 a_7 a_8 a_9 a_f b_0 b_1 b_2 b_3 b_4 b_5 b_6 b_7 b_8 b_9 b_f c_0 c_1 c_2 c_3 c_4 c_5 c_6 c_7 c_8 c_9 c_f; obtain ⟨p_0, p_1, p_2, p_3, p_4, p_5, p_6, p_7, p_8, p_9, p_f⟩ := hp.ten; obtain ⟨q_0, q_1, q_2, q_3, q_4, q_5, q_6, q_7, q_8, q_9, q_f⟩ := hq.ten; obtain ⟨a_0, a_1, a_2, a_3, a_4, a_5, a_6, a_7, a_8, a_9, a_f⟩ := ha.ten; obtain ⟨b_0, b_1, b_2, b_3, b_4, b_5, b_6, b_7, b_8, b_9, b_f⟩ := hb.ten; obtain ⟨c_0, c_1, c_2, c_3, c_4, c_5, c_6, c_7, c_8, c_9, c_f⟩ := hc.ten))
      go_meet
      case rel => exact ⟨rfl, hy⟩
  case rest =>
  obtain ⟨rfl, hcut⟩ := hcut
  replace hp := hp.below hcut
  replace hq := hq.below hcut
  replace hs := hs.below hcut
  replace ha := ha.below hcut
  replace hb := hb.below hcut
  replace hc := hc.below hcut
  replace hz := below_of hz hcut
  clear hcut
  have hbd := compare_neg p q
  rw [Hcpq.out, Hcqp.out] at hbd
  have hb1_ := cmp_bd p q
  rw [Hcpq.out] at hb1_
  go_upto_region 8 with (fail)
  have hc3 : cpq = 0 ∨ cpq = 1 ∨ cpq = -1 := by omega
  rcases hc3 with rfl | rfl | rfl
  · obtain rfl : cqp = 0 := by omega
    have hpq := (compare_zero p q).1 Hcpq.out
    subst hpq
    clear hbd hb1_
    have ww0 : IntKind.i64.wrap 0 = 0 := by decide
    have ww1 : IntKind.i64.wrap 1 = 1 := by decide
    have ww2 : IntKind.i64.wrap (-1) = -1 := by decide
    have Hhp := Lib.hid hp
    have Hhq := Lib.hid hq
    have Hhs := Lib.hid hs
    have Hha := Lib.hid ha
    have Hhb := Lib.hid hb
    have Hhc := Lib.hid hc
    clear hp hq hs ha hb hc
    refine region_class (fun w => Below wc.heap.size wc w) (by kernel_rfl) (by kernel_rfl) ((Below.refl _ _).drew) ?_
    repeat
      (refine step_class (fun K hK => ?_)
       go_simp
       first
         | (refine hK _ ?_; clear hK K)
         | (with_reducible apply Hq.of
            · intro wv hv
              have Hv := Lib.hid hv
              have qp := Hhp.out.below hv
              obtain ⟨p_0, p_1, p_2, p_3, p_4, p_5, p_6, p_7, p_8, p_9, p_f⟩ := qp.ten
              clear qp
              have qq := Hhq.out.below hv
              obtain ⟨q_0, q_1, q_2, q_3, q_4, q_5, q_6, q_7, q_8, q_9, q_f⟩ := qq.ten
              clear qq
              have qa := Hha.out.below hv
              obtain ⟨a_0, a_1, a_2, a_3, a_4, a_5, a_6, a_7, a_8, a_9, a_f⟩ := qa.ten
              clear qa
              have qb := Hhb.out.below hv
              obtain ⟨b_0, b_1, b_2, b_3, b_4, b_5, b_6, b_7, b_8, b_9, b_f⟩ := qb.ten
              clear qb
              clear hv
              go_simp
              (first
                | (with_reducible exact rfl)
                | (go_at_call 31; (with_reducible refine (compare_any p p _).mono ?_); rw [Hcpq.out]; rintro e' w1 ⟨rfl, hb1⟩; exact ⟨rfl, below_of Hv.out hb1⟩))
            refine hK _ ?_
            clear hK K))
    refine nil_class ?_
    intro wn hbn
    have hp := Hhp.out.below hbn
    have hq := Hhq.out.below hbn
    have hs := Hhs.out.below hbn
    have ha := Hha.out.below hbn
    have hb := Hhb.out.below hbn
    have hc := Hhc.out.below hbn
    replace hz := below_of hz hbn
    clear Hhp Hhq Hhs Hha Hhb Hhc hbn wc
    obtain ⟨wc, rfl⟩ : ∃ wc, wc = wn := ⟨_, rfl⟩
    go_wp2
    go_ret
    exact ⟨rfl, hz⟩
  · obtain rfl : cqp = -1 := by omega
    have HNE := Lib.hid (show p ≠ q from fun e => absurd ((compare_zero p q).2 e) (by rw [Hcpq.out]; decide))
    clear hbd hb1_
    have ww0 : IntKind.i64.wrap 0 = 0 := by decide
    have ww1 : IntKind.i64.wrap 1 = 1 := by decide
    have ww2 : IntKind.i64.wrap (-1) = -1 := by decide
    have Hhp := Lib.hid hp
    have Hhq := Lib.hid hq
    have Hhs := Lib.hid hs
    have Hha := Lib.hid ha
    have Hhb := Lib.hid hb
    have Hhc := Lib.hid hc
    clear hp hq hs ha hb hc
    refine region_class (fun w => Below wc.heap.size wc w) (by kernel_rfl) (by kernel_rfl) ((Below.refl _ _).drew) ?_
    repeat
      (refine step_class (fun K hK => ?_)
       go_simp
       first
         | (refine hK _ ?_; clear hK K)
         | (with_reducible apply Hq.of
            · intro wv hv
              have Hv := Lib.hid hv
              have qp := Hhp.out.below hv
              obtain ⟨p_0, p_1, p_2, p_3, p_4, p_5, p_6, p_7, p_8, p_9, p_f⟩ := qp.ten
              clear qp
              have qq := Hhq.out.below hv
              obtain ⟨q_0, q_1, q_2, q_3, q_4, q_5, q_6, q_7, q_8, q_9, q_f⟩ := qq.ten
              clear qq
              have qa := Hha.out.below hv
              obtain ⟨a_0, a_1, a_2, a_3, a_4, a_5, a_6, a_7, a_8, a_9, a_f⟩ := qa.ten
              clear qa
              have qb := Hhb.out.below hv
              obtain ⟨b_0, b_1, b_2, b_3, b_4, b_5, b_6, b_7, b_8, b_9, b_f⟩ := qb.ten
              clear qb
              clear hv
              go_simp
              (first
                | (with_reducible exact rfl)
                | (rw [ne_if HNE.out]; exact ⟨rfl, rfl⟩)
                | (go_at_call 31; (with_reducible refine (compare_any p q _).mono ?_); rw [Hcpq.out]; rintro e' w1 ⟨rfl, hb1⟩; exact ⟨rfl, below_of Hv.out hb1⟩)
                | (go_at_call 31; (with_reducible refine (compare_any q p _).mono ?_); rw [Hcqp.out]; rintro e' w1 ⟨rfl, hb1⟩; exact ⟨rfl, below_of Hv.out hb1⟩))
            refine hK _ ?_
            clear hK K))
    refine nil_class ?_
    intro wn hbn
    have hp := Hhp.out.below hbn
    have hq := Hhq.out.below hbn
    have hs := Hhs.out.below hbn
    have ha := Hha.out.below hbn
    have hb := Hhb.out.below hbn
    have hc := Hhc.out.below hbn
    replace hz := below_of hz hbn
    clear Hhp Hhq Hhs Hha Hhb Hhc hbn wc
    obtain ⟨wc, rfl⟩ : ∃ wc, wc = wn := ⟨_, rfl⟩
    go_wp2
    go_ret
    exact ⟨rfl, hz⟩
  · obtain rfl : cqp = 1 := by omega
    have HNE := Lib.hid (show p ≠ q from fun e => absurd ((compare_zero p q).2 e) (by rw [Hcpq.out]; decide))
    clear hbd hb1_
    have ww0 : IntKind.i64.wrap 0 = 0 := by decide
    have ww1 : IntKind.i64.wrap 1 = 1 := by decide
    have ww2 : IntKind.i64.wrap (-1) = -1 := by decide
    have Hhp := Lib.hid hp
    have Hhq := Lib.hid hq
    have Hhs := Lib.hid hs
    have Hha := Lib.hid ha
    have Hhb := Lib.hid hb
    have Hhc := Lib.hid hc
    clear hp hq hs ha hb hc
    refine region_class (fun w => Below wc.heap.size wc w) (by kernel_rfl) (by kernel_rfl) ((Below.refl _ _).drew) ?_
    repeat
      (refine step_class (fun K hK => ?_)
       go_simp
       first
         | (refine hK _ ?_; clear hK K)
         | (with_reducible apply Hq.of
            · intro wv hv
              have Hv := Lib.hid hv
              have qp := Hhp.out.below hv
              obtain ⟨p_0, p_1, p_2, p_3, p_4, p_5, p_6, p_7, p_8, p_9, p_f⟩ := qp.ten
              clear qp
              have qq := Hhq.out.below hv
              obtain ⟨q_0, q_1, q_2, q_3, q_4, q_5, q_6, q_7, q_8, q_9, q_f⟩ := qq.ten
              clear qq
              have qa := Hha.out.below hv
              obtain ⟨a_0, a_1, a_2, a_3, a_4, a_5, a_6, a_7, a_8, a_9, a_f⟩ := qa.ten
              clear qa
              have qb := Hhb.out.below hv
              obtain ⟨b_0, b_1, b_2, b_3, b_4, b_5, b_6, b_7, b_8, b_9, b_f⟩ := qb.ten
              clear qb
              clear hv
              go_simp
              (first
                | (with_reducible exact rfl)
                | (rw [ne_if HNE.out]; exact ⟨rfl, rfl⟩)
                | (go_at_call 31; (with_reducible refine (compare_any p q _).mono ?_); rw [Hcpq.out]; rintro e' w1 ⟨rfl, hb1⟩; exact ⟨rfl, below_of Hv.out hb1⟩)
                | (go_at_call 31; (with_reducible refine (compare_any q p _).mono ?_); rw [Hcqp.out]; rintro e' w1 ⟨rfl, hb1⟩; exact ⟨rfl, below_of Hv.out hb1⟩))
            refine hK _ ?_
            clear hK K))
    refine nil_class ?_
    intro wn hbn
    have hp := Hhp.out.below hbn
    have hq := Hhq.out.below hbn
    have hs := Hhs.out.below hbn
    have ha := Hha.out.below hbn
    have hb := Hhb.out.below hbn
    have hc := Hhc.out.below hbn
    replace hz := below_of hz hbn
    clear Hhp Hhq Hhs Hha Hhb Hhc hbn wc
    obtain ⟨wc, rfl⟩ : ∃ wc, wc = wn := ⟨_, rfl⟩
    go_wp2
    go_ret
    exact ⟨rfl, hz⟩
end Go.Proofs.Ytfmnbkcjibhloaa
