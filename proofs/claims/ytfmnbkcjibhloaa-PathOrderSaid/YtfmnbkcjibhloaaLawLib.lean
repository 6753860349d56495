/- What the laws of ways use: a statement that makes a variable out of calls, in any order; how ways and times are compared. No condition. -/
import Derived.Test.YtfmnbkcjibhloaaTh
import Derived.Test.YtfmnbkcjibhloaaFam2
import Derived.Test.YtfmnbkcjibhloaaMakes
import Derived.Test.YtfmnbkcjibhloaaPure3
namespace Go.Proofs.Ytfmnbkcjibhloaa
open Go.RowKit
set_option linter.unusedVariables false
set_option linter.unusedSimpArgs false
open G
def IsPtr (v : Value) : Prop := ∃ X, v = .pointer (some ⟨X, 0, none⟩)
theorem IsPtr.mk (X : Nat) : IsPtr (.pointer (some ⟨X, 0, none⟩)) := ⟨X, rfl⟩
/-- A statement that makes one block (operation ia) and fills it (is); old memory as it was. -/
structure AC (W0 : World) (ia is : Nat) (zs xs : Array Value) (T : Nat) (σ : St) (w : World) : Prop where
  b : Below W0.heap.size W0 w
  i : (σ is).isSome = true → (σ ia).isSome = true
  x : ∀ v, σ ia = some v → ∃ X, v = .pointer (some ⟨X, 0, none⟩) ∧ W0.heap.size ≤ X ∧ Row w X (if (σ is).isSome = true then xs else zs) T
section
variable {W0 w w' : World} {ia is T k : Nat} {zs xs : Array Value} {σ : St} {v : Value}
theorem upd_ne {i : Nat} (h : i ≠ k) : (σ.upd k v) i = σ i := by unfold St.upd; rw [if_neg h]
theorem upd_eq : (σ.upd k v) k = some v := by unfold St.upd; rw [if_pos rfl]
theorem AC.start (W0 : World) (ia is : Nat) (zs xs : Array Value) (T : Nat) : AC W0 ia is zs xs T (fun _ => none) W0.drew := ⟨(Below.refl _ _).drew, (fun h => (by cases h)), (fun v h => (by cases h))⟩
theorem AC.pure (h : AC W0 ia is zs xs T σ w) (h1 : ia ≠ k) (h2 : is ≠ k) : AC W0 ia is zs xs T (σ.upd k v) w :=
  ⟨h.b, by rw [upd_ne h1, upd_ne h2]; exact h.i, by rw [upd_ne h1, upd_ne h2]; exact h.x⟩
theorem AC.call (h : AC W0 ia is zs xs T σ w) (hb : Below w.heap.size w w') (h1 : ia ≠ k) (h2 : is ≠ k) : AC W0 ia is zs xs T (σ.upd k v) w' :=
  ⟨below_of h.b hb, by rw [upd_ne h1, upd_ne h2]; exact h.i, by
    rw [upd_ne h1, upd_ne h2]
    intro u hu
    obtain ⟨X, e, hX, hr⟩ := h.x u hu
    exact ⟨X, e, hX, hr.below hb⟩⟩
theorem AC.alloc (h : AC W0 ia is zs xs T σ w) (hk : σ ia = none) (hn : is ≠ ia) : AC W0 ia is zs xs T (σ.upd ia (.pointer (some ⟨w.heap.size, 0, none⟩))) (w.alloc (.cells zs T)) := by
  have hs : (σ is).isSome = false := by
    cases e : (σ is).isSome
    · rfl
    · have := h.i e; rw [hk] at this; cases this
  refine ⟨below_of h.b (below_new _ _), fun _ => by rw [upd_eq]; rfl, fun u hu => ?_⟩
  rw [upd_eq] at hu
  injection hu with hu
  refine ⟨_, hu.symm, h.b.size, ?_⟩
  rw [upd_ne hn, if_neg (by rw [hs]; decide)]
  exact Row.new _ _ _
theorem AC.row {X : Nat} (h : AC W0 ia is zs xs T σ w) (e : σ ia = some (.pointer (some ⟨X, 0, none⟩))) (hk : σ is = none) : W0.heap.size ≤ X ∧ Row w X zs T := by
  obtain ⟨X', e', hX, hr⟩ := h.x _ e
  injection e' with e'; injection e' with e'; injection e' with e'
  subst e'
  rw [hk, if_neg (by decide)] at hr
  exact ⟨hX, hr⟩
theorem AC.store {X : Nat} (h : AC W0 ia is zs xs T σ w) (e : σ ia = some (.pointer (some ⟨X, 0, none⟩))) (hk : σ is = none) (hn : ia ≠ is) (hb : ∀ B, B ≤ X → Below B w w') (hr : Row w X zs T → Row w' X xs T) : AC W0 ia is zs xs T (σ.upd is v) w' := by
  obtain ⟨hX, hr0⟩ := h.row e hk
  refine ⟨h.b.trans (hb _ hX), fun _ => by rw [upd_ne hn, e]; rfl, fun u hu => ?_⟩
  rw [upd_ne hn, e] at hu
  injection hu with hu
  refine ⟨X, hu.symm, hX, ?_⟩
  rw [upd_eq]
  exact hr hr0
theorem AC.done {n X : Nat} (h : AC W0 ia is zs xs T σ w) (ha : ∀ i, i < n → (σ i).isSome = true) (h2 : is < n) (e : σ ia = some (.pointer (some ⟨X, 0, none⟩))) : Below W0.heap.size W0 w ∧ Row w X xs T := by
  obtain ⟨X', e', hX, hr⟩ := h.x _ e
  injection e' with e'; injection e' with e'; injection e' with e'
  subst e'
  rw [if_pos (ha is h2)] at hr
  exact ⟨h.b, hr⟩
end
theorem set5 {w : World} {X T : Nat} {z0 z1 z2 z3 z4 v0 v1 v2 v3 v4 : Value} (hr : Row w X #[z0, z1, z2, z3, z4] T) : Row (((((w.setCell ⟨X, 0, none⟩ v0).setCell ⟨X, 1, none⟩ v1).setCell ⟨X, 2, none⟩ v2).setCell ⟨X, 3, none⟩ v3).setCell ⟨X, 4, none⟩ v4) X #[v0, v1, v2, v3, v4] T := ((((hr.set 0 v0).set 1 v1).set 2 v2).set 3 v3).set 4 v4
theorem bel5 {w : World} {X B : Nat} {v0 v1 v2 v3 v4 : Value} (h : B ≤ X) : Below B w (((((w.setCell ⟨X, 0, none⟩ v0).setCell ⟨X, 1, none⟩ v1).setCell ⟨X, 2, none⟩ v2).setCell ⟨X, 3, none⟩ v3).setCell ⟨X, 4, none⟩ v4) := below_set (below_set (below_set (below_set (below_set (Below.refl _ _) X 0 h _) X 1 h _) X 2 h _) X 3 h _) X 4 h _
theorem set10 {w : World} {X T : Nat} {z0 z1 z2 z3 z4 z5 z6 z7 z8 z9 v0 v1 v2 v3 v4 v5 v6 v7 v8 v9 : Value} (hr : Row w X #[z0, z1, z2, z3, z4, z5, z6, z7, z8, z9] T) : Row ((((((((((w.setCell ⟨X, 0, none⟩ v0).setCell ⟨X, 1, none⟩ v1).setCell ⟨X, 2, none⟩ v2).setCell ⟨X, 3, none⟩ v3).setCell ⟨X, 4, none⟩ v4).setCell ⟨X, 5, none⟩ v5).setCell ⟨X, 6, none⟩ v6).setCell ⟨X, 7, none⟩ v7).setCell ⟨X, 8, none⟩ v8).setCell ⟨X, 9, none⟩ v9) X #[v0, v1, v2, v3, v4, v5, v6, v7, v8, v9] T := Row.cast (((((((((((hr.set 0 v0).set 1 v1).set 2 v2).set 3 v3).set 4 v4).set 5 v5).set 6 v6).set 7 v7).set 8 v8).set 9 v9)) (by simp)
theorem bel10 {w : World} {X B : Nat} {v0 v1 v2 v3 v4 v5 v6 v7 v8 v9 : Value} (h : B ≤ X) : Below B w ((((((((((w.setCell ⟨X, 0, none⟩ v0).setCell ⟨X, 1, none⟩ v1).setCell ⟨X, 2, none⟩ v2).setCell ⟨X, 3, none⟩ v3).setCell ⟨X, 4, none⟩ v4).setCell ⟨X, 5, none⟩ v5).setCell ⟨X, 6, none⟩ v6).setCell ⟨X, 7, none⟩ v7).setCell ⟨X, 8, none⟩ v8).setCell ⟨X, 9, none⟩ v9) := (below_set (below_set (below_set (below_set (below_set (below_set (below_set (below_set (below_set (below_set (Below.refl _ _) X 0 h _) X 1 h _) X 2 h _) X 3 h _) X 4 h _) X 5 h _) X 6 h _) X 7 h _) X 8 h _) X 9 h _)
theorem AC.store5 {W0 w : World} {ia is T X : Nat} {σ : St} {u z0 z1 z2 z3 z4 v0 v1 v2 v3 v4 : Value} (h : AC W0 ia is #[z0, z1, z2, z3, z4] #[v0, v1, v2, v3, v4] T σ w) (e : σ ia = some (.pointer (some ⟨X, 0, none⟩))) (hk : σ is = none) (hn : ia ≠ is) : AC W0 ia is #[z0, z1, z2, z3, z4] #[v0, v1, v2, v3, v4] T (σ.upd is u) (((((w.setCell ⟨X, 0, none⟩ v0).setCell ⟨X, 1, none⟩ v1).setCell ⟨X, 2, none⟩ v2).setCell ⟨X, 3, none⟩ v3).setCell ⟨X, 4, none⟩ v4) := h.store e hk hn (fun B hB => bel5 hB) set5
theorem AC.store10 {W0 w : World} {ia is T X : Nat} {σ : St} {u z0 z1 z2 z3 z4 z5 z6 z7 z8 z9 v0 v1 v2 v3 v4 v5 v6 v7 v8 v9 : Value} (h : AC W0 ia is #[z0, z1, z2, z3, z4, z5, z6, z7, z8, z9] #[v0, v1, v2, v3, v4, v5, v6, v7, v8, v9] T σ w) (e : σ ia = some (.pointer (some ⟨X, 0, none⟩))) (hk : σ is = none) (hn : ia ≠ is) : AC W0 ia is #[z0, z1, z2, z3, z4, z5, z6, z7, z8, z9] #[v0, v1, v2, v3, v4, v5, v6, v7, v8, v9] T (σ.upd is u) ((((((((((w.setCell ⟨X, 0, none⟩ v0).setCell ⟨X, 1, none⟩ v1).setCell ⟨X, 2, none⟩ v2).setCell ⟨X, 3, none⟩ v3).setCell ⟨X, 4, none⟩ v4).setCell ⟨X, 5, none⟩ v5).setCell ⟨X, 6, none⟩ v6).setCell ⟨X, 7, none⟩ v7).setCell ⟨X, 8, none⟩ v8).setCell ⟨X, 9, none⟩ v9) := h.store e hk hn (fun B hB => bel10 hB) set10
abbrev rowOf (p : Pa) : Array Value := #[.int .i64 p.f, .int .i64 p.k, .int .u32 p.a0, .int .u32 p.a1, .int .u32 p.a2, .int .u32 p.a3, .int .i64 p.u, .int .u32 p.l0, .int .u32 p.l1, .int .u32 p.l2]
abbrev rowTm (t : Tm) : Array Value := #[.int .u32 t.e, .int .i64 t.d, .int .u32 t.l0, .int .u32 t.l1, .int .u32 t.l2]
theorem apply_any (p : Pa) (t : Tm) (w : World) (okp : PaOk p) (okt : TmOk t) (x : Tm) (c : Int) (hx : applyR p t = (x, c)) : Calls Try.prog 33 #[.agg #[.int .i64 p.f, .int .i64 p.k, .int .u32 p.a0, .int .u32 p.a1, .int .u32 p.a2, .int .u32 p.a3, .int .i64 p.u, .int .u32 p.l0, .int .u32 p.l1, .int .u32 p.l2], .agg #[.int .u32 t.e, .int .i64 t.d, .int .u32 t.l0, .int .u32 t.l1, .int .u32 t.l2]] w fun e' w' => e' = .returned (.tuple #[.agg #[.int .u32 x.e, .int .i64 x.d, .int .u32 x.l0, .int .u32 x.l1, .int .u32 x.l2], .int .i64 c]) ∧ Below w.heap.size w w' := apply_all p.f p.k p.a0 p.a1 p.a2 p.a3 p.u p.l0 p.l1 p.l2 t.e t.d t.l0 t.l1 t.l2 w okp okt x c hx
theorem rapply_any (p : Pa) (t : Tm) (w : World) (okp : PaOk p) (okt : TmOk t) (x : Tm) (c : Int) (hx : applyR p t = (x, c)) : Calls Try.prog 34 #[.agg #[.int .i64 p.f, .int .i64 p.k, .int .u32 p.a0, .int .u32 p.a1, .int .u32 p.a2, .int .u32 p.a3, .int .i64 p.u, .int .u32 p.l0, .int .u32 p.l1, .int .u32 p.l2], .agg #[.int .u32 t.e, .int .i64 t.d, .int .u32 t.l0, .int .u32 t.l1, .int .u32 t.l2]] w fun e' w' => e' = .returned (.tuple #[.agg #[.int .u32 x.e, .int .i64 x.d, .int .u32 x.l0, .int .u32 x.l1, .int .u32 x.l2], .int .i64 c]) ∧ Below w.heap.size w w' := rapply_all p.f p.k p.a0 p.a1 p.a2 p.a3 p.u p.l0 p.l1 p.l2 t.e t.d t.l0 t.l1 t.l2 w okp okt x c hx
theorem then_any (p q : Pa) (w : World) (okp : PaOk p) (okq : PaOk q) (x : Pa) (c : Int) (hx : thenR p q = (x, c)) : Calls Try.prog 35 #[.agg #[.int .i64 p.f, .int .i64 p.k, .int .u32 p.a0, .int .u32 p.a1, .int .u32 p.a2, .int .u32 p.a3, .int .i64 p.u, .int .u32 p.l0, .int .u32 p.l1, .int .u32 p.l2], .agg #[.int .i64 q.f, .int .i64 q.k, .int .u32 q.a0, .int .u32 q.a1, .int .u32 q.a2, .int .u32 q.a3, .int .i64 q.u, .int .u32 q.l0, .int .u32 q.l1, .int .u32 q.l2]] w fun e' w' => e' = .returned (.tuple #[.agg #[.int .i64 x.f, .int .i64 x.k, .int .u32 x.a0, .int .u32 x.a1, .int .u32 x.a2, .int .u32 x.a3, .int .i64 x.u, .int .u32 x.l0, .int .u32 x.l1, .int .u32 x.l2], .int .i64 c]) ∧ Below w.heap.size w w' := then_all p.f p.k p.a0 p.a1 p.a2 p.a3 p.u p.l0 p.l1 p.l2 q.f q.k q.a0 q.a1 q.a2 q.a3 q.u q.l0 q.l1 q.l2 w okp okq x c hx
theorem rthen_any (p q : Pa) (w : World) (okp : PaOk p) (okq : PaOk q) (x : Pa) (c : Int) (hx : thenR p q = (x, c)) : Calls Try.prog 36 #[.agg #[.int .i64 p.f, .int .i64 p.k, .int .u32 p.a0, .int .u32 p.a1, .int .u32 p.a2, .int .u32 p.a3, .int .i64 p.u, .int .u32 p.l0, .int .u32 p.l1, .int .u32 p.l2], .agg #[.int .i64 q.f, .int .i64 q.k, .int .u32 q.a0, .int .u32 q.a1, .int .u32 q.a2, .int .u32 q.a3, .int .i64 q.u, .int .u32 q.l0, .int .u32 q.l1, .int .u32 q.l2]] w fun e' w' => e' = .returned (.tuple #[.agg #[.int .i64 x.f, .int .i64 x.k, .int .u32 x.a0, .int .u32 x.a1, .int .u32 x.a2, .int .u32 x.a3, .int .i64 x.u, .int .u32 x.l0, .int .u32 x.l1, .int .u32 x.l2], .int .i64 c]) ∧ Below w.heap.size w w' := rthen_all p.f p.k p.a0 p.a1 p.a2 p.a3 p.u p.l0 p.l1 p.l2 q.f q.k q.a0 q.a1 q.a2 q.a3 q.u q.l0 q.l1 q.l2 w okp okq x c hx
theorem fromP (p : Pa) (w : World) : Calls Try.prog 13 #[.agg #[.int .i64 p.f, .int .i64 p.k, .int .u32 p.a0, .int .u32 p.a1, .int .u32 p.a2, .int .u32 p.a3, .int .i64 p.u, .int .u32 p.l0, .int .u32 p.l1, .int .u32 p.l2]] w fun e w' => e = .returned (.agg #[.int .i64 p.f, .int .i64 p.k, .int .u32 p.a0, .int .u32 p.a1, .int .u32 p.a2, .int .u32 p.a3, .int .i64 p.u, .int .u32 p.l0, .int .u32 p.l1, .int .u32 p.l2]) ∧ Below w.heap.size w w' := from_any p.f p.k p.a0 p.a1 p.a2 p.a3 p.u p.l0 p.l1 p.l2 w
end Go.Proofs.Ytfmnbkcjibhloaa
