/- The program's links and the reference's side by side. Conditions: the bounds of WI. -/
import Derived.Test.YtppjjbhbbnnpgaaRcut
import Derived.Test.YtppjjbhbbnnpgaaOps
namespace Go.Proofs.Ytppjjbhbbnnpgaa
open Go.RowKit G
set_option linter.unusedVariables false
set_option linter.unusedSimpArgs false
attribute [local go_sem] upon_value upon_skip upon_enter runAt_run
theorem fromL_any (f t : Int) (s : ByteArray) (w : World) :
    Calls Try.prog 12 #[.agg #[.int .i64 f, .int .i64 t, .string s]] w fun e w' => e = .returned (.agg #[.int .i64 f, .int .i64 t, .string s]) ∧ Below w.heap.size w w' := by
  go_enter Try.func12, Try.ntmps12
  go_wp2
  refine bodyPost_ret (v := .agg #[.int .i64 f, .int .i64 t, .string s]) (by simp [results, Try.results12, go_sem, *]) rfl ⟨rfl, ?_⟩
  exact below_of (below_new _ _) (below_new _ _)
structure DW (W w : World) (P : Nat) (v : Value) (Q : Nat) (u : Value) (x y : Wn) : Prop where
  p : WAt 58 34 w P v x
  r : WAt 49 36 w Q u y
  b : Below W.heap.size W w
  f : ∀ c ∈ wfp P v, W.heap.size ≤ c
  g : ∀ c ∈ wfp Q u, W.heap.size ≤ c
  d : ∀ c ∈ wfp P v, c ∉ wfp Q u
section
variable {W w w' : World} {P Q m : Nat} {v u v' u' : Value} {x y x' y' : Wn}
theorem DW.stepP (h : DW W w P v Q u x y) (hp : WAt 58 34 w' P v' x') (st : Stp (wfp P v) (wfp P v') w w') : DW W w' P v' Q u x' y :=
  ⟨hp, h.r.kept st.keep (fun b hb hm => h.d b hm hb), h.b.trans (st.keep.toBelow h.f h.b.size), fun c hc => (st.new c hc).elim (h.f c) (fun hh => Nat.le_trans h.b.size hh), h.g, fun c hc hm => (st.new c hc).elim (fun h1 => h.d c h1 hm) (fun hh => by have := h.r.lts c hm; omega)⟩
theorem DW.stepR (h : DW W w P v Q u x y) (hp : WAt 49 36 w' Q u' y') (st : Stp (wfp Q u) (wfp Q u') w w') : DW W w' P v Q u' x y' :=
  ⟨h.p.kept st.keep (fun b hb hm => h.d b hb hm), hp, h.b.trans (st.keep.toBelow h.g h.b.size), h.f, fun c hc => (st.new c hc).elim (h.g c) (fun hh => Nat.le_trans h.b.size hh), fun c hc hm => (st.new c hm).elim (fun h1 => h.d c hc h1) (fun hh => by have := h.p.lts c hc; omega)⟩
theorem DW.below (h : DW W w P v Q u x y) (hb : Below w.heap.size w w') : DW W w' P v Q u x y := ⟨h.p.below hb, h.r.below hb, below_of h.b hb, h.f, h.g, h.d⟩
theorem DW.drewN (h : DW W w P v Q u x y) (k : Nat) : DW W (w.drewN k) P v Q u x y := ⟨h.p.drewN k, h.r.drewN k, below_drewN h.b k, h.f, h.g, h.d⟩
theorem DW.take (h : DW W w P v Q u x y) (q : WI m x) (i f t : Int) (s : ByteArray) (e : Int) (hy : atL x.ls i = ⟨f, t, s⟩) (he : atE x.ls i = e) : Calls Try.prog 10 #[ptr P, .int .i64 i] w fun r w' => r = .returned (.tuple #[.agg #[.int .i64 f, .int .i64 t, .string s], .int .i64 e]) ∧ ∃ v, DW W w' P v Q u (x.take i) y :=
  (take_any h.p (by have := q.l; omega) i).mono fun _ _ ⟨h1, z, hp, st⟩ => ⟨by rw [h1, hy, he], z, h.stepP hp st⟩
theorem DW.rtake (h : DW W w P v Q u x y) (q : WI m y) (i f t : Int) (s : ByteArray) (e : Int) (hy : atL y.ls i = ⟨f, t, s⟩) (he : atE y.ls i = e) : Calls Try.prog 11 #[ptr Q, .int .i64 i] w fun r w' => r = .returned (.tuple #[.agg #[.int .i64 f, .int .i64 t, .string s], .int .i64 e]) ∧ ∃ u, DW W w' P v Q u x (y.take i) :=
  (rtake_any h.r (by have := q.l; omega) i).mono fun _ _ ⟨h1, z, hp, st⟩ => ⟨by rw [h1, hy, he], z, h.stepR hp st⟩
theorem DW.at (h : DW W w P v Q u x y) (q : WI m x) (i f t : Int) (s : ByteArray) (e : Int) (hy : atL x.ls i = ⟨f, t, s⟩) (he : atE x.ls i = e) : Calls Try.prog 21 #[ptr P, .int .i64 i] w fun r w' => r = .returned (.tuple #[.agg #[.int .i64 f, .int .i64 t, .string s], .int .i64 e]) ∧ DW W w' P v Q u x y :=
  (at_any h.p (by have := q.l; omega) i).mono fun _ _ ⟨h1, hb⟩ => ⟨by rw [h1, hy, he], h.below hb⟩
theorem DW.rat (h : DW W w P v Q u x y) (q : WI m y) (i f t : Int) (s : ByteArray) (e : Int) (hy : atL y.ls i = ⟨f, t, s⟩) (he : atE y.ls i = e) : Calls Try.prog 22 #[ptr Q, .int .i64 i] w fun r w' => r = .returned (.tuple #[.agg #[.int .i64 f, .int .i64 t, .string s], .int .i64 e]) ∧ DW W w' P v Q u x y :=
  (rat_any h.r (by have := q.l; omega) i).mono fun _ _ ⟨h1, hb⟩ => ⟨by rw [h1, hy, he], h.below hb⟩
theorem send_c (h : WAt 58 34 w P v x) (q : WI m x) (hm : m ≤ 900000) (f t : Int) (s : ByteArray) (e : Int) (he : x.sendE ⟨f, t, s⟩ = e) : Calls Try.prog 8 #[.pointer (some ⟨P, 0, none⟩), .agg #[.int .i64 f, .int .i64 t, .string s]] w fun r w' => r = .returned (.int .i64 e) ∧ ∃ z, WAt 58 34 w' P z (x.send ⟨f, t, s⟩) ∧ Stp (wfp P v) (wfp P z) w w' :=
  (send_any h q.n q.l q.c0 (by have := q.c1; omega) ⟨f, t, s⟩).mono fun _ _ ⟨h1, hh⟩ => ⟨he ▸ h1, hh⟩
theorem rsend_c (h : WAt 49 36 w P v x) (q : WI m x) (hm : m ≤ 900000) (f t : Int) (s : ByteArray) (e : Int) (he : x.sendE ⟨f, t, s⟩ = e) : Calls Try.prog 9 #[.pointer (some ⟨P, 0, none⟩), .agg #[.int .i64 f, .int .i64 t, .string s]] w fun r w' => r = .returned (.int .i64 e) ∧ ∃ z, WAt 49 36 w' P z (x.send ⟨f, t, s⟩) ∧ Stp (wfp P v) (wfp P z) w w' :=
  (rsend_any h q.n q.l q.c0 (by have := q.c1; omega) ⟨f, t, s⟩).mono fun _ _ ⟨h1, hh⟩ => ⟨he ▸ h1, hh⟩
theorem dbl_c (h : WAt 58 34 w P v x) (q : WI m x) (i e : Int) (he : x.dblE i = e) : Calls Try.prog 13 #[.pointer (some ⟨P, 0, none⟩), .int .i64 i] w fun r w' => r = .returned (.int .i64 e) ∧ ∃ z, WAt 58 34 w' P z (x.dbl i) ∧ Stp (wfp P v) (wfp P z) w w' :=
  (dbl_any h (by have := q.l; omega) i).mono fun _ _ ⟨h1, hh⟩ => ⟨he ▸ h1, hh⟩
theorem rdbl_c (h : WAt 49 36 w P v x) (q : WI m x) (i e : Int) (he : x.dblE i = e) : Calls Try.prog 14 #[.pointer (some ⟨P, 0, none⟩), .int .i64 i] w fun r w' => r = .returned (.int .i64 e) ∧ ∃ z, WAt 49 36 w' P z (x.dbl i) ∧ Stp (wfp P v) (wfp P z) w w' :=
  (rdbl_any h (by have := q.l; omega) i).mono fun _ _ ⟨h1, hh⟩ => ⟨he ▸ h1, hh⟩
theorem cut_c (h : WAt 58 34 w P v x) (q : WI m x) (hm : m ≤ 900000) (a b : Int) (o : Bool) (e : Int) (he : cutE x.n a b = e) : Calls Try.prog 15 #[.pointer (some ⟨P, 0, none⟩), .int .i64 a, .int .i64 b, .bool o] w fun r w' => r = .returned (.int .i64 e) ∧ ∃ z, WAt 58 34 w' P z (x.cut a b o) ∧ Stp (wfp P v) (wfp P z) w w' :=
  (cut_any h (by have := q.l; omega) q.c0 (by have := q.c1; omega) q.n a b o).mono fun _ _ ⟨h1, hh⟩ => ⟨he ▸ h1, hh⟩
theorem rcut_c (h : WAt 49 36 w P v x) (q : WI m x) (hm : m ≤ 900000) (a b : Int) (o : Bool) (e : Int) (he : cutE x.n a b = e) : Calls Try.prog 16 #[.pointer (some ⟨P, 0, none⟩), .int .i64 a, .int .i64 b, .bool o] w fun r w' => r = .returned (.int .i64 e) ∧ ∃ z, WAt 49 36 w' P z (x.cut a b o) ∧ Stp (wfp P v) (wfp P z) w w' :=
  (rcut_any h (by have := q.l; omega) q.c0 (by have := q.c1; omega) q.n a b o).mono fun _ _ ⟨h1, hh⟩ => ⟨he ▸ h1, hh⟩
end
/-- A statement that steps both, in whatever order: operation i the program's, j the reference's; a box beside them. -/
structure D1 (W : World) (P Q : Nat) (x x1 y y1 : Wn) (i j B : Nat) (bx : Array Value) (σ : St) (w : World) : Prop where
  e : ∃ v u, DW W w P v Q u (if (σ i).isSome then x1 else x) (if (σ j).isSome then y1 else y) ∧ B ∉ wfp P v ∧ B ∉ wfp Q u
  b : Row w B bx 31
section
variable {W w w' : World} {P Q i j k B : Nat} {v u z : Value} {x x1 y y1 : Wn} {bx : Array Value} {σ : St}
theorem D1.start (h : DW W w P v Q u x y) (hb : Row w B bx 31) (h1 : B ∉ wfp P v) (h2 : B ∉ wfp Q u) : D1 W P Q x x1 y y1 i j B bx (fun _ => none) w.drew :=
  ⟨⟨v, u, by have h3 : DW W w.drew P v Q u x y := h.drewN 1; simpa using h3, h1, h2⟩, hb.drew⟩
theorem D1.pure (h : D1 W P Q x x1 y y1 i j B bx σ w) (h1 : i ≠ k) (h2 : j ≠ k) : D1 W P Q x x1 y y1 i j B bx (σ.upd k z) w :=
  ⟨by rw [upd_ne h1, upd_ne h2]; exact h.e, h.b⟩
theorem D1.stepP (h : D1 W P Q x x1 y y1 i j B bx σ w) (hk : σ i = none) (hij : j ≠ i) : ∃ v, WAt 58 34 w P v x ∧ ∀ w' v' z, WAt 58 34 w' P v' x1 → Stp (wfp P v) (wfp P v') w w' → D1 W P Q x x1 y y1 i j B bx (σ.upd i z) w' := by
  obtain ⟨v, u, hw, a, b⟩ := h.e
  rw [hk] at hw
  have hB := h.b.lt
  refine ⟨v, by simpa using hw.p, fun w' v' x hp st => ⟨⟨v', u, ?_, fun hm => ?_, b⟩, h.b.kept st.keep a⟩⟩
  · rw [upd_eq, upd_ne hij]
    simpa using hw.stepP hp st
  · rcases st.new _ hm with h1 | h1
    · exact a h1
    · omega
theorem D1.stepR (h : D1 W P Q x x1 y y1 i j B bx σ w) (hk : σ j = none) (hij : i ≠ j) : ∃ u, WAt 49 36 w Q u y ∧ ∀ w' u' z, WAt 49 36 w' Q u' y1 → Stp (wfp Q u) (wfp Q u') w w' → D1 W P Q x x1 y y1 i j B bx (σ.upd j z) w' := by
  obtain ⟨v, u, hw, a, b⟩ := h.e
  rw [hk] at hw
  have hB := h.b.lt
  refine ⟨u, by simpa using hw.r, fun w' u' x hp st => ⟨⟨v, u', ?_, a, fun hm => ?_⟩, h.b.kept st.keep b⟩⟩
  · rw [upd_eq, upd_ne hij]
    simpa using hw.stepR hp st
  · rcases st.new _ hm with h1 | h1
    · exact b h1
    · omega
end
end Go.Proofs.Ytppjjbhbbnnpgaa
