/- What becomes of a time: the reference's Apply. Condition: counts of uint32's range. -/
import Derived.Test.YtfmnbkcjibhloaaTck
import Derived.Test.YtfmnbkcjibhloaaPure2
namespace Go.Proofs.Ytfmnbkcjibhloaa
open Go.RowKit
set_option linter.unusedVariables false
set_option linter.unusedSimpArgs false
/-- Three blocks known whole, one behind the other; old memory as it was. -/
structure Q3 (w0 : World) (A B R : Nat) (a b r : Array Value) (TA TB TR : Nat) (w : World) : Prop where
  a : Row w A a TA
  b : Row w B b TB
  r : Row w R r TR
  z : Below w0.heap.size w0 w
  lA : w0.heap.size ≤ A
  AB : A < B
  BR : B < R
theorem Q3.start (w : World) (a b r : Array Value) (TA TB TR : Nat) : Q3 w w.heap.size (w.heap.size + 1) (w.heap.size + 1 + 1) a b r TA TB TR (((w.alloc (.cells a TA)).alloc (.cells b TB)).alloc (.cells r TR)) :=
  ⟨((Row.new w _ TA).alloc _).alloc _, by simpa using (Row.new (w.alloc (.cells a TA)) b TB).alloc (.cells r TR), by simpa using Row.new ((w.alloc (.cells a TA)).alloc (.cells b TB)) r TR, below_of (below_of (below_new _ _) (below_new _ _)) (below_new _ _), Nat.le_refl _, by omega, by omega⟩
theorem Q3.below {w0 w w' : World} {A B R TA TB TR : Nat} {a b r : Array Value} (h : Q3 w0 A B R a b r TA TB TR w) (hb : Below w.heap.size w w') : Q3 w0 A B R a b r TA TB TR w' := ⟨h.a.below hb, h.b.below hb, h.r.below hb, below_of h.z hb, h.lA, h.AB, h.BR⟩
theorem Q3.drew {w0 w : World} {A B R TA TB TR : Nat} {a b r : Array Value} (h : Q3 w0 A B R a b r TA TB TR w) : Q3 w0 A B R a b r TA TB TR w.drew := ⟨h.a, h.b, h.r, h.z.drew, h.lA, h.AB, h.BR⟩
theorem Q3.setR {w0 w : World} {A B R TA TB TR : Nat} {a b r : Array Value} (h : Q3 w0 A B R a b r TA TB TR w) (i : Nat) (v : Value) : Q3 w0 A B R a b (r.setIfInBounds i v) TA TB TR (w.setCell ⟨R, i, none⟩ v) :=
  ⟨h.a.setOther R i (by have := h.AB; have := h.BR; omega) v, h.b.setOther R i (by have := h.BR; omega) v, h.r.set i v, below_set h.z R i (by have := h.lA; have := h.AB; have := h.BR; omega) v, h.lA, h.AB, h.BR⟩
abbrev AtTm (b : Nat) (e d m0 m1 m2 : Int) (w : World) : Prop := w.cell? ⟨b, 0, none⟩ = some (.int .u32 e) ∧ w.cell? ⟨b, 1, none⟩ = some (.int .i64 d) ∧ w.cell? ⟨b, 2, none⟩ = some (.int .u32 m0) ∧ w.cell? ⟨b, 3, none⟩ = some (.int .u32 m1) ∧ w.cell? ⟨b, 4, none⟩ = some (.int .u32 m2) ∧ ∀ i, w.frozen? ⟨b, i, none⟩ = false
theorem Row.atTm {w : World} {b T : Nat} {e d m0 m1 m2 : Int} (h : Row w b #[.int .u32 e, .int .i64 d, .int .u32 m0, .int .u32 m1, .int .u32 m2] T) : AtTm b e d m0 m1 m2 w := ⟨h.cell 0 _ rfl, h.cell 1 _ rfl, h.cell 2 _ rfl, h.cell 3 _ rfl, h.cell 4 _ rfl, h.free⟩
/-- Four blocks. -/
structure Q4 (w0 : World) (A B R X : Nat) (a b r x : Array Value) (TA TB TR TX : Nat) (w : World) : Prop where
  q : Q3 w0 A B R a b r TA TB TR w
  x : Row w X x TX
  RX : R < X
theorem Q4.below {w0 w w' : World} {A B R X TA TB TR TX : Nat} {a b r x : Array Value} (h : Q4 w0 A B R X a b r x TA TB TR TX w) (hb : Below w.heap.size w w') : Q4 w0 A B R X a b r x TA TB TR TX w' := ⟨h.q.below hb, h.x.below hb, h.RX⟩
theorem Q4.drew {w0 w : World} {A B R X TA TB TR TX : Nat} {a b r x : Array Value} (h : Q4 w0 A B R X a b r x TA TB TR TX w) : Q4 w0 A B R X a b r x TA TB TR TX w.drew := ⟨h.q.drew, h.x, h.RX⟩
theorem Q4.setX {w0 w : World} {A B R X TA TB TR TX : Nat} {a b r x : Array Value} (h : Q4 w0 A B R X a b r x TA TB TR TX w) (i : Nat) (v : Value) : Q4 w0 A B R X a b r (x.setIfInBounds i v) TA TB TR TX (w.setCell ⟨X, i, none⟩ v) := by
  have h1 := h.q.lA; have h2 := h.q.AB; have h3 := h.q.BR; have h4 := h.RX
  exact ⟨⟨h.q.a.setOther X i (by omega) v, h.q.b.setOther X i (by omega) v, h.q.r.setOther X i (by omega) v, below_set h.q.z X i (by omega) v, h1, h2, h3⟩, h.x.set i v, h4⟩
theorem Q4.setR {w0 w : World} {A B R X TA TB TR TX : Nat} {a b r x : Array Value} (h : Q4 w0 A B R X a b r x TA TB TR TX w) (i : Nat) (v : Value) : Q4 w0 A B R X a b (r.setIfInBounds i v) x TA TB TR TX (w.setCell ⟨R, i, none⟩ v) :=
  ⟨h.q.setR i v, h.x.setOther R i (by have := h.RX; omega) v, h.RX⟩
theorem Q3.new {w0 w : World} {A B R TA TB TR : Nat} {a b r : Array Value} (h : Q3 w0 A B R a b r TA TB TR w) (x : Array Value) (TX : Nat) : Q4 w0 A B R w.heap.size a b r x TA TB TR TX (w.alloc (.cells x TX)) :=
  ⟨h.below (below_new _ _), Row.new _ _ _, h.r.lt⟩
theorem Q4.cast {w0 w : World} {A B R X TA TB TR TX : Nat} {a b r x x' : Array Value} (h : Q4 w0 A B R X a b r x TA TB TR TX w) (e : x = x') : Q4 w0 A B R X a b r x' TA TB TR TX w := e ▸ h
set_option maxHeartbeats 4000000 in
theorem rapply_a (f k a0 a1 a2 a3 u l0 l1 l2 e d m0 m1 m2 : Int) (w : World) (c : Int) (hc : chk ⟨f, k, a0, a1, a2, a3, u, l0, l1, l2⟩ = c) (h0 : c ≠ 0) : Calls Try.prog 34 #[.agg #[.int .i64 f, .int .i64 k, .int .u32 a0, .int .u32 a1, .int .u32 a2, .int .u32 a3, .int .i64 u, .int .u32 l0, .int .u32 l1, .int .u32 l2], .agg #[.int .u32 e, .int .i64 d, .int .u32 m0, .int .u32 m1, .int .u32 m2]] w fun e' w' => e' = .returned (.tuple #[.agg #[.int .u32 0, .int .i64 0, .int .u32 0, .int .u32 0, .int .u32 0], .int .i64 c]) ∧ Below w.heap.size w w' := by
  have HCP := Lib.hid hc
  have g1 : (c == 0) = false := by simp [h0]
  have g2 : (c != 0) = true := by simp [h0]
  clear hc h0
  go_enter Try.func34, Try.ntmps34
  go_upto_region 1 with (fail)
  have hq := Q3.start w #[.int .i64 f, .int .i64 k, .int .u32 a0, .int .u32 a1, .int .u32 a2, .int .u32 a3, .int .i64 u, .int .u32 l0, .int .u32 l1, .int .u32 l2] #[.int .u32 e, .int .i64 d, .int .u32 m0, .int .u32 m1, .int .u32 m2] #[.int .u32 0, .int .i64 0, .int .u32 0, .int .u32 0, .int .u32 0] 30 49 49
  generalize ((w.alloc (.cells #[.int .i64 f, .int .i64 k, .int .u32 a0, .int .u32 a1, .int .u32 a2, .int .u32 a3, .int .i64 u, .int .u32 l0, .int .u32 l1, .int .u32 l2] 30)).alloc (.cells #[.int .u32 e, .int .i64 d, .int .u32 m0, .int .u32 m1, .int .u32 m2] 49)).alloc (.cells #[.int .u32 0, .int .i64 0, .int .u32 0, .int .u32 0, .int .u32 0] 49) = wc at hq ⊢
  generalize hA : w.heap.size = A at hq ⊢
  generalize hB : A + 1 = B at hq ⊢
  generalize hR : B + 1 = R at hq ⊢
  clear hA hB hR
  obtain ⟨a_0, a_1, a_2, a_3, a_4, a_5, a_6, a_7, a_8, a_9, a_f⟩ := hq.a.ten
  obtain ⟨b_0, b_1, b_2, b_3, b_4, b_f⟩ := hq.b.atTm
  obtain ⟨r_0, r_1, r_2, r_3, r_4, r_f⟩ := hq.r.atTm
  go_wp2_with (go_at_call 24; (with_reducible refine (rcheck_all f k a0 a1 a2 a3 u l0 l1 l2 _ _ HCP.out).mono ?_); rintro e' w1 ⟨rfl, hb1⟩; replace hq := hq.below hb1; clear hb1; clear a_0 a_1 a_2 a_3 a_4 a_5 a_6 a_7 a_8 a_9 a_f b_0 b_1 b_2 b_3 b_4 b_f r_0 r_1 r_2 r_3 r_4 r_f; obtain ⟨a_0, a_1, a_2, a_3, a_4, a_5, a_6, a_7, a_8, a_9, a_f⟩ := hq.a.ten; obtain ⟨b_0, b_1, b_2, b_3, b_4, b_f⟩ := hq.b.atTm; obtain ⟨r_0, r_1, r_2, r_3, r_4, r_f⟩ := hq.r.atTm)
  refine bodyPost_ret (v := .tuple #[.agg #[.int .u32 0, .int .i64 0, .int .u32 0, .int .u32 0, .int .u32 0], .int .i64 c]) (by simp [results, Try.results34, go_sem, *]) rfl ⟨rfl, ?_⟩
  exact (((((hq.setR 0 _).setR 1 _).setR 2 _).setR 3 _).setR 4 _).z
set_option maxHeartbeats 4000000 in
theorem rapply_b (f k a0 a1 a2 a3 u l0 l1 l2 e d m0 m1 m2 : Int) (w : World) (c : Int) (hp : chk ⟨f, k, a0, a1, a2, a3, u, l0, l1, l2⟩ = 0) (hc : tck ⟨e, d, m0, m1, m2⟩ = c) (h0 : c ≠ 0) : Calls Try.prog 34 #[.agg #[.int .i64 f, .int .i64 k, .int .u32 a0, .int .u32 a1, .int .u32 a2, .int .u32 a3, .int .i64 u, .int .u32 l0, .int .u32 l1, .int .u32 l2], .agg #[.int .u32 e, .int .i64 d, .int .u32 m0, .int .u32 m1, .int .u32 m2]] w fun e' w' => e' = .returned (.tuple #[.agg #[.int .u32 0, .int .i64 0, .int .u32 0, .int .u32 0, .int .u32 0], .int .i64 c]) ∧ Below w.heap.size w w' := by
  have HCP := Lib.hid hp
  have HCT := Lib.hid hc
  have g1 : (c == 0) = false := by simp [h0]
  have g2 : (c != 0) = true := by simp [h0]
  clear hc h0 hp
  go_enter Try.func34, Try.ntmps34
  go_upto_region 1 with (fail)
  have hq := Q3.start w #[.int .i64 f, .int .i64 k, .int .u32 a0, .int .u32 a1, .int .u32 a2, .int .u32 a3, .int .i64 u, .int .u32 l0, .int .u32 l1, .int .u32 l2] #[.int .u32 e, .int .i64 d, .int .u32 m0, .int .u32 m1, .int .u32 m2] #[.int .u32 0, .int .i64 0, .int .u32 0, .int .u32 0, .int .u32 0] 30 49 49
  generalize ((w.alloc (.cells #[.int .i64 f, .int .i64 k, .int .u32 a0, .int .u32 a1, .int .u32 a2, .int .u32 a3, .int .i64 u, .int .u32 l0, .int .u32 l1, .int .u32 l2] 30)).alloc (.cells #[.int .u32 e, .int .i64 d, .int .u32 m0, .int .u32 m1, .int .u32 m2] 49)).alloc (.cells #[.int .u32 0, .int .i64 0, .int .u32 0, .int .u32 0, .int .u32 0] 49) = wc at hq ⊢
  generalize hA : w.heap.size = A at hq ⊢
  generalize hB : A + 1 = B at hq ⊢
  generalize hR : B + 1 = R at hq ⊢
  clear hA hB hR
  obtain ⟨a_0, a_1, a_2, a_3, a_4, a_5, a_6, a_7, a_8, a_9, a_f⟩ := hq.a.ten
  obtain ⟨b_0, b_1, b_2, b_3, b_4, b_f⟩ := hq.b.atTm
  obtain ⟨r_0, r_1, r_2, r_3, r_4, r_f⟩ := hq.r.atTm
  go_wp2_with (first | (go_at_call 24; (with_reducible refine (rcheck_all f k a0 a1 a2 a3 u l0 l1 l2 _ _ HCP.out).mono ?_); rintro e' w1 ⟨rfl, hb1⟩; replace hq := hq.below hb1; clear hb1; clear a_0 a_1 a_2 a_3 a_4 a_5 a_6 a_7 a_8 a_9 a_f b_0 b_1 b_2 b_3 b_4 b_f r_0 r_1 r_2 r_3 r_4 r_f; obtain ⟨a_0, a_1, a_2, a_3, a_4, a_5, a_6, a_7, a_8, a_9, a_f⟩ := hq.a.ten; obtain ⟨b_0, b_1, b_2, b_3, b_4, b_f⟩ := hq.b.atTm; obtain ⟨r_0, r_1, r_2, r_3, r_4, r_f⟩ := hq.r.atTm) | (go_at_call 38; (with_reducible refine (trcheck_all e d m0 m1 m2 _ _ HCT.out).mono ?_); rintro e' w1 ⟨rfl, hb1⟩; replace hq := hq.below hb1; clear hb1; clear a_0 a_1 a_2 a_3 a_4 a_5 a_6 a_7 a_8 a_9 a_f b_0 b_1 b_2 b_3 b_4 b_f r_0 r_1 r_2 r_3 r_4 r_f; obtain ⟨a_0, a_1, a_2, a_3, a_4, a_5, a_6, a_7, a_8, a_9, a_f⟩ := hq.a.ten; obtain ⟨b_0, b_1, b_2, b_3, b_4, b_f⟩ := hq.b.atTm; obtain ⟨r_0, r_1, r_2, r_3, r_4, r_f⟩ := hq.r.atTm))
  refine bodyPost_ret (v := .tuple #[.agg #[.int .u32 0, .int .i64 0, .int .u32 0, .int .u32 0, .int .u32 0], .int .i64 c]) (by simp [results, Try.results34, go_sem, *]) rfl ⟨rfl, ?_⟩
  exact (((((hq.setR 0 _).setR 1 _).setR 2 _).setR 3 _).setR 4 _).z
set_option maxHeartbeats 4000000 in
theorem rapply_c (f k a0 a1 a2 a3 u l0 l1 l2 e d m0 m1 m2 : Int) (w : World) (hp : chk ⟨f, k, a0, a1, a2, a3, u, l0, l1, l2⟩ = 0) (hc : tck ⟨e, d, m0, m1, m2⟩ = 0) (h0 : d ≠ f) : Calls Try.prog 34 #[.agg #[.int .i64 f, .int .i64 k, .int .u32 a0, .int .u32 a1, .int .u32 a2, .int .u32 a3, .int .i64 u, .int .u32 l0, .int .u32 l1, .int .u32 l2], .agg #[.int .u32 e, .int .i64 d, .int .u32 m0, .int .u32 m1, .int .u32 m2]] w fun e' w' => e' = .returned (.tuple #[.agg #[.int .u32 0, .int .i64 0, .int .u32 0, .int .u32 0, .int .u32 0], .int .i64 10]) ∧ Below w.heap.size w w' := by
  have HCP := Lib.hid hp
  have HCT := Lib.hid hc
  have g2 : (d != f) = true := by simp [h0]
  clear hc h0 hp
  go_enter Try.func34, Try.ntmps34
  go_upto_region 1 with (fail)
  have hq := Q3.start w #[.int .i64 f, .int .i64 k, .int .u32 a0, .int .u32 a1, .int .u32 a2, .int .u32 a3, .int .i64 u, .int .u32 l0, .int .u32 l1, .int .u32 l2] #[.int .u32 e, .int .i64 d, .int .u32 m0, .int .u32 m1, .int .u32 m2] #[.int .u32 0, .int .i64 0, .int .u32 0, .int .u32 0, .int .u32 0] 30 49 49
  generalize ((w.alloc (.cells #[.int .i64 f, .int .i64 k, .int .u32 a0, .int .u32 a1, .int .u32 a2, .int .u32 a3, .int .i64 u, .int .u32 l0, .int .u32 l1, .int .u32 l2] 30)).alloc (.cells #[.int .u32 e, .int .i64 d, .int .u32 m0, .int .u32 m1, .int .u32 m2] 49)).alloc (.cells #[.int .u32 0, .int .i64 0, .int .u32 0, .int .u32 0, .int .u32 0] 49) = wc at hq ⊢
  generalize hA : w.heap.size = A at hq ⊢
  generalize hB : A + 1 = B at hq ⊢
  generalize hR : B + 1 = R at hq ⊢
  clear hA hB hR
  obtain ⟨a_0, a_1, a_2, a_3, a_4, a_5, a_6, a_7, a_8, a_9, a_f⟩ := hq.a.ten
  obtain ⟨b_0, b_1, b_2, b_3, b_4, b_f⟩ := hq.b.atTm
  obtain ⟨r_0, r_1, r_2, r_3, r_4, r_f⟩ := hq.r.atTm
  go_wp2_with (first | (go_at_call 24; (with_reducible refine (rcheck_all f k a0 a1 a2 a3 u l0 l1 l2 _ _ HCP.out).mono ?_); rintro e' w1 ⟨rfl, hb1⟩; replace hq := hq.below hb1; clear hb1; clear a_0 a_1 a_2 a_3 a_4 a_5 a_6 a_7 a_8 a_9 a_f b_0 b_1 b_2 b_3 b_4 b_f r_0 r_1 r_2 r_3 r_4 r_f; obtain ⟨a_0, a_1, a_2, a_3, a_4, a_5, a_6, a_7, a_8, a_9, a_f⟩ := hq.a.ten; obtain ⟨b_0, b_1, b_2, b_3, b_4, b_f⟩ := hq.b.atTm; obtain ⟨r_0, r_1, r_2, r_3, r_4, r_f⟩ := hq.r.atTm) | (go_at_call 38; (with_reducible refine (trcheck_all e d m0 m1 m2 _ _ HCT.out).mono ?_); rintro e' w1 ⟨rfl, hb1⟩; replace hq := hq.below hb1; clear hb1; clear a_0 a_1 a_2 a_3 a_4 a_5 a_6 a_7 a_8 a_9 a_f b_0 b_1 b_2 b_3 b_4 b_f r_0 r_1 r_2 r_3 r_4 r_f; obtain ⟨a_0, a_1, a_2, a_3, a_4, a_5, a_6, a_7, a_8, a_9, a_f⟩ := hq.a.ten; obtain ⟨b_0, b_1, b_2, b_3, b_4, b_f⟩ := hq.b.atTm; obtain ⟨r_0, r_1, r_2, r_3, r_4, r_f⟩ := hq.r.atTm))
  refine bodyPost_ret (v := .tuple #[.agg #[.int .u32 0, .int .i64 0, .int .u32 0, .int .u32 0, .int .u32 0], .int .i64 10]) (by simp [results, Try.results34, go_sem, *]) rfl ⟨rfl, ?_⟩
  exact (((((hq.setR 0 _).setR 1 _).setR 2 _).setR 3 _).setR 4 _).z
theorem L3 {x0 x1 x2 : Int} (f : Nat → Int) (h : ∀ t : Nat, t ≤ 2 → (⟨0, 0, x0, x1, x2⟩ : Tm).L t = f t) : x0 = f 0 ∧ x1 = f 1 ∧ x2 = f 2 := by
  have h0 := h 0 (by omega)
  have h1 := h 1 (by omega)
  have h2 := h 2 (by omega)
  simp [Tm.L] at h0 h1 h2
  exact ⟨h0, h1, h2⟩
theorem L3mk {x0 x1 x2 : Int} (f : Nat → Int) (h0 : x0 = f 0) (h1 : x1 = f 1) (h2 : x2 = f 2) : ∀ t : Nat, t ≤ 2 → (⟨0, 0, x0, x1, x2⟩ : Tm).L t = f t := by
  intro t ht
  have : t = 0 ∨ t = 1 ∨ t = 2 := by omega
  rcases this with rfl | rfl | rfl
  · simpa [Tm.L] using h0
  · simpa [Tm.L] using h1
  · simpa [Tm.L] using h2
theorem tck_apT {p : Pa} {t : Tm} (hp : Good p) : tck (apT p t) = if apOver p t = true then 1 else 0 := by
  rcases h : apOver p t with _ | _
  · rw [apT_ok hp h]; rfl
  · have h3 := hp.u3; have h4 := hp.k0; have h5 := hp.u0
    rw [tck_gr ⟨by show 0 ≤ p.k + p.u; omega, h3⟩ (by
      rw [apOver_T, decide_eq_true_iff] at h
      simp [gr]; omega)]
    rfl
theorem wrapU {a b : Int} (h0 : 0 ≤ a) (h1 : a ≤ 1048576) (h2 : 0 ≤ b) (h3 : b ≤ 1048576) : IntKind.u32.wrap (a + b) = a + b := by simp [IntKind.wrap, IntKind.signed, IntKind.bits]; omega
set_option maxHeartbeats 16000000 in
theorem rapply_d (f a0 a1 a2 a3 l0 l1 l2 e m0 m1 m2 : Int) (kn un : Nat) (w : World) (hp : chk ⟨f, kn, a0, a1, a2, a3, un, l0, l1, l2⟩ = 0) (hc : tck ⟨e, f, m0, m1, m2⟩ = 0) (okp : PaOk ⟨f, kn, a0, a1, a2, a3, un, l0, l1, l2⟩) (okt : TmOk ⟨e, f, m0, m1, m2⟩) (x : Tm) (c : Int) (hx : applyR ⟨f, kn, a0, a1, a2, a3, un, l0, l1, l2⟩ ⟨e, f, m0, m1, m2⟩ = (x, c)) : Calls Try.prog 34 #[.agg #[.int .i64 f, .int .i64 kn, .int .u32 a0, .int .u32 a1, .int .u32 a2, .int .u32 a3, .int .i64 un, .int .u32 l0, .int .u32 l1, .int .u32 l2], .agg #[.int .u32 e, .int .i64 f, .int .u32 m0, .int .u32 m1, .int .u32 m2]] w fun e' w' => e' = .returned (.tuple #[.agg #[.int .u32 x.e, .int .i64 x.d, .int .u32 x.l0, .int .u32 x.l1, .int .u32 x.l2], .int .i64 c]) ∧ Below w.heap.size w w' := by
  have HCP := Lib.hid hp
  have HCT := Lib.hid hc
  have gp := good_iff.1 hp
  have gt := tck_iff.1 hc
  have HX := Lib.hid hx
  obtain ⟨⟨p0, _⟩, ⟨p1, _⟩, ⟨p2, _⟩, ⟨p3, _⟩, _⟩ := okp
  obtain ⟨⟨t0, _⟩, ⟨t1, _⟩, ⟨t2, _⟩, ⟨t3, _⟩⟩ := okt
  simp only at p0 p1 p2 p3 t0 t1 t2 t3
  have b0 : IntKind.u32.wrap (e + a0) = e + a0 := wrapU t0 gt.2.2.1 p0 gp.g0
  have b1 : IntKind.u32.wrap (m0 + a1) = m0 + a1 := wrapU t1 gt.2.2.2.1 p1 gp.g1
  have b2 : IntKind.u32.wrap (m1 + a2) = m1 + a2 := wrapU t2 gt.2.2.2.2.1 p2 gp.g2
  have b3 : IntKind.u32.wrap (m2 + a3) = m2 + a3 := wrapU t3 gt.2.2.2.2.2.1 p3 gp.g3
  have hku : kn + un ≤ 3 := by have := gp.u3; simp only at this; omega
  have HG := Lib.hid gp
  clear hp hc hx gp gt
  go_enter Try.func34, Try.ntmps34
  go_upto_region 1 with (fail)
  have hq := Q3.start w #[.int .i64 f, .int .i64 kn, .int .u32 a0, .int .u32 a1, .int .u32 a2, .int .u32 a3, .int .i64 un, .int .u32 l0, .int .u32 l1, .int .u32 l2] #[.int .u32 e, .int .i64 f, .int .u32 m0, .int .u32 m1, .int .u32 m2] #[.int .u32 0, .int .i64 0, .int .u32 0, .int .u32 0, .int .u32 0] 30 49 49
  generalize ((w.alloc (.cells #[.int .i64 f, .int .i64 kn, .int .u32 a0, .int .u32 a1, .int .u32 a2, .int .u32 a3, .int .i64 un, .int .u32 l0, .int .u32 l1, .int .u32 l2] 30)).alloc (.cells #[.int .u32 e, .int .i64 f, .int .u32 m0, .int .u32 m1, .int .u32 m2] 49)).alloc (.cells #[.int .u32 0, .int .i64 0, .int .u32 0, .int .u32 0, .int .u32 0] 49) = wc at hq ⊢
  generalize hA : w.heap.size = A at hq ⊢
  generalize hB : A + 1 = B at hq ⊢
  generalize hR : B + 1 = R at hq ⊢
  clear hA hB hR
  obtain ⟨a_0, a_1, a_2, a_3, a_4, a_5, a_6, a_7, a_8, a_9, a_f⟩ := hq.a.ten
  obtain ⟨b_0, b_1, b_2, b_3, b_4, b_f⟩ := hq.b.atTm
  obtain ⟨r_0, r_1, r_2, r_3, r_4, r_f⟩ := hq.r.atTm
  go_upto_region 9 with (first | (go_at_call 24; (with_reducible refine (rcheck_all f kn a0 a1 a2 a3 un l0 l1 l2 _ _ HCP.out).mono ?_); rintro e' w1 ⟨rfl, hb1⟩; replace hq := hq.below hb1; clear hb1; clear a_0 a_1 a_2 a_3 a_4 a_5 a_6 a_7 a_8 a_9 a_f b_0 b_1 b_2 b_3 b_4 b_f r_0 r_1 r_2 r_3 r_4 r_f; obtain ⟨a_0, a_1, a_2, a_3, a_4, a_5, a_6, a_7, a_8, a_9, a_f⟩ := hq.a.ten; obtain ⟨b_0, b_1, b_2, b_3, b_4, b_f⟩ := hq.b.atTm; obtain ⟨r_0, r_1, r_2, r_3, r_4, r_f⟩ := hq.r.atTm) | (go_at_call 38; (with_reducible refine (trcheck_all e f m0 m1 m2 _ _ HCT.out).mono ?_); rintro e' w1 ⟨rfl, hb1⟩; replace hq := hq.below hb1; clear hb1; clear a_0 a_1 a_2 a_3 a_4 a_5 a_6 a_7 a_8 a_9 a_f b_0 b_1 b_2 b_3 b_4 b_f r_0 r_1 r_2 r_3 r_4 r_f; obtain ⟨a_0, a_1, a_2, a_3, a_4, a_5, a_6, a_7, a_8, a_9, a_f⟩ := hq.a.ten; obtain ⟨b_0, b_1, b_2, b_3, b_4, b_f⟩ := hq.b.atTm; obtain ⟨r_0, r_1, r_2, r_3, r_4, r_f⟩ := hq.r.atTm))
  clear a_0 a_1 a_2 a_3 a_4 a_5 a_6 a_7 a_8 a_9 a_f b_0 b_1 b_2 b_3 b_4 b_f r_0 r_1 r_2 r_3 r_4 r_f
  replace hq := hq.new #[.int .u32 (e + a0), .int .i64 (kn + un), .int .u32 0, .int .u32 0, .int .u32 0] 49
  generalize w1.alloc (.cells #[.int .u32 (e + a0), .int .i64 (kn + un), .int .u32 0, .int .u32 0, .int .u32 0] 49) = wd at hq ⊢
  generalize w1.heap.size = X at hq ⊢
  go_wp2
  go_loopw [8] (fun i wr => ∃ (j : Nat) (x0 x1 x2 : Int), j ≤ kn ∧ i = .int .i64 j ∧ Q4 w A B R X #[.int .i64 f, .int .i64 kn, .int .u32 a0, .int .u32 a1, .int .u32 a2, .int .u32 a3, .int .i64 un, .int .u32 l0, .int .u32 l1, .int .u32 l2] #[.int .u32 e, .int .i64 f, .int .u32 m0, .int .u32 m1, .int .u32 m2] #[.int .u32 0, .int .i64 0, .int .u32 0, .int .u32 0, .int .u32 0] #[.int .u32 (e + a0), .int .i64 (kn + un), .int .u32 x0, .int .u32 x1, .int .u32 x2] 30 49 49 49 wr ∧ Hid (∀ t : Nat, t ≤ 2 → (⟨0, 0, x0, x1, x2⟩ : Tm).L t = if t < j then (⟨e, f, m0, m1, m2⟩ : Tm).L t + (⟨f, kn, a0, a1, a2, a3, un, l0, l1, l2⟩ : Pa).A (t + 1) else 0)) (fun i _ => kn - (intOf i).toNat)
  case atStart => exact ⟨0, 0, 0, 0, by omega, rfl, hq, Lib.hid (L3mk _ (by simp) (by simp) (by simp))⟩
  case round =>
    clear hq
    obtain ⟨j, x0, x1, x2, hj, rfl, hq, hx⟩ := hrel
    obtain ⟨a_0, a_1, a_2, a_3, a_4, a_5, a_6, a_7, a_8, a_9, a_f⟩ := hq.q.a.ten
    obtain ⟨b_0, b_1, b_2, b_3, b_4, b_f⟩ := hq.q.b.atTm
    obtain ⟨r_0, r_1, r_2, r_3, r_4, r_f⟩ := hq.q.r.atTm
    obtain ⟨x_0, x_1, x_2, x_3, x_4, x_f⟩ := hq.x.atTm
    by_cases hlt : j < kn
    · have hj3 : j = 0 ∨ j = 1 ∨ j = 2 := by omega
      rcases hj3 with rfl | rfl | rfl
      · have hx' : Hid (∀ t : Nat, t ≤ 2 → (⟨0, 0, m0 + a1, x1, x2⟩ : Tm).L t = if t < 0 + 1 then (⟨e, f, m0, m1, m2⟩ : Tm).L t + (⟨f, kn, a0, a1, a2, a3, un, l0, l1, l2⟩ : Pa).A (t + 1) else 0) := Lib.hid (by
          obtain ⟨e0, e1, e2⟩ := L3 _ hx.out
          refine L3mk _ ?_ ?_ ?_ <;> simp [Tm.L, Pa.A] at e0 e1 e2 ⊢ <;> assumption)
        clear hx
        go_wp2
        go_region
        go_wp2
        go_roundw
        case rel => exact ⟨0 + 1, m0 + a1, x1, x2, by omega, by go_num, hq.drew.setX 2 _, hx'⟩
        case measure => simp [intOf]; omega
      · have hx' : Hid (∀ t : Nat, t ≤ 2 → (⟨0, 0, x0, m1 + a2, x2⟩ : Tm).L t = if t < 1 + 1 then (⟨e, f, m0, m1, m2⟩ : Tm).L t + (⟨f, kn, a0, a1, a2, a3, un, l0, l1, l2⟩ : Pa).A (t + 1) else 0) := Lib.hid (by
          obtain ⟨e0, e1, e2⟩ := L3 _ hx.out
          refine L3mk _ ?_ ?_ ?_ <;> simp [Tm.L, Pa.A] at e0 e1 e2 ⊢ <;> assumption)
        clear hx
        go_wp2
        go_region
        go_wp2
        go_roundw
        case rel => exact ⟨1 + 1, x0, m1 + a2, x2, by omega, by go_num, hq.drew.setX 3 _, hx'⟩
        case measure => simp [intOf]; omega
      · have hx' : Hid (∀ t : Nat, t ≤ 2 → (⟨0, 0, x0, x1, m2 + a3⟩ : Tm).L t = if t < 2 + 1 then (⟨e, f, m0, m1, m2⟩ : Tm).L t + (⟨f, kn, a0, a1, a2, a3, un, l0, l1, l2⟩ : Pa).A (t + 1) else 0) := Lib.hid (by
          obtain ⟨e0, e1, e2⟩ := L3 _ hx.out
          refine L3mk _ ?_ ?_ ?_ <;> simp [Tm.L, Pa.A] at e0 e1 e2 ⊢ <;> assumption)
        clear hx
        go_wp2
        go_region
        go_wp2
        go_roundw
        case rel => exact ⟨2 + 1, x0, x1, m2 + a3, by omega, by go_num, hq.drew.setX 4 _, hx'⟩
        case measure => simp [intOf]; omega
    · obtain rfl : kn = j := by omega
      go_wp2
      go_loopw [9] (fun i wr => ∃ (j : Nat) (x0 x1 x2 : Int), j ≤ un ∧ i = .int .i64 j ∧ Q4 w A B R X #[.int .i64 f, .int .i64 kn, .int .u32 a0, .int .u32 a1, .int .u32 a2, .int .u32 a3, .int .i64 un, .int .u32 l0, .int .u32 l1, .int .u32 l2] #[.int .u32 e, .int .i64 f, .int .u32 m0, .int .u32 m1, .int .u32 m2] #[.int .u32 0, .int .i64 0, .int .u32 0, .int .u32 0, .int .u32 0] #[.int .u32 (e + a0), .int .i64 (kn + un), .int .u32 x0, .int .u32 x1, .int .u32 x2] 30 49 49 49 wr ∧ Hid (∀ t : Nat, t ≤ 2 → (⟨0, 0, x0, x1, x2⟩ : Tm).L t = if t < kn then (⟨e, f, m0, m1, m2⟩ : Tm).L t + (⟨f, kn, a0, a1, a2, a3, un, l0, l1, l2⟩ : Pa).A (t + 1) else if t < kn + j then (⟨f, kn, a0, a1, a2, a3, un, l0, l1, l2⟩ : Pa).L ((t : Int) - kn) else 0)) (fun i _ => un - (intOf i).toNat)
      case atStart => exact ⟨0, x0, x1, x2, by omega, rfl, hq, Lib.hid (by
        obtain ⟨e0, e1, e2⟩ := L3 _ hx.out
        refine L3mk _ ?_ ?_ ?_ <;> simp [Tm.L, Pa.A] at e0 e1 e2 ⊢ <;> (try split) <;> simp_all)⟩
      case round =>
        clear a_0 a_1 a_2 a_3 a_4 a_5 a_6 a_7 a_8 a_9 a_f b_0 b_1 b_2 b_3 b_4 b_f r_0 r_1 r_2 r_3 r_4 r_f x_0 x_1 x_2 x_3 x_4 x_f hq hx
        clear x0 x1 x2
        obtain ⟨j, x0, x1, x2, hj, rfl, hq, hx⟩ := hrel
        obtain ⟨a_0, a_1, a_2, a_3, a_4, a_5, a_6, a_7, a_8, a_9, a_f⟩ := hq.q.a.ten
        obtain ⟨b_0, b_1, b_2, b_3, b_4, b_f⟩ := hq.q.b.atTm
        obtain ⟨r_0, r_1, r_2, r_3, r_4, r_f⟩ := hq.q.r.atTm
        obtain ⟨x_0, x_1, x_2, x_3, x_4, x_f⟩ := hq.x.atTm
        by_cases hlt : j < un
        · have hj3 : (kn = 0 ∧ j = 0) ∨ (kn = 0 ∧ j = 1) ∨ (kn = 0 ∧ j = 2) ∨ (kn = 1 ∧ j = 0) ∨ (kn = 1 ∧ j = 1) ∨ (kn = 2 ∧ j = 0) := by omega
          rcases hj3 with ⟨rfl, rfl⟩ | ⟨rfl, rfl⟩ | ⟨rfl, rfl⟩ | ⟨rfl, rfl⟩ | ⟨rfl, rfl⟩ | ⟨rfl, rfl⟩
          · have hx' : Hid (∀ t : Nat, t ≤ 2 → (⟨0, 0, l0, x1, x2⟩ : Tm).L t = if t < 0 then (⟨e, f, m0, m1, m2⟩ : Tm).L t + (⟨f, 0, a0, a1, a2, a3, un, l0, l1, l2⟩ : Pa).A (t + 1) else if t < 0 + (0 + 1) then (⟨f, 0, a0, a1, a2, a3, un, l0, l1, l2⟩ : Pa).L ((t : Int) - 0) else 0) := Lib.hid (by
              obtain ⟨e0, e1, e2⟩ := L3 _ hx.out
              refine L3mk _ ?_ ?_ ?_ <;> simp [Tm.L, Pa.A, Pa.L] at e0 e1 e2 ⊢ <;> assumption)
            clear hx
            go_wp2
            go_region
            go_wp2
            go_roundw
            case rel => exact ⟨0 + 1, l0, x1, x2, by omega, by go_num, hq.drew.setX 2 _, hx'⟩
            case measure => simp [intOf]; omega
          · have hx' : Hid (∀ t : Nat, t ≤ 2 → (⟨0, 0, x0, l1, x2⟩ : Tm).L t = if t < 0 then (⟨e, f, m0, m1, m2⟩ : Tm).L t + (⟨f, 0, a0, a1, a2, a3, un, l0, l1, l2⟩ : Pa).A (t + 1) else if t < 0 + (1 + 1) then (⟨f, 0, a0, a1, a2, a3, un, l0, l1, l2⟩ : Pa).L ((t : Int) - 0) else 0) := Lib.hid (by
              obtain ⟨e0, e1, e2⟩ := L3 _ hx.out
              refine L3mk _ ?_ ?_ ?_ <;> simp [Tm.L, Pa.A, Pa.L] at e0 e1 e2 ⊢ <;> assumption)
            clear hx
            go_wp2
            go_region
            go_wp2
            go_roundw
            case rel => exact ⟨1 + 1, x0, l1, x2, by omega, by go_num, hq.drew.setX 3 _, hx'⟩
            case measure => simp [intOf]; omega
          · have hx' : Hid (∀ t : Nat, t ≤ 2 → (⟨0, 0, x0, x1, l2⟩ : Tm).L t = if t < 0 then (⟨e, f, m0, m1, m2⟩ : Tm).L t + (⟨f, 0, a0, a1, a2, a3, un, l0, l1, l2⟩ : Pa).A (t + 1) else if t < 0 + (2 + 1) then (⟨f, 0, a0, a1, a2, a3, un, l0, l1, l2⟩ : Pa).L ((t : Int) - 0) else 0) := Lib.hid (by
              obtain ⟨e0, e1, e2⟩ := L3 _ hx.out
              refine L3mk _ ?_ ?_ ?_ <;> simp [Tm.L, Pa.A, Pa.L] at e0 e1 e2 ⊢ <;> assumption)
            clear hx
            go_wp2
            go_region
            go_wp2
            go_roundw
            case rel => exact ⟨2 + 1, x0, x1, l2, by omega, by go_num, hq.drew.setX 4 _, hx'⟩
            case measure => simp [intOf]; omega
          · have hx' : Hid (∀ t : Nat, t ≤ 2 → (⟨0, 0, x0, l0, x2⟩ : Tm).L t = if t < 1 then (⟨e, f, m0, m1, m2⟩ : Tm).L t + (⟨f, 1, a0, a1, a2, a3, un, l0, l1, l2⟩ : Pa).A (t + 1) else if t < 1 + (0 + 1) then (⟨f, 1, a0, a1, a2, a3, un, l0, l1, l2⟩ : Pa).L ((t : Int) - 1) else 0) := Lib.hid (by
              obtain ⟨e0, e1, e2⟩ := L3 _ hx.out
              refine L3mk _ ?_ ?_ ?_ <;> simp [Tm.L, Pa.A, Pa.L] at e0 e1 e2 ⊢ <;> assumption)
            clear hx
            go_wp2
            go_region
            go_wp2
            go_roundw
            case rel => exact ⟨0 + 1, x0, l0, x2, by omega, by go_num, hq.drew.setX 3 _, hx'⟩
            case measure => simp [intOf]; omega
          · have hx' : Hid (∀ t : Nat, t ≤ 2 → (⟨0, 0, x0, x1, l1⟩ : Tm).L t = if t < 1 then (⟨e, f, m0, m1, m2⟩ : Tm).L t + (⟨f, 1, a0, a1, a2, a3, un, l0, l1, l2⟩ : Pa).A (t + 1) else if t < 1 + (1 + 1) then (⟨f, 1, a0, a1, a2, a3, un, l0, l1, l2⟩ : Pa).L ((t : Int) - 1) else 0) := Lib.hid (by
              obtain ⟨e0, e1, e2⟩ := L3 _ hx.out
              refine L3mk _ ?_ ?_ ?_ <;> simp [Tm.L, Pa.A, Pa.L] at e0 e1 e2 ⊢ <;> assumption)
            clear hx
            go_wp2
            go_region
            go_wp2
            go_roundw
            case rel => exact ⟨1 + 1, x0, x1, l1, by omega, by go_num, hq.drew.setX 4 _, hx'⟩
            case measure => simp [intOf]; omega
          · have hx' : Hid (∀ t : Nat, t ≤ 2 → (⟨0, 0, x0, x1, l0⟩ : Tm).L t = if t < 2 then (⟨e, f, m0, m1, m2⟩ : Tm).L t + (⟨f, 2, a0, a1, a2, a3, un, l0, l1, l2⟩ : Pa).A (t + 1) else if t < 2 + (0 + 1) then (⟨f, 2, a0, a1, a2, a3, un, l0, l1, l2⟩ : Pa).L ((t : Int) - 2) else 0) := Lib.hid (by
              obtain ⟨e0, e1, e2⟩ := L3 _ hx.out
              refine L3mk _ ?_ ?_ ?_ <;> simp [Tm.L, Pa.A, Pa.L] at e0 e1 e2 ⊢ <;> assumption)
            clear hx
            go_wp2
            go_region
            go_wp2
            go_roundw
            case rel => exact ⟨0 + 1, x0, x1, l0, by omega, by go_num, hq.drew.setX 4 _, hx'⟩
            case measure => simp [intOf]; omega
        · obtain rfl : un = j := by omega
          have eT : apT ⟨f, kn, a0, a1, a2, a3, un, l0, l1, l2⟩ ⟨e, f, m0, m1, m2⟩ = ⟨e + a0, kn + un, x0, x1, x2⟩ := by
            refine tm_ext rfl rfl (fun i h0 h2 => ?_)
            rw [ap_L _ _ i h0 h2]
            obtain ⟨t, rfl⟩ := Int.eq_ofNat_of_zero_le h0
            refine Eq.trans ?_ (hx.out t (by omega)).symm
            unfold apL
            simp only
            by_cases c1 : t < kn
            · rw [if_pos (by omega), if_pos c1]
            · rw [if_neg (by omega), if_neg c1]
              by_cases c2 : t < kn + un
              · rw [if_pos (by omega), if_pos c2]
              · rw [if_neg (by omega), if_neg c2]
          have eC := tck_apT (t := ⟨e, f, m0, m1, m2⟩) HG.out
          have hR := HX.out
          unfold applyR at hR
          rw [if_neg (fun h => h HCP.out), if_neg (fun h => h HCT.out), if_neg (fun h => h rfl)] at hR
          rw [eT] at eC hR
          rcases ho : apOver ⟨f, kn, a0, a1, a2, a3, un, l0, l1, l2⟩ ⟨e, f, m0, m1, m2⟩ with _ | _
          · rw [ho, if_neg (by decide)] at hR eC
            have E := Lib.hid eC
            injection hR with h1 h2
            subst h1
            subst h2
            clear ho eC eT hx
            go_wp2_with (go_at_call 38; (with_reducible refine (trcheck_all (e + a0) (kn + un) x0 x1 x2 _ _ E.out).mono ?_); rintro e' w1 ⟨rfl, hb1⟩; replace hq := hq.below hb1; clear hb1; clear a_0 a_1 a_2 a_3 a_4 a_5 a_6 a_7 a_8 a_9 a_f b_0 b_1 b_2 b_3 b_4 b_f r_0 r_1 r_2 r_3 r_4 r_f; clear x_0 x_1 x_2 x_3 x_4 x_f; obtain ⟨a_0, a_1, a_2, a_3, a_4, a_5, a_6, a_7, a_8, a_9, a_f⟩ := hq.q.a.ten; obtain ⟨b_0, b_1, b_2, b_3, b_4, b_f⟩ := hq.q.b.atTm; obtain ⟨r_0, r_1, r_2, r_3, r_4, r_f⟩ := hq.q.r.atTm; obtain ⟨x_0, x_1, x_2, x_3, x_4, x_f⟩ := hq.x.atTm)
            refine bodyPost_ret (v := .tuple #[.agg #[.int .u32 (e + a0), .int .i64 (kn + un), .int .u32 x0, .int .u32 x1, .int .u32 x2], .int .i64 0]) (by simp [results, Try.results34, go_sem, *]) rfl ⟨rfl, ?_⟩
            exact (((((hq.setR 0 _).setR 1 _).setR 2 _).setR 3 _).setR 4 _).q.z
          · rw [ho, if_pos rfl] at hR eC
            have E := Lib.hid eC
            injection hR with h1 h2
            subst h1
            subst h2
            clear ho eC eT hx
            go_wp2_with (go_at_call 38; (with_reducible refine (trcheck_all (e + a0) (kn + un) x0 x1 x2 _ _ E.out).mono ?_); rintro e' w1 ⟨rfl, hb1⟩; replace hq := hq.below hb1; clear hb1; clear a_0 a_1 a_2 a_3 a_4 a_5 a_6 a_7 a_8 a_9 a_f b_0 b_1 b_2 b_3 b_4 b_f r_0 r_1 r_2 r_3 r_4 r_f; clear x_0 x_1 x_2 x_3 x_4 x_f; obtain ⟨a_0, a_1, a_2, a_3, a_4, a_5, a_6, a_7, a_8, a_9, a_f⟩ := hq.q.a.ten; obtain ⟨b_0, b_1, b_2, b_3, b_4, b_f⟩ := hq.q.b.atTm; obtain ⟨r_0, r_1, r_2, r_3, r_4, r_f⟩ := hq.q.r.atTm; obtain ⟨x_0, x_1, x_2, x_3, x_4, x_f⟩ := hq.x.atTm)
            refine bodyPost_ret (v := .tuple #[.agg #[.int .u32 0, .int .i64 0, .int .u32 0, .int .u32 0, .int .u32 0], .int .i64 9]) (by simp [results, Try.results34, go_sem, *]) rfl ⟨rfl, ?_⟩
            exact (((((hq.setR 0 _).setR 1 _).setR 2 _).setR 3 _).setR 4 _).q.z
theorem rapply_all (f k a0 a1 a2 a3 u l0 l1 l2 e d m0 m1 m2 : Int) (w : World) (okp : PaOk ⟨f, k, a0, a1, a2, a3, u, l0, l1, l2⟩) (okt : TmOk ⟨e, d, m0, m1, m2⟩) (x : Tm) (c : Int) (hx : applyR ⟨f, k, a0, a1, a2, a3, u, l0, l1, l2⟩ ⟨e, d, m0, m1, m2⟩ = (x, c)) : Calls Try.prog 34 #[.agg #[.int .i64 f, .int .i64 k, .int .u32 a0, .int .u32 a1, .int .u32 a2, .int .u32 a3, .int .i64 u, .int .u32 l0, .int .u32 l1, .int .u32 l2], .agg #[.int .u32 e, .int .i64 d, .int .u32 m0, .int .u32 m1, .int .u32 m2]] w fun e' w' => e' = .returned (.tuple #[.agg #[.int .u32 x.e, .int .i64 x.d, .int .u32 x.l0, .int .u32 x.l1, .int .u32 x.l2], .int .i64 c]) ∧ Below w.heap.size w w' := by
  have hR := hx
  unfold applyR at hR
  by_cases hp : chk ⟨f, k, a0, a1, a2, a3, u, l0, l1, l2⟩ = 0
  · rw [if_neg (fun h => h hp)] at hR
    by_cases ht : tck ⟨e, d, m0, m1, m2⟩ = 0
    · rw [if_neg (fun h => h ht)] at hR
      by_cases hd : d = f
      · subst hd
        have g := good_iff.1 hp
        obtain ⟨kn, rfl⟩ := Int.eq_ofNat_of_zero_le g.k0
        obtain ⟨un, rfl⟩ := Int.eq_ofNat_of_zero_le g.u0
        exact rapply_d d a0 a1 a2 a3 l0 l1 l2 e m0 m1 m2 kn un w hp ht okp okt x c hx
      · rw [if_pos hd] at hR
        injection hR with h1 h2
        subst h1
        subst h2
        exact rapply_c f k a0 a1 a2 a3 u l0 l1 l2 e d m0 m1 m2 w hp ht hd
    · rw [if_pos ht] at hR
      injection hR with h1 h2
      subst h1
      exact rapply_b f k a0 a1 a2 a3 u l0 l1 l2 e d m0 m1 m2 w c hp h2 (by rw [← h2]; exact ht)
  · rw [if_pos hp] at hR
    injection hR with h1 h2
    subst h1
    exact rapply_a f k a0 a1 a2 a3 u l0 l1 l2 e d m0 m1 m2 w c h2 (by rw [← h2]; exact hp)
end Go.Proofs.Ytfmnbkcjibhloaa
