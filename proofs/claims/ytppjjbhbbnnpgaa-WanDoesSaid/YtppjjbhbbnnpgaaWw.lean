/- Links in new memory: their acts. Conditions: the bounds of WI. -/
import Derived.Test.YtppjjbhbbnnpgaaCut
namespace Go.Proofs.Ytppjjbhbbnnpgaa
open Go.RowKit G
set_option linter.unusedVariables false
set_option linter.unusedSimpArgs false
structure WW (W w : World) (P : Nat) (v : Value) (x : Wn) : Prop where
  p : WAt 58 34 w P v x
  b : Below W.heap.size W w
  f : ∀ c ∈ wfp P v, W.heap.size ≤ c
structure WI (m : Nat) (x : Wn) : Prop where
  n : x.n ≤ 16
  l : x.ls.length ≤ 96
  c0 : 0 ≤ x.lost
  c1 : x.lost ≤ m
theorem WI.more {m m' : Nat} {x : Wn} (h : WI m x) (hm : m ≤ m') : WI m' x := ⟨h.n, h.l, h.c0, by have := h.c1; omega⟩
theorem WI.send {m : Nat} {x : Wn} (h : WI m x) (y : Lt) : WI (m + 1) (x.send y) := by
  unfold Wn.send
  have := h.c0
  have := h.c1
  split
  · next he =>
    refine ⟨h.n, ?_, h.c0, by show x.lost ≤ _; omega⟩
    unfold Wn.sendE at he
    split at he
    · cases he
    split at he
    · cases he
    split at he
    · cases he
    split at he
    · cases he
    · simp [Wn.add]; omega
  split
  · exact ⟨h.n, h.l, by show 0 ≤ x.lost + 1; omega, by show x.lost + 1 ≤ _; omega⟩
  · exact h.more (by omega)
theorem WI.dbl {m : Nat} {x : Wn} (h : WI m x) (i : Int) : WI m (x.dbl i) := by
  unfold Wn.dbl
  split
  · next he =>
    refine ⟨h.n, ?_, h.c0, h.c1⟩
    unfold Wn.dblE at he
    split at he
    · cases he
    split at he
    · cases he
    · simp [Wn.add]; omega
  · exact h
theorem WI.take {m : Nat} {x : Wn} (h : WI m x) (i : Int) : WI m (x.take i) := by
  unfold Wn.take
  split
  · exact ⟨h.n, by have := h.l; have := List.length_eraseIdx_le x.ls i.toNat; show (x.ls.eraseIdx i.toNat).length ≤ 96; omega, h.c0, h.c1⟩
  · exact h
theorem WI.cut {m : Nat} {x : Wn} (h : WI m x) (a b : Int) (o : Bool) : WI (m + 96) (x.cut a b o) := by
  have h1 := keepL_le a b x.ls
  have := h.l
  have := h.c0
  have := h.c1
  unfold Wn.cut
  split
  · split
    · exact ⟨h.n, by show (keepL a b x.ls).length ≤ 96; omega, by show 0 ≤ x.lost + _; omega, by show x.lost + _ ≤ _; omega⟩
    · exact ⟨h.n, h.l, h.c0, by show x.lost ≤ _; omega⟩
  · exact h.more (by omega)
theorem WI.new {n : Int} (h : n ≤ 16) : WI 0 (Wn.new n) := ⟨h, by simp [Wn.new], by simp [Wn.new], by simp [Wn.new]⟩
section
variable {W w w' : World} {P m : Nat} {v u : Value} {x x' : Wn}
theorem WW.step (h : WW W w P v x) (hp : WAt 58 34 w' P u x') (st : Stp (wfp P v) (wfp P u) w w') : WW W w' P u x' :=
  ⟨hp, h.b.trans (st.keep.toBelow h.f h.b.size), fun c hc => (st.new c hc).elim (h.f c) (fun hh => Nat.le_trans h.b.size hh)⟩
theorem WW.below (h : WW W w P v x) (hb : Below w.heap.size w w') : WW W w' P v x := ⟨h.p.below hb, below_of h.b hb, h.f⟩
theorem WW.base {W0 : World} (h : WW W w P v x) (hb : Below W0.heap.size W0 W) : WW W0 w P v x := ⟨h.p, below_of hb h.b, fun c hc => Nat.le_trans hb.size (h.f c hc)⟩
theorem WW.send (h : WW W w P v x) (q : WI m x) (hm : m ≤ 900000) (f t : Int) (s : ByteArray) (e : Int) (he : x.sendE ⟨f, t, s⟩ = e) : Calls Try.prog 8 #[ptr P, .agg #[.int .i64 f, .int .i64 t, .string s]] w fun r w' => r = .returned (.int .i64 e) ∧ ∃ u, WW W w' P u (x.send ⟨f, t, s⟩) :=
  (send_any h.p q.n q.l q.c0 (by have := q.c1; omega) ⟨f, t, s⟩).mono fun _ _ ⟨h1, u, hp, st⟩ => ⟨he ▸ h1, u, h.step hp st⟩
theorem WW.dbl (h : WW W w P v x) (q : WI m x) (i e : Int) (he : x.dblE i = e) : Calls Try.prog 13 #[ptr P, .int .i64 i] w fun r w' => r = .returned (.int .i64 e) ∧ ∃ u, WW W w' P u (x.dbl i) :=
  (dbl_any h.p (by have := q.l; omega) i).mono fun _ _ ⟨h1, u, hp, st⟩ => ⟨he ▸ h1, u, h.step hp st⟩
theorem WW.take (h : WW W w P v x) (q : WI m x) (i f t : Int) (s : ByteArray) (e : Int) (hy : atL x.ls i = ⟨f, t, s⟩) (he : atE x.ls i = e) : Calls Try.prog 10 #[ptr P, .int .i64 i] w fun r w' => r = .returned (.tuple #[.agg #[.int .i64 f, .int .i64 t, .string s], .int .i64 e]) ∧ ∃ u, WW W w' P u (x.take i) :=
  (take_any h.p (by have := q.l; omega) i).mono fun _ _ ⟨h1, u, hp, st⟩ => ⟨by rw [h1, hy, he], u, h.step hp st⟩
theorem WW.cut (h : WW W w P v x) (q : WI m x) (hm : m ≤ 900000) (a b : Int) (o : Bool) (e : Int) (he : cutE x.n a b = e) : Calls Try.prog 15 #[ptr P, .int .i64 a, .int .i64 b, .bool o] w fun r w' => r = .returned (.int .i64 e) ∧ ∃ u, WW W w' P u (x.cut a b o) :=
  (cut_any h.p (by have := q.l; omega) q.c0 (by have := q.c1; omega) q.n a b o).mono fun _ _ ⟨h1, u, hp, st⟩ => ⟨he ▸ h1, u, h.step hp st⟩
theorem WW.waits (h : WW W w P v x) (k : Int) (hk : (x.ls.length : Int) = k) : Calls Try.prog 17 #[ptr P] w fun r w' => r = .returned (.int .i64 k) ∧ w' = w := by
  obtain ⟨p, c, hv⟩ := h.p.s.len
  subst hk
  exact waits_any (by rw [← hv]; exact h.p.c1)
theorem WW.lost (h : WW W w P v x) (k : Int) (hk : x.lost = k) : Calls Try.prog 18 #[ptr P] w fun r w' => r = .returned (.int .i64 k) ∧ w' = w := by
  subst hk
  exact lost_any h.p.cl
theorem WW.out (h : WW W w P v x) (q : WI m x) (a b : Int) (o : Bool) (ho : x.outB a b = o) : Calls Try.prog 19 #[ptr P, .int .i64 a, .int .i64 b] w fun r w' => r = .returned (.bool o) ∧ w' = w := by
  subst ho
  exact out_any h.p q.n a b
theorem WW.at (h : WW W w P v x) (q : WI m x) (i f t : Int) (s : ByteArray) (e : Int) (hy : atL x.ls i = ⟨f, t, s⟩) (he : atE x.ls i = e) : Calls Try.prog 21 #[ptr P, .int .i64 i] w fun r w' => r = .returned (.tuple #[.agg #[.int .i64 f, .int .i64 t, .string s], .int .i64 e]) ∧ WW W w' P v x :=
  (at_any h.p (by have := q.l; omega) i).mono fun _ _ ⟨h1, hb⟩ => ⟨by rw [h1, hy, he], h.below hb⟩
end
theorem WW.born (n : Int) (w : World) (h2 : 2 ≤ n) (h16 : n ≤ 16) : Calls Try.prog 6 #[.int .i64 n] w fun e w' => ∃ P, e = .returned (.tuple #[ptr P, .int .i64 0]) ∧ WW w w' P (.slice none 0 0) (Wn.new n) :=
  (new_yes n w h2 h16).mono fun _ _ ⟨P, he, hp, hb, hP⟩ => ⟨P, he, hp, hb, fun c hc => by simp [wfp, own_none] at hc; subst hc; exact hP⟩
abbrev sa : ByteArray := ⟨#[97]⟩
abbrev s0 : ByteArray := ⟨#[]⟩
def K0 : Wn := Wn.new 2
def K1 : Wn := K0.send ⟨0, 1, sa⟩
def K2 : Wn := K1.dbl 0
def K3 : Wn := K2.take 1
def K4 : Wn := K3.cut 0 1 true
def K5 : Wn := K4.send ⟨0, 1, s0⟩
theorem e1 : K0.sendE ⟨0, 1, sa⟩ = 0 := by decide
theorem e1' : K1 = { n := 2, ls := [⟨0, 1, sa⟩], out := fun _ _ => false, lost := 0 } := by unfold K1 Wn.send; rw [e1]; rfl
theorem e2 : K1.dblE 0 = 0 := by rw [e1']; decide
theorem e2' : K2 = { n := 2, ls := [⟨0, 1, sa⟩, ⟨0, 1, sa⟩], out := fun _ _ => false, lost := 0 } := by unfold K2 Wn.dbl; rw [e2, if_pos rfl, e1']; rfl
theorem e3 : K3 = { n := 2, ls := [⟨0, 1, sa⟩], out := fun _ _ => false, lost := 0 } := by unfold K3 Wn.take; rw [e2', if_pos (by decide)]; rfl
theorem e4 : K4 = { n := 2, ls := [], out := outSet (fun _ _ => false) 0 1 true, lost := 1 } := by unfold K4 Wn.cut; rw [e3, if_pos (by decide), if_pos rfl]; rfl
theorem e5 : K4.sendE ⟨0, 1, s0⟩ = 14 := by rw [e4]; decide
theorem e5' : K5 = { n := 2, ls := [], out := outSet (fun _ _ => false) 0 1 true, lost := 2 } := by unfold K5 Wn.send; rw [e5, if_neg (by decide), if_pos (by decide), e4]; rfl
theorem e6 : K5.sendE ⟨1, 1, s0⟩ = 1 := by rw [e5']; decide
theorem q0 : WI 0 K0 := WI.new (by decide)
theorem q1 : WI 1 K1 := q0.send _
theorem q2 : WI 1 K2 := q1.dbl _
theorem q3 : WI 1 K3 := q2.take _
theorem q4 : WI 97 K4 := q3.cut _ _ _
theorem q5 : WI 98 K5 := q4.send _
theorem n2 : (K2.ls.length : Int) = 2 := by simp [e2']
theorem a2 : atL K2.ls 1 = ⟨0, 1, ⟨#[97]⟩⟩ := by simp [e2', atL]
theorem b2 : atE K2.ls 1 = 0 := by simp [e2', atE]
theorem n3 : cutE K3.n 0 1 = 0 := by rw [e3]; decide
theorem n4 : (K4.ls.length : Int) = 0 := by simp [e4]
theorem l4 : K4.lost = 1 := by simp [e4]
theorem o4 : K4.outB 0 1 = true := by rw [e4]; decide
theorem l5 : K5.lost = 2 := by simp [e5']
theorem born2 (w : World) : Calls Try.prog 6 #[.int .i64 2] w fun e w' => ∃ P, e = .returned (.tuple #[ptr P, .int .i64 0]) ∧ WW w w' P (.slice none 0 0) K0 := WW.born 2 w (by decide) (by decide)
set_option maxHeartbeats 4000000 in
set_option maxRecDepth 100000 in
theorem works_any (w : World) : Calls Try.prog 23 #[] w fun e w' => e = .returned (.bool true) ∧ Below w.heap.size w w' := by
  go_enter Try.func23, Try.ntmps23
  go_upto_region 2 with (go_at_call 6; (with_reducible refine (born2 _).mono ?_); rintro e' w1 ⟨P, rfl, h1⟩)
  have H0 := Lib.hid h1
  clear h1
  go_upto_region 4 with (first
    | (go_at_call 8; (with_reducible refine (H0.out.send q0 (by decide) 0 1 ⟨#[97]⟩ 0 e1).mono ?_); rintro e' w2 ⟨rfl, u2, h2⟩; have H1 := Lib.hid (show WW w w2 P u2 K1 from h2); clear h2)
    | (go_at_call 13; (with_reducible refine (H1.out.dbl q1 0 0 e2).mono ?_); rintro e' w3 ⟨rfl, u3, h3⟩; have H2 := Lib.hid (show WW w w3 P u3 K2 from h3); clear h3)
    | (go_at_call 17; (with_reducible refine (H2.out.waits 2 n2).mono ?_); rintro e' w4 ⟨rfl, hw4⟩; obtain rfl := hw4.symm))
  go_upto_region 5 with (go_at_call 10; (with_reducible refine (H2.out.take q2 1 0 1 ⟨#[97]⟩ 0 a2 b2).mono ?_); rintro e' w5 ⟨rfl, u5, h5⟩; have H3 := Lib.hid (show WW w w5 P u5 K3 from h5); clear h5)
  generalize hB : w5.heap.size = B
  have hbx := Row.new w5 #[.int .i64 0, .int .i64 1, .string ⟨#[97]⟩] 34
  have H3' := Lib.hid (H3.out.below (below_new w5 (.cells #[.int .i64 0, .int .i64 1, .string ⟨#[97]⟩] 34)))
  rw [hB] at hbx
  clear hB
  generalize w5.alloc (.cells #[.int .i64 0, .int .i64 1, .string ⟨#[97]⟩] 34) = w6 at hbx H3' ⊢
  have z1 : w6.cell? ⟨B, 1, none⟩ = some (.int .i64 1) := hbx.cell 1 _ rfl
  have z2 : w6.cell? ⟨B, 2, none⟩ = some (.string ⟨#[97]⟩) := hbx.cell 2 _ rfl
  clear hbx H0 H1 H2 H3
  go_wp2_with (first
    | (go_at_call 15; (with_reducible refine (H3'.out.cut q3 (by decide) 0 1 true 0 n3).mono ?_); rintro e' w7 ⟨rfl, u7, h7⟩; have H4 := Lib.hid (show WW w w7 P u7 K4 from h7); clear h7)
    | (go_at_call 17; (with_reducible refine (H4.out.waits 0 n4).mono ?_); rintro e' w8 ⟨rfl, hw8⟩; obtain rfl := hw8.symm)
    | (go_at_call 18; (with_reducible refine (H4.out.lost 1 l4).mono ?_); rintro e' w8 ⟨rfl, hw8⟩; obtain rfl := hw8.symm)
    | (go_at_call 19; (with_reducible refine (H4.out.out q4 0 1 true o4).mono ?_); rintro e' w8 ⟨rfl, hw8⟩; obtain rfl := hw8.symm)
    | (go_at_call 8; (with_reducible refine (H4.out.send q4 (by decide) 0 1 ⟨#[]⟩ 14 e5).mono ?_); rintro e' w9 ⟨rfl, u9, h9⟩; have H5 := Lib.hid (show WW w w9 P u9 K5 from h9); clear h9 H4)
    | (go_at_call 18; (with_reducible refine (H5.out.lost 2 l5).mono ?_); rintro e' w8 ⟨rfl, hw8⟩; obtain rfl := hw8.symm)
    | (go_at_call 8; (with_reducible refine (H5.out.send q5 (by decide) 1 1 ⟨#[]⟩ 1 e6).mono ?_); rintro e' w10 ⟨rfl, u10, h10⟩; have H6 := Lib.hid h10.b; clear h10))
  go_ret
  exact ⟨rfl, H6.out⟩
end Go.Proofs.Ytppjjbhbbnnpgaa
