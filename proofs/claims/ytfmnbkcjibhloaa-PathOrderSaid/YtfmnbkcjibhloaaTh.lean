/- One way, and then another one: the program's Then. Condition: counts of uint32's range. -/
import Derived.Test.YtfmnbkcjibhloaaRth
import Derived.Laws.AppendOwn
namespace Go.Proofs.Ytfmnbkcjibhloaa
open Go.RowKit
set_option linter.unusedVariables false
set_option linter.unusedSimpArgs false
attribute [local go_sem] famUpon_value famUpon_skip famUpon_enter famAt_run
/-- What the first regions read. -/
abbrev S3t (w0 : World) (A B R : Nat) (f pk a0 a1 a2 a3 pu l0 l1 l2 g qk c0 c1 c2 c3 qu n0 n1 n2 : Int) (w : World) : Prop := Q3 w0 A B R #[.int .i64 f, .int .i64 pk, .int .u32 a0, .int .u32 a1, .int .u32 a2, .int .u32 a3, .int .i64 pu, .int .u32 l0, .int .u32 l1, .int .u32 l2] #[.int .i64 g, .int .i64 qk, .int .u32 c0, .int .u32 c1, .int .u32 c2, .int .u32 c3, .int .i64 qu, .int .u32 n0, .int .u32 n1, .int .u32 n2] #[.int .i64 0, .int .i64 0, .int .u32 0, .int .u32 0, .int .u32 0, .int .u32 0, .int .i64 0, .int .u32 0, .int .u32 0, .int .u32 0] 26 26 26 w ∧ AtPa A f pk a0 a1 a2 a3 pu l0 l1 l2 w ∧ AtPa B g qk c0 c1 c2 c3 qu n0 n1 n2 w ∧ AtPa R 0 0 0 0 0 0 0 0 0 0 w
theorem Q3.st {w0 w : World} {A B R : Nat} {f pk a0 a1 a2 a3 pu l0 l1 l2 g qk c0 c1 c2 c3 qu n0 n1 n2 : Int} (h : Q3 w0 A B R #[.int .i64 f, .int .i64 pk, .int .u32 a0, .int .u32 a1, .int .u32 a2, .int .u32 a3, .int .i64 pu, .int .u32 l0, .int .u32 l1, .int .u32 l2] #[.int .i64 g, .int .i64 qk, .int .u32 c0, .int .u32 c1, .int .u32 c2, .int .u32 c3, .int .i64 qu, .int .u32 n0, .int .u32 n1, .int .u32 n2] #[.int .i64 0, .int .i64 0, .int .u32 0, .int .u32 0, .int .u32 0, .int .u32 0, .int .i64 0, .int .u32 0, .int .u32 0, .int .u32 0] 26 26 26 w) : S3t w0 A B R f pk a0 a1 a2 a3 pu l0 l1 l2 g qk c0 c1 c2 c3 qu n0 n1 n2 w := ⟨h, h.a.atPa, h.b.atPa, h.r.atPa⟩
theorem s3t_below {w0 w w' : World} {A B R : Nat} {f pk a0 a1 a2 a3 pu l0 l1 l2 g qk c0 c1 c2 c3 qu n0 n1 n2 : Int} (hb : Below w.heap.size w w') (h : S3t w0 A B R f pk a0 a1 a2 a3 pu l0 l1 l2 g qk c0 c1 c2 c3 qu n0 n1 n2 w) : S3t w0 A B R f pk a0 a1 a2 a3 pu l0 l1 l2 g qk c0 c1 c2 c3 qu n0 n1 n2 w' := (h.1.below hb).st
set_option maxRecDepth 100000 in
set_option maxHeartbeats 4000000 in
theorem then_a (f pk a0 a1 a2 a3 pu l0 l1 l2 g qk c0 c1 c2 c3 qu n0 n1 n2 : Int) (w : World) (cp cq c : Int) (hp : chk ⟨f, pk, a0, a1, a2, a3, pu, l0, l1, l2⟩ = cp) (hc : chk ⟨g, qk, c0, c1, c2, c3, qu, n0, n1, n2⟩ = cq) (he : orL [cp, cq] = c) (h0 : c ≠ 0) : Calls Try.prog 35 #[.agg #[.int .i64 f, .int .i64 pk, .int .u32 a0, .int .u32 a1, .int .u32 a2, .int .u32 a3, .int .i64 pu, .int .u32 l0, .int .u32 l1, .int .u32 l2], .agg #[.int .i64 g, .int .i64 qk, .int .u32 c0, .int .u32 c1, .int .u32 c2, .int .u32 c3, .int .i64 qu, .int .u32 n0, .int .u32 n1, .int .u32 n2]] w fun e' w' => e' = .returned (.tuple #[.agg #[.int .i64 0, .int .i64 0, .int .u32 0, .int .u32 0, .int .u32 0, .int .u32 0, .int .i64 0, .int .u32 0, .int .u32 0, .int .u32 0], .int .i64 c]) ∧ Below w.heap.size w w' := by
  have HCP := Lib.hid hp
  have HCQ := Lib.hid hc
  have HC := Lib.hid he
  have g2 : (c != 0) = true := by simp [h0]
  clear hp h0 hc he
  go_enter Try.func35, Try.ntmps35
  go_upto_region 1 with (fail)
  have hq := Q3.start w #[.int .i64 f, .int .i64 pk, .int .u32 a0, .int .u32 a1, .int .u32 a2, .int .u32 a3, .int .i64 pu, .int .u32 l0, .int .u32 l1, .int .u32 l2] #[.int .i64 g, .int .i64 qk, .int .u32 c0, .int .u32 c1, .int .u32 c2, .int .u32 c3, .int .i64 qu, .int .u32 n0, .int .u32 n1, .int .u32 n2] #[.int .i64 0, .int .i64 0, .int .u32 0, .int .u32 0, .int .u32 0, .int .u32 0, .int .i64 0, .int .u32 0, .int .u32 0, .int .u32 0] 26 26 26
  generalize ((w.alloc (.cells #[.int .i64 f, .int .i64 pk, .int .u32 a0, .int .u32 a1, .int .u32 a2, .int .u32 a3, .int .i64 pu, .int .u32 l0, .int .u32 l1, .int .u32 l2] 26)).alloc (.cells #[.int .i64 g, .int .i64 qk, .int .u32 c0, .int .u32 c1, .int .u32 c2, .int .u32 c3, .int .i64 qu, .int .u32 n0, .int .u32 n1, .int .u32 n2] 26)).alloc (.cells #[.int .i64 0, .int .i64 0, .int .u32 0, .int .u32 0, .int .u32 0, .int .u32 0, .int .i64 0, .int .u32 0, .int .u32 0, .int .u32 0] 26) = wc at hq ⊢
  generalize hA : w.heap.size = A at hq ⊢
  generalize hB : A + 1 = B at hq ⊢
  generalize hR : B + 1 = R at hq ⊢
  clear hA hB hR
  go_cut [6] (fun v6 wr => v6 = .int .i64 c ∧ Q3 w A B R #[.int .i64 f, .int .i64 pk, .int .u32 a0, .int .u32 a1, .int .u32 a2, .int .u32 a3, .int .i64 pu, .int .u32 l0, .int .u32 l1, .int .u32 l2] #[.int .i64 g, .int .i64 qk, .int .u32 c0, .int .u32 c1, .int .u32 c2, .int .u32 c3, .int .i64 qu, .int .u32 n0, .int .u32 n1, .int .u32 n2] #[.int .i64 0, .int .i64 0, .int .u32 0, .int .u32 0, .int .u32 0, .int .u32 0, .int .i64 0, .int .u32 0, .int .u32 0, .int .u32 0] 26 26 26 wr)
  case first =>
    have H := Lib.hid hq.drew.st
    clear hq
    go_region_held3 (S3t w A B R f pk a0 a1 a2 a3 pu l0 l1 l2 g qk c0 c1 c2 c3 qu n0 n1 n2) (first | (with_reducible exact H.out) | (with_reducible assumption) | (with_reducible exact s3t_below ‹_› ‹_›) | (with_reducible exact s3t_below (below_new _ _) ‹_›))
      (first
        | (go_at_call 22; (with_reducible refine (check_all f pk a0 a1 a2 a3 pu l0 l1 l2 _ _ HCP.out).mono ?_); rintro e' w1 ⟨rfl, hb1⟩)
        | (go_at_call 22; (with_reducible refine (check_all g qk c0 c1 c2 c3 qu n0 n1 n2 _ _ HCQ.out).mono ?_); rintro e' w1 ⟨rfl, hb1⟩)
        | (go_at_call 49; (with_reducible refine (or2_new _ _ _).mono ?_); rw [HC.out]; rintro e' w' ⟨rfl, rfl⟩))
    all_goals
      go_wp2_with fail
      go_meet
      case rel => exact ⟨rfl, (‹S3t w A B R f pk a0 a1 a2 a3 pu l0 l1 l2 g qk c0 c1 c2 c3 qu n0 n1 n2 _›).1⟩
  case rest =>
  clear hq
  obtain ⟨rfl, hq⟩ := hcut
  obtain ⟨a_0, a_1, a_2, a_3, a_4, a_5, a_6, a_7, a_8, a_9, a_f⟩ := hq.a.ten
  obtain ⟨b_0, b_1, b_2, b_3, b_4, b_5, b_6, b_7, b_8, b_9, b_f⟩ := hq.b.ten
  obtain ⟨r_0, r_1, r_2, r_3, r_4, r_5, r_6, r_7, r_8, r_9, r_f⟩ := hq.r.ten
  go_wp2
  refine bodyPost_ret (v := .tuple #[.agg #[.int .i64 0, .int .i64 0, .int .u32 0, .int .u32 0, .int .u32 0, .int .u32 0, .int .i64 0, .int .u32 0, .int .u32 0, .int .u32 0], .int .i64 c]) (by simp [results, Try.results35, go_sem, *]) rfl ⟨rfl, ?_⟩
  exact ((((((((((hq.setR 0 _).setR 1 _).setR 2 _).setR 3 _).setR 4 _).setR 5 _).setR 6 _).setR 7 _).setR 8 _).setR 9 _).z
set_option maxRecDepth 100000 in
set_option maxHeartbeats 4000000 in
theorem then_c (f pk a0 a1 a2 a3 pu l0 l1 l2 g qk c0 c1 c2 c3 qu n0 n1 n2 : Int) (w : World) (t : Int) (hp : chk ⟨f, pk, a0, a1, a2, a3, pu, l0, l1, l2⟩ = 0) (hc : chk ⟨g, qk, c0, c1, c2, c3, qu, n0, n1, n2⟩ = 0) (ht : toR ⟨f, pk, a0, a1, a2, a3, pu, l0, l1, l2⟩ = t) (h0 : t ≠ g) : Calls Try.prog 35 #[.agg #[.int .i64 f, .int .i64 pk, .int .u32 a0, .int .u32 a1, .int .u32 a2, .int .u32 a3, .int .i64 pu, .int .u32 l0, .int .u32 l1, .int .u32 l2], .agg #[.int .i64 g, .int .i64 qk, .int .u32 c0, .int .u32 c1, .int .u32 c2, .int .u32 c3, .int .i64 qu, .int .u32 n0, .int .u32 n1, .int .u32 n2]] w fun e' w' => e' = .returned (.tuple #[.agg #[.int .i64 0, .int .i64 0, .int .u32 0, .int .u32 0, .int .u32 0, .int .u32 0, .int .i64 0, .int .u32 0, .int .u32 0, .int .u32 0], .int .i64 10]) ∧ Below w.heap.size w w' := by
  have HCP := Lib.hid hp
  have HCQ := Lib.hid hc
  have HC := Lib.hid (show orL [0, 0] = 0 from rfl)
  have HT := Lib.hid ht
  have g2 : (t != g) = true := by simp [h0]
  clear hp h0 hc ht
  go_enter Try.func35, Try.ntmps35
  go_upto_region 1 with (fail)
  have hq := Q3.start w #[.int .i64 f, .int .i64 pk, .int .u32 a0, .int .u32 a1, .int .u32 a2, .int .u32 a3, .int .i64 pu, .int .u32 l0, .int .u32 l1, .int .u32 l2] #[.int .i64 g, .int .i64 qk, .int .u32 c0, .int .u32 c1, .int .u32 c2, .int .u32 c3, .int .i64 qu, .int .u32 n0, .int .u32 n1, .int .u32 n2] #[.int .i64 0, .int .i64 0, .int .u32 0, .int .u32 0, .int .u32 0, .int .u32 0, .int .i64 0, .int .u32 0, .int .u32 0, .int .u32 0] 26 26 26
  generalize ((w.alloc (.cells #[.int .i64 f, .int .i64 pk, .int .u32 a0, .int .u32 a1, .int .u32 a2, .int .u32 a3, .int .i64 pu, .int .u32 l0, .int .u32 l1, .int .u32 l2] 26)).alloc (.cells #[.int .i64 g, .int .i64 qk, .int .u32 c0, .int .u32 c1, .int .u32 c2, .int .u32 c3, .int .i64 qu, .int .u32 n0, .int .u32 n1, .int .u32 n2] 26)).alloc (.cells #[.int .i64 0, .int .i64 0, .int .u32 0, .int .u32 0, .int .u32 0, .int .u32 0, .int .i64 0, .int .u32 0, .int .u32 0, .int .u32 0] 26) = wc at hq ⊢
  generalize hA : w.heap.size = A at hq ⊢
  generalize hB : A + 1 = B at hq ⊢
  generalize hR : B + 1 = R at hq ⊢
  clear hA hB hR
  go_cut [6] (fun v6 wr => v6 = .int .i64 0 ∧ Q3 w A B R #[.int .i64 f, .int .i64 pk, .int .u32 a0, .int .u32 a1, .int .u32 a2, .int .u32 a3, .int .i64 pu, .int .u32 l0, .int .u32 l1, .int .u32 l2] #[.int .i64 g, .int .i64 qk, .int .u32 c0, .int .u32 c1, .int .u32 c2, .int .u32 c3, .int .i64 qu, .int .u32 n0, .int .u32 n1, .int .u32 n2] #[.int .i64 0, .int .i64 0, .int .u32 0, .int .u32 0, .int .u32 0, .int .u32 0, .int .i64 0, .int .u32 0, .int .u32 0, .int .u32 0] 26 26 26 wr)
  case first =>
    have H := Lib.hid hq.drew.st
    clear hq
    go_region_held3 (S3t w A B R f pk a0 a1 a2 a3 pu l0 l1 l2 g qk c0 c1 c2 c3 qu n0 n1 n2) (first | (with_reducible exact H.out) | (with_reducible assumption) | (with_reducible exact s3t_below ‹_› ‹_›) | (with_reducible exact s3t_below (below_new _ _) ‹_›))
      (first
        | (go_at_call 22; (with_reducible refine (check_all f pk a0 a1 a2 a3 pu l0 l1 l2 _ _ HCP.out).mono ?_); rintro e' w1 ⟨rfl, hb1⟩)
        | (go_at_call 22; (with_reducible refine (check_all g qk c0 c1 c2 c3 qu n0 n1 n2 _ _ HCQ.out).mono ?_); rintro e' w1 ⟨rfl, hb1⟩)
        | (go_at_call 49; (with_reducible refine (or2_new _ _ _).mono ?_); rw [HC.out]; rintro e' w' ⟨rfl, rfl⟩))
    all_goals
      go_wp2_with fail
      go_meet
      case rel => exact ⟨rfl, (‹S3t w A B R f pk a0 a1 a2 a3 pu l0 l1 l2 g qk c0 c1 c2 c3 qu n0 n1 n2 _›).1⟩
  case rest =>
  clear hq
  obtain ⟨rfl, hq⟩ := hcut
  go_upto_region 4 with (fail)
  have hC := hq.drew.st
  clear hq
  refine region_class (S3t w A B R f pk a0 a1 a2 a3 pu l0 l1 l2 g qk c0 c1 c2 c3 qu n0 n1 n2) (by kernel_rfl) (by kernel_rfl) hC ?_
  clear hC
  repeat
    (refine step_class (fun K hK => ?_)
     go_simp
     first
       | (refine hK _ ?_; clear hK K)
       | (with_reducible apply Hq.of
          · intro wv hv
            have Hv := Lib.hid hv
            obtain ⟨hz, ⟨_, _, _, _, _, _, _, _, _, _, _⟩, ⟨_, _, _, _, _, _, _, _, _, _, _⟩, ⟨_, _, _, _, _, _, _, _, _, _, _⟩⟩ := hv
            go_simp
            (first
              | (with_reducible exact rfl)
              | (go_at_call 25; (with_reducible refine (to_all f pk a0 a1 a2 a3 pu l0 l1 l2 _ _ HT.out).mono ?_); rintro e' w1 ⟨rfl, hb1⟩; exact ⟨rfl, s3t_below hb1 Hv.out⟩))
          refine hK _ ?_
          clear hK K))
  refine nil_class ?_
  intro wq hq4
  have hq := hq4.1
  clear hq4
  obtain ⟨a_0, a_1, a_2, a_3, a_4, a_5, a_6, a_7, a_8, a_9, a_f⟩ := hq.a.ten
  obtain ⟨b_0, b_1, b_2, b_3, b_4, b_5, b_6, b_7, b_8, b_9, b_f⟩ := hq.b.ten
  obtain ⟨r_0, r_1, r_2, r_3, r_4, r_5, r_6, r_7, r_8, r_9, r_f⟩ := hq.r.ten
  go_wp2
  refine bodyPost_ret (v := .tuple #[.agg #[.int .i64 0, .int .i64 0, .int .u32 0, .int .u32 0, .int .u32 0, .int .u32 0, .int .i64 0, .int .u32 0, .int .u32 0, .int .u32 0], .int .i64 10]) (by simp [results, Try.results35, go_sem, *]) rfl ⟨rfl, ?_⟩
  exact ((((((((((hq.setR 0 _).setR 1 _).setR 2 _).setR 3 _).setR 4 _).setR 5 _).setR 6 _).setR 7 _).setR 8 _).setR 9 _).z
theorem own_set {w : World} {base e size n : Nat} {v : Value} {xs : List Value} (h : w.ownsRow base e size v n xs) (b i : Nat) (hb : b < base) (u : Value) : (w.setCell ⟨b, i, none⟩ u).ownsRow base e size v n xs :=
  h.kept (row := some b) ⟨rfl, rfl, rfl, by rw [size_set]; exact Nat.le_refl _, fun k hk hn => Below.heap_setCell w ⟨b, i, none⟩ u k (fun e => hn (by rw [e]))⟩ (by
    cases hv : v.ownBlock with
    | none => exact .inl rfl
    | some k => exact .inr (fun e => by have := (h.lt k hv).1; injection e with e; omega))
theorem own_drew {w : World} {base e size n : Nat} {v : Value} {xs : List Value} (h : w.ownsRow base e size v n xs) : w.drew.ownsRow base e size v n xs := h
theorem Row.grown {w w' : World} {b T : Nat} {cs : Array Value} {row : Option Nat} (h : Row w b cs T) (hg : w.grownBy w' row) (hr : ∀ k, row = some k → b < k) : Row w' b cs T := by
  unfold Row; rw [hg.block b h.lt (fun e => by have := hr b e.symm; omega)]; exact h
theorem Q5.grown {w0 w w' : World} {A B R S X TA TB TR TS TX : Nat} {a b r sc x : Array Value} {row : Option Nat} (h : Q5 w0 A B R S X a b r sc x TA TB TR TS TX w) (hg : w.grownBy w' row) (hr : ∀ k, row = some k → X < k) : Q5 w0 A B R S X a b r sc x TA TB TR TS TX w' := by
  have h1 := h.q.q.lA; have h2 := h.q.q.AB; have h3 := h.q.q.BR; have h4 := h.q.RX; have h5 := h.SX
  have R : ∀ {c T : Nat} {cs : Array Value}, c ≤ X → Row w c cs T → Row w' c cs T := fun hc hw => hw.grown hg (fun k e => by have := hr k e; omega)
  exact ⟨⟨⟨R (by omega) h.q.q.a, R (by omega) h.q.q.b, R (by omega) h.q.q.r, h.q.q.z.trans ⟨hg.os, hg.tape, hg.output, hg.size, fun k hk => hg.block k (by have := h.q.q.z.size; omega) (fun e => by have := hr k e.symm; omega)⟩, h1, h2, h3⟩, R (by omega) h.q.x, h4⟩, R (by omega) h.x, h5⟩
theorem Q5.below {w0 w w' : World} {A B R S X TA TB TR TS TX : Nat} {a b r sc x : Array Value} (h : Q5 w0 A B R S X a b r sc x TA TB TR TS TX w) (hb : Below w.heap.size w w') : Q5 w0 A B R S X a b r sc x TA TB TR TS TX w' := ⟨h.q.below hb, h.x.below hb, h.SX⟩
/-- The blocks that a region reads, and the sums' row, whatever it holds. -/
structure E5 (w0 : World) (A B R S X : Nat) (a b r : Array Value) (w : World) : Prop where
  h : ∃ sc, Q4 w0 A B R S a b r sc 26 26 26 72 w
  lt : S < X
abbrev T5 (w0 : World) (A B R S X : Nat) (f pk a0 a1 a2 a3 pu l0 l1 l2 g qk c0 c1 c2 c3 qu n0 n1 n2 : Int) (r : Array Value) (w : World) : Prop := E5 w0 A B R S X #[.int .i64 f, .int .i64 pk, .int .u32 a0, .int .u32 a1, .int .u32 a2, .int .u32 a3, .int .i64 pu, .int .u32 l0, .int .u32 l1, .int .u32 l2] #[.int .i64 g, .int .i64 qk, .int .u32 c0, .int .u32 c1, .int .u32 c2, .int .u32 c3, .int .i64 qu, .int .u32 n0, .int .u32 n1, .int .u32 n2] r w ∧ AtPa A f pk a0 a1 a2 a3 pu l0 l1 l2 w ∧ AtPa B g qk c0 c1 c2 c3 qu n0 n1 n2 w
section
variable {w0 w w' : World} {A B R S X : Nat} {f pk a0 a1 a2 a3 pu l0 l1 l2 g qk c0 c1 c2 c3 qu n0 n1 n2 : Int} {r : Array Value}
theorem E5.t (h : E5 w0 A B R S X #[.int .i64 f, .int .i64 pk, .int .u32 a0, .int .u32 a1, .int .u32 a2, .int .u32 a3, .int .i64 pu, .int .u32 l0, .int .u32 l1, .int .u32 l2] #[.int .i64 g, .int .i64 qk, .int .u32 c0, .int .u32 c1, .int .u32 c2, .int .u32 c3, .int .i64 qu, .int .u32 n0, .int .u32 n1, .int .u32 n2] r w) : T5 w0 A B R S X f pk a0 a1 a2 a3 pu l0 l1 l2 g qk c0 c1 c2 c3 qu n0 n1 n2 r w := by
  obtain ⟨sc, hq⟩ := h.h
  exact ⟨h, hq.q.a.atPa, hq.q.b.atPa⟩
theorem t5_setS (i : Nat) (v : Value) (h : T5 w0 A B R S X f pk a0 a1 a2 a3 pu l0 l1 l2 g qk c0 c1 c2 c3 qu n0 n1 n2 r w.drew) : T5 w0 A B R S X f pk a0 a1 a2 a3 pu l0 l1 l2 g qk c0 c1 c2 c3 qu n0 n1 n2 r (w.setCell ⟨S, i, none⟩ v).drew := by
  obtain ⟨sc, hq⟩ := h.1.h
  exact (⟨⟨_, hq.setX i v⟩, h.1.lt⟩ : E5 w0 A B R S X #[.int .i64 f, .int .i64 pk, .int .u32 a0, .int .u32 a1, .int .u32 a2, .int .u32 a3, .int .i64 pu, .int .u32 l0, .int .u32 l1, .int .u32 l2] #[.int .i64 g, .int .i64 qk, .int .u32 c0, .int .u32 c1, .int .u32 c2, .int .u32 c3, .int .i64 qu, .int .u32 n0, .int .u32 n1, .int .u32 n2] r _).t
theorem t5_alloc (o : Obj) (h : T5 w0 A B R S X f pk a0 a1 a2 a3 pu l0 l1 l2 g qk c0 c1 c2 c3 qu n0 n1 n2 r w.drew) : T5 w0 A B R S X f pk a0 a1 a2 a3 pu l0 l1 l2 g qk c0 c1 c2 c3 qu n0 n1 n2 r (w.alloc o).drew := by
  obtain ⟨sc, hq⟩ := h.1.h
  exact (⟨⟨_, hq.below (below_new _ o)⟩, h.1.lt⟩ : E5 w0 A B R S X #[.int .i64 f, .int .i64 pk, .int .u32 a0, .int .u32 a1, .int .u32 a2, .int .u32 a3, .int .i64 pu, .int .u32 l0, .int .u32 l1, .int .u32 l2] #[.int .i64 g, .int .i64 qk, .int .u32 c0, .int .u32 c1, .int .u32 c2, .int .u32 c3, .int .i64 qu, .int .u32 n0, .int .u32 n1, .int .u32 n2] r _).t
theorem t5_fill (hb : Below X w w') (h : T5 w0 A B R S X f pk a0 a1 a2 a3 pu l0 l1 l2 g qk c0 c1 c2 c3 qu n0 n1 n2 r w) : T5 w0 A B R S X f pk a0 a1 a2 a3 pu l0 l1 l2 g qk c0 c1 c2 c3 qu n0 n1 n2 r w' := by
  obtain ⟨sc, hq⟩ := h.1.h
  have h1 := hq.q.lA; have h2 := hq.q.AB; have h3 := hq.q.BR; have h4 := hq.RX; have h5 := h.1.lt
  exact (⟨⟨_, ⟨hq.q.a.belowB (by omega) hb, hq.q.b.belowB (by omega) hb, hq.q.r.belowB (by omega) hb, hq.q.z.trans (hb.mono (by omega)), h1, h2, h3⟩, hq.x.belowB (by omega) hb, h4⟩, h5⟩ : E5 w0 A B R S X #[.int .i64 f, .int .i64 pk, .int .u32 a0, .int .u32 a1, .int .u32 a2, .int .u32 a3, .int .i64 pu, .int .u32 l0, .int .u32 l1, .int .u32 l2] #[.int .i64 g, .int .i64 qk, .int .u32 c0, .int .u32 c1, .int .u32 c2, .int .u32 c3, .int .i64 qu, .int .u32 n0, .int .u32 n1, .int .u32 n2] r _).t
theorem t5_setX (i : Nat) (v : Value) (h : T5 w0 A B R S X f pk a0 a1 a2 a3 pu l0 l1 l2 g qk c0 c1 c2 c3 qu n0 n1 n2 r w) : T5 w0 A B R S X f pk a0 a1 a2 a3 pu l0 l1 l2 g qk c0 c1 c2 c3 qu n0 n1 n2 r (w.setCell ⟨X, i, none⟩ v) :=
  t5_fill (below_set (Below.refl _ _) X i (Nat.le_refl _) v) h
theorem t5_grown {row : Option Nat} (hg : w.grownBy w' row) (hr : ∀ k, row = some k → X < k) (h : T5 w0 A B R S X f pk a0 a1 a2 a3 pu l0 l1 l2 g qk c0 c1 c2 c3 qu n0 n1 n2 r w) : T5 w0 A B R S X f pk a0 a1 a2 a3 pu l0 l1 l2 g qk c0 c1 c2 c3 qu n0 n1 n2 r w' := by
  obtain ⟨sc, hq⟩ := h.1.h
  have h1 := hq.q.lA; have h2 := hq.q.AB; have h3 := hq.q.BR; have h4 := hq.RX; have h5 := h.1.lt
  have KR : ∀ {c T : Nat} {cs : Array Value}, c ≤ X → Row w c cs T → Row w' c cs T := fun hc hw => hw.grown hg (fun k e => by have := hr k e; omega)
  exact (⟨⟨_, ⟨KR (by omega) hq.q.a, KR (by omega) hq.q.b, KR (by omega) hq.q.r, hq.q.z.trans ⟨hg.os, hg.tape, hg.output, hg.size, fun k hk => hg.block k (by have := hq.q.z.size; omega) (fun e => by have := hr k e.symm; omega)⟩, h1, h2, h3⟩, KR (by omega) hq.x, h4⟩, h5⟩ : E5 w0 A B R S X #[.int .i64 f, .int .i64 pk, .int .u32 a0, .int .u32 a1, .int .u32 a2, .int .u32 a3, .int .i64 pu, .int .u32 l0, .int .u32 l1, .int .u32 l2] #[.int .i64 g, .int .i64 qk, .int .u32 c0, .int .u32 c1, .int .u32 c2, .int .u32 c3, .int .i64 qu, .int .u32 n0, .int .u32 n1, .int .u32 n2] r _).t
end
/-- A row that is owned, as a slice: where it has cells, they lie at its address. -/
theorem own_view {w : World} {base e n : Nat} {v : Value} {xs : List Value} (h : w.ownsRow base e 1 v n xs) : ∃ sp cap, v = .slice sp n cap ∧ (0 < n → ∃ ad, sp = some ad ∧ ∀ j u, xs[j]? = some u → w.cell? (ad.add j) = some u) := by
  have hc := h
  rcases h.2 with ⟨rfl, rfl⟩ | ⟨g, cap, cur, rfl, _⟩
  · exact ⟨none, 0, rfl, fun h => absurd h (Nat.lt_irrefl _)⟩
  · exact ⟨_, cap, rfl, fun _ => ⟨_, rfl, hc.cells rfl⟩⟩
theorem thA_big {p q : Pa} (i : Int) : 1048576 < thA p q i ↔ i ≤ thK p q ∧ 1048576 < p.A i + q.A i := by
  unfold thA; split <;> omega
theorem thL_big {p q : Pa} (hq : Good q) (j : Int) : 1048576 < thL p q j ↔ j < thM p q ∧ 1048576 < p.L j + q.A (1 + p.k + j) := by
  have h := hq.Lle (j - thM p q)
  unfold thL
  split
  · omega
  · split <;> omega
theorem then_over {p q : Pa} (hq : Good q) {K M : Nat} (hK : thK p q = K) (hM : thM p q = M) (k3 : K ≤ 3) (m3 : M ≤ 3) :
    paOver (thP p q) = (([bigN p.a0 q.a0, bigN p.a1 q.a1, bigN p.a2 q.a2, bigN p.a3 q.a3].take (K + 1)).any id || ([bigN p.l0 (q.A (1 + p.k)), bigN p.l1 (q.A (2 + p.k)), bigN p.l2 (q.A (3 + p.k))].take M).any id) := by
  have A0 := thA_big (p := p) (q := q) 0
  have A1 := thA_big (p := p) (q := q) 1
  have A2 := thA_big (p := p) (q := q) 2
  have A3 := thA_big (p := p) (q := q) 3
  have L0 := thL_big (p := p) hq 0
  have L1 := thL_big (p := p) hq 1
  have L2 := thL_big (p := p) hq 2
  rw [hK] at A0 A1 A2 A3
  rw [hM] at L0 L1 L2
  rw [show 1 + p.k + 0 = 1 + p.k by omega] at L0
  rw [show 1 + p.k + 1 = 2 + p.k by omega] at L1
  rw [show 1 + p.k + 2 = 3 + p.k by omega] at L2
  unfold paOver
  rw [Bool.eq_iff_iff, decide_eq_true_iff]
  have e : (1048576 < (thP p q).a0 ∨ 1048576 < (thP p q).a1 ∨ 1048576 < (thP p q).a2 ∨ 1048576 < (thP p q).a3 ∨ 1048576 < (thP p q).l0 ∨ 1048576 < (thP p q).l1 ∨ 1048576 < (thP p q).l2) ↔
    (1048576 < thA p q 0 ∨ 1048576 < thA p q 1 ∨ 1048576 < thA p q 2 ∨ 1048576 < thA p q 3 ∨ 1048576 < thL p q 0 ∨ 1048576 < thL p q 1 ∨ 1048576 < thL p q 2) := Iff.rfl
  rw [e, A0, A1, A2, A3, L0, L1, L2]
  simp only [Pa.A, Pa.L, if_pos, if_true, show ¬ ((1 : Int) = 0) by omega, show ¬ ((2 : Int) = 0) by omega, show ¬ ((2 : Int) = 1) by omega, show ¬ ((3 : Int) = 0) by omega, show ¬ ((3 : Int) = 1) by omega, show ¬ ((3 : Int) = 2) by omega, if_false]
  generalize (if 1 + p.k = 0 then q.a0 else if 1 + p.k = 1 then q.a1 else if 1 + p.k = 2 then q.a2 else if 1 + p.k = 3 then q.a3 else 0) = B0
  generalize (if 2 + p.k = 0 then q.a0 else if 2 + p.k = 1 then q.a1 else if 2 + p.k = 2 then q.a2 else if 2 + p.k = 3 then q.a3 else 0) = B1
  generalize (if 3 + p.k = 0 then q.a0 else if 3 + p.k = 1 then q.a1 else if 3 + p.k = 2 then q.a2 else if 3 + p.k = 3 then q.a3 else 0) = B2
  have hk : K = 0 ∨ K = 1 ∨ K = 2 ∨ K = 3 := by omega
  have hm : M = 0 ∨ M = 1 ∨ M = 2 ∨ M = 3 := by omega
  rcases hk with rfl | rfl | rfl | rfl <;> rcases hm with rfl | rfl | rfl | rfl <;> simp [bigN] <;> omega
theorem step_append_own {P : Program} {w : World} {ops : Array Oper} {o : Oper} {a : Act} {K : Act → World → Prop} {Q : Exit → Act → World → Prop} {E : Prop} (hgd : o.guard = none) (s x : Operand) (t : TypeId)
    (ho : o.op = .call { callee := .builtin .append, args := #[s, x], argTypes := #[t, t] })
    (base : Nat) (e : TypeId) (i : TypeInfo) (z : Value) (size bytes : Nat) (ht : P.underlying t = some (.slice e)) (hi : P.info? e = some i) (hz : i.zero = some z)
    (hsize : i.size = size) (hby : i.bytes = bytes) (hzs : z.cells.size = size) (hsz : 0 < size)
    (v : Value) (n : Nat) (xs : List Value) (hs : a.eval s = v) (hown : w.ownsRow base e size v n xs)
    (ad : Addr) (m c : Nat) (news : List Value) (hx : a.eval x = .slice (some ad) m c) (hl : news.length = m * size) (hnews : ∀ j u, news[j]? = some u → w.cell? (ad.add j) = some u) (h1 : ∀ u ∈ news, u.oneCell' = true)
    (h63 : n + m ≤ maxLen) (hbytes : (n + m) * bytes ≤ 140737488355328) (hbase : base ≤ w.heap.size)
    (h : ∀ v' w', w'.ownsRow base e size v' (n + m) (xs ++ news) → w.grownBy w' v.ownBlock → (v' = .slice none 0 0 ↔ v = .slice none 0 0 ∧ m = 0) → K (a.put o.dst v') w') :
    if Region.wanted o (yielded ops a.tmps) = true then Oper.wp P o a w K Q else E := by
  rw [if_pos (by simp [Region.wanted, hgd])]
  exact wp_append_own w s x t ho base e i z size bytes ht hi hz hsize hby hzs hsz v n xs hs hown ad m c news hx hl hnews h1 h63 hbytes hbase h
theorem Try.info22 : (Try.prog.info? 22).map (fun i => (i.zero, i.size, i.bytes)) = some (some (.int .u32 0), 1, 4) := by kernel_rfl
set_option maxRecDepth 100000 in
set_option maxHeartbeats 32000000 in
theorem then_d (f a0 a1 a2 a3 l0 l1 l2 g c0 c1 c2 c3 n0 n1 n2 : Int) (pk pu qk qu : Nat) (w : World) (hg : (pk : Int) + pu = g) (hp : chk ⟨f, pk, a0, a1, a2, a3, pu, l0, l1, l2⟩ = 0) (hc : chk ⟨g, qk, c0, c1, c2, c3, qu, n0, n1, n2⟩ = 0) (okp : PaOk ⟨f, pk, a0, a1, a2, a3, pu, l0, l1, l2⟩) (okq : PaOk ⟨g, qk, c0, c1, c2, c3, qu, n0, n1, n2⟩) (x : Pa) (c : Int) (hx : thenR ⟨f, pk, a0, a1, a2, a3, pu, l0, l1, l2⟩ ⟨g, qk, c0, c1, c2, c3, qu, n0, n1, n2⟩ = (x, c)) : Calls Try.prog 35 #[.agg #[.int .i64 f, .int .i64 pk, .int .u32 a0, .int .u32 a1, .int .u32 a2, .int .u32 a3, .int .i64 pu, .int .u32 l0, .int .u32 l1, .int .u32 l2], .agg #[.int .i64 g, .int .i64 qk, .int .u32 c0, .int .u32 c1, .int .u32 c2, .int .u32 c3, .int .i64 qu, .int .u32 n0, .int .u32 n1, .int .u32 n2]] w fun e' w' => e' = .returned (.tuple #[.agg #[.int .i64 x.f, .int .i64 x.k, .int .u32 x.a0, .int .u32 x.a1, .int .u32 x.a2, .int .u32 x.a3, .int .i64 x.u, .int .u32 x.l0, .int .u32 x.l1, .int .u32 x.l2], .int .i64 c]) ∧ Below w.heap.size w w' := by
  have HCP := Lib.hid hp
  have HCQ := Lib.hid hc
  have HC := Lib.hid (show orL [0, 0] = 0 from rfl)
  have gp := good_iff.1 hp
  have gq := good_iff.1 hc
  have HT := Lib.hid (gp.to.trans hg)
  have HX := Lib.hid hx
  have hpu : pk + pu ≤ 3 := by have := gp.u3; simp only at this; omega
  have hqu : qk + qu ≤ 3 := by have := gq.u3; simp only at this; omega
  have hqk : qk ≤ pk + pu := by have := gq.kf; simp only at this; omega
  obtain ⟨⟨p0, _⟩, ⟨p1, _⟩, ⟨p2, _⟩, ⟨p3, _⟩, ⟨p4, _⟩, ⟨p5, _⟩, ⟨p6, _⟩⟩ := okp
  obtain ⟨⟨q0, _⟩, ⟨q1, _⟩, ⟨q2, _⟩, ⟨q3, _⟩, _⟩ := okq
  simp only at p0 p1 p2 p3 p4 p5 p6 q0 q1 q2 q3
  have pp0 : a0 ≤ 1048576 := gp.g0
  have pp1 : a1 ≤ 1048576 := gp.g1
  have pp2 : a2 ≤ 1048576 := gp.g2
  have pp3 : a3 ≤ 1048576 := gp.g3
  have pp4 : l0 ≤ 1048576 := gp.h0
  have pp5 : l1 ≤ 1048576 := gp.h1
  have pp6 : l2 ≤ 1048576 := gp.h2
  have qq0 : c0 ≤ 1048576 := gq.g0
  have qq1 : c1 ≤ 1048576 := gq.g1
  have qq2 : c2 ≤ 1048576 := gq.g2
  have qq3 : c3 ≤ 1048576 := gq.g3
  have HG := Lib.hid gp
  have HGQ := Lib.hid gq
  clear hp hc hx gp gq hg
  go_enter Try.func35, Try.ntmps35
  go_upto_region 1 with (fail)
  have hq := Q3.start w #[.int .i64 f, .int .i64 pk, .int .u32 a0, .int .u32 a1, .int .u32 a2, .int .u32 a3, .int .i64 pu, .int .u32 l0, .int .u32 l1, .int .u32 l2] #[.int .i64 g, .int .i64 qk, .int .u32 c0, .int .u32 c1, .int .u32 c2, .int .u32 c3, .int .i64 qu, .int .u32 n0, .int .u32 n1, .int .u32 n2] #[.int .i64 0, .int .i64 0, .int .u32 0, .int .u32 0, .int .u32 0, .int .u32 0, .int .i64 0, .int .u32 0, .int .u32 0, .int .u32 0] 26 26 26
  generalize ((w.alloc (.cells #[.int .i64 f, .int .i64 pk, .int .u32 a0, .int .u32 a1, .int .u32 a2, .int .u32 a3, .int .i64 pu, .int .u32 l0, .int .u32 l1, .int .u32 l2] 26)).alloc (.cells #[.int .i64 g, .int .i64 qk, .int .u32 c0, .int .u32 c1, .int .u32 c2, .int .u32 c3, .int .i64 qu, .int .u32 n0, .int .u32 n1, .int .u32 n2] 26)).alloc (.cells #[.int .i64 0, .int .i64 0, .int .u32 0, .int .u32 0, .int .u32 0, .int .u32 0, .int .i64 0, .int .u32 0, .int .u32 0, .int .u32 0] 26) = wc at hq ⊢
  generalize hA : w.heap.size = A at hq ⊢
  generalize hB : A + 1 = B at hq ⊢
  generalize hR : B + 1 = R at hq ⊢
  clear hA hB hR
  go_cut [6] (fun v6 wr => v6 = .int .i64 0 ∧ Q3 w A B R #[.int .i64 f, .int .i64 pk, .int .u32 a0, .int .u32 a1, .int .u32 a2, .int .u32 a3, .int .i64 pu, .int .u32 l0, .int .u32 l1, .int .u32 l2] #[.int .i64 g, .int .i64 qk, .int .u32 c0, .int .u32 c1, .int .u32 c2, .int .u32 c3, .int .i64 qu, .int .u32 n0, .int .u32 n1, .int .u32 n2] #[.int .i64 0, .int .i64 0, .int .u32 0, .int .u32 0, .int .u32 0, .int .u32 0, .int .i64 0, .int .u32 0, .int .u32 0, .int .u32 0] 26 26 26 wr)
  case first =>
    have H := Lib.hid hq.drew.st
    clear hq
    go_region_held3 (S3t w A B R f pk a0 a1 a2 a3 pu l0 l1 l2 g qk c0 c1 c2 c3 qu n0 n1 n2) (first | (with_reducible exact H.out) | (with_reducible assumption) | (with_reducible exact s3t_below ‹_› ‹_›) | (with_reducible exact s3t_below (below_new _ _) ‹_›))
      (first
        | (go_at_call 22; (with_reducible refine (check_all f pk a0 a1 a2 a3 pu l0 l1 l2 _ _ HCP.out).mono ?_); rintro e' w1 ⟨rfl, hb1⟩)
        | (go_at_call 22; (with_reducible refine (check_all g qk c0 c1 c2 c3 qu n0 n1 n2 _ _ HCQ.out).mono ?_); rintro e' w1 ⟨rfl, hb1⟩)
        | (go_at_call 49; (with_reducible refine (or2_new _ _ _).mono ?_); rw [HC.out]; rintro e' w' ⟨rfl, rfl⟩))
    all_goals
      go_wp2_with fail
      go_meet
      case rel => exact ⟨rfl, (‹S3t w A B R f pk a0 a1 a2 a3 pu l0 l1 l2 g qk c0 c1 c2 c3 qu n0 n1 n2 _›).1⟩
  case rest =>
  clear hq
  obtain ⟨rfl, hq⟩ := hcut
  go_upto_region 4 with (fail)
  have hC := hq.drew.st
  clear hq
  refine region_class (S3t w A B R f pk a0 a1 a2 a3 pu l0 l1 l2 g qk c0 c1 c2 c3 qu n0 n1 n2) (by kernel_rfl) (by kernel_rfl) hC ?_
  clear hC
  repeat
    (refine step_class (fun K hK => ?_)
     go_simp
     first
       | (refine hK _ ?_; clear hK K)
       | (with_reducible apply Hq.of
          · intro wv hv
            have Hv := Lib.hid hv
            obtain ⟨hz, ⟨_, _, _, _, _, _, _, _, _, _, _⟩, ⟨_, _, _, _, _, _, _, _, _, _, _⟩, ⟨_, _, _, _, _, _, _, _, _, _, _⟩⟩ := hv
            go_simp
            (first
              | (with_reducible exact rfl)
              | (go_at_call 25; (with_reducible refine (to_all f pk a0 a1 a2 a3 pu l0 l1 l2 _ _ HT.out).mono ?_); rintro e' w1 ⟨rfl, hb1⟩; exact ⟨rfl, s3t_below hb1 Hv.out⟩))
          refine hK _ ?_
          clear hK K))
  refine nil_class ?_
  intro wq hq4
  have hq := hq4.1
  clear hq4
  obtain ⟨a_0, a_1, a_2, a_3, a_4, a_5, a_6, a_7, a_8, a_9, a_f⟩ := hq.a.ten
  obtain ⟨b_0, b_1, b_2, b_3, b_4, b_5, b_6, b_7, b_8, b_9, b_f⟩ := hq.b.ten
  obtain ⟨r_0, r_1, r_2, r_3, r_4, r_5, r_6, r_7, r_8, r_9, r_f⟩ := hq.r.ten
  obtain ⟨K, hK⟩ : ∃ K, K = min pk qk := ⟨_, rfl⟩
  obtain ⟨M, hM⟩ : ∃ M, M = qk - pk := ⟨_, rfl⟩
  have HK := Lib.hid hK
  have HM := Lib.hid hM
  have hK3 : K ≤ 3 := by omega
  have hMq : M + qu ≤ 3 := by omega
  clear hK hM
  go_upto_region 7 with (fail)
  clear a_0 a_1 a_2 a_3 a_4 a_5 a_6 a_7 a_8 a_9 a_f b_0 b_1 b_2 b_3 b_4 b_5 b_6 b_7 b_8 b_9 b_f r_0 r_1 r_2 r_3 r_4 r_5 r_6 r_7 r_8 r_9 r_f
  have hq4 := hq.new #[.bool false] 72
  clear hq
  generalize hS : wq.heap.size = S at hq4 ⊢
  generalize wq.alloc (.cells #[.bool false] 72) = wd at hq4 ⊢
  clear hS
  go_cut [8] (fun v8 wr => ∃ X, v8 = .pointer (some ⟨X, 0, none⟩) ∧ Q5 w A B R S X #[.int .i64 f, .int .i64 pk, .int .u32 a0, .int .u32 a1, .int .u32 a2, .int .u32 a3, .int .i64 pu, .int .u32 l0, .int .u32 l1, .int .u32 l2] #[.int .i64 g, .int .i64 qk, .int .u32 c0, .int .u32 c1, .int .u32 c2, .int .u32 c3, .int .i64 qu, .int .u32 n0, .int .u32 n1, .int .u32 n2] #[.int .i64 0, .int .i64 0, .int .u32 0, .int .u32 0, .int .u32 0, .int .u32 0, .int .i64 0, .int .u32 0, .int .u32 0, .int .u32 0] #[.bool false] #[.int .i64 f, .int .i64 K, .int .u32 0, .int .u32 0, .int .u32 0, .int .u32 0, .int .i64 0, .int .u32 0, .int .u32 0, .int .u32 0] 26 26 26 72 26 wr)
  case first =>
    obtain ⟨a_0, a_1, a_2, a_3, a_4, a_5, a_6, a_7, a_8, a_9, a_f⟩ := hq4.q.a.ten
    obtain ⟨b_0, b_1, b_2, b_3, b_4, b_5, b_6, b_7, b_8, b_9, b_f⟩ := hq4.q.b.ten
    by_cases hle : pk ≤ qk
    · obtain rfl : pk = K := by have := HK.out; omega
      go_wp2
      go_meet
      case rel => exact ⟨_, rfl, hq4.below (below_new _ _), Row.new _ _ _, hq4.x.lt⟩
    · obtain rfl : qk = K := by have := HK.out; omega
      have hlt : qk < pk := by omega
      clear hle
      go_wp2
      go_meet
      case rel => exact ⟨_, rfl, hq4.below (below_new _ _), Row.new _ _ _, hq4.x.lt⟩
  case rest =>
  clear hq4
  obtain ⟨X, rfl, hq⟩ := hcut
  obtain ⟨a_0, a_1, a_2, a_3, a_4, a_5, a_6, a_7, a_8, a_9, a_f⟩ := hq.q.q.a.ten
  obtain ⟨b_0, b_1, b_2, b_3, b_4, b_5, b_6, b_7, b_8, b_9, b_f⟩ := hq.q.q.b.ten
  obtain ⟨r_0, r_1, r_2, r_3, r_4, r_5, r_6, r_7, r_8, r_9, r_f⟩ := hq.q.q.r.ten
  obtain ⟨x_0, x_1, x_2, x_3, x_4, x_5, x_6, x_7, x_8, x_9, x_f⟩ := hq.x.ten
  have s_0 := hq.q.x.cell 0 _ rfl
  have s_f := hq.q.x.free
  have wK : IntKind.i64.wrap (1 + (K : Int)) = ((K + 1 : Nat) : Int) := by rw [IntWalk.i64_in _ (by omega)]; omega
  go_wp2
  clear wK
  go_loopw [41] (fun i wr => ∃ (j : Nat) (oo : Bool) (y0 y1 y2 y3 : Int), j ≤ K + 1 ∧ i = .int .i64 j ∧ Q5 w A B R S X #[.int .i64 f, .int .i64 pk, .int .u32 a0, .int .u32 a1, .int .u32 a2, .int .u32 a3, .int .i64 pu, .int .u32 l0, .int .u32 l1, .int .u32 l2] #[.int .i64 g, .int .i64 qk, .int .u32 c0, .int .u32 c1, .int .u32 c2, .int .u32 c3, .int .i64 qu, .int .u32 n0, .int .u32 n1, .int .u32 n2] #[.int .i64 0, .int .i64 0, .int .u32 0, .int .u32 0, .int .u32 0, .int .u32 0, .int .i64 0, .int .u32 0, .int .u32 0, .int .u32 0] #[.bool oo] #[.int .i64 f, .int .i64 K, .int .u32 y0, .int .u32 y1, .int .u32 y2, .int .u32 y3, .int .i64 0, .int .u32 0, .int .u32 0, .int .u32 0] 26 26 26 72 26 wr ∧ Hid (((([bigN a0 c0, bigN a1 c1, bigN a2 c2, bigN a3 c3]).take (j)).any id) = oo) ∧ Hid (oo = false → (∀ t : Nat, t ≤ 3 → (⟨0, 0, y0, y1, y2, y3, 0, 0, 0, 0⟩ : Pa).A t = if t < j then (⟨f, pk, a0, a1, a2, a3, pu, l0, l1, l2⟩ : Pa).A t + (⟨g, qk, c0, c1, c2, c3, qu, n0, n1, n2⟩ : Pa).A t else 0))) (fun i _ => K + 1 - (intOf i).toNat)
  case atStart => exact ⟨0, false, 0, 0, 0, 0, by omega, rfl, hq, Lib.hid rfl, Lib.hid (fun _ => A4mk _ (by simp) (by simp) (by simp) (by simp))⟩
  case round =>
    clear a_0 a_1 a_2 a_3 a_4 a_5 a_6 a_7 a_8 a_9 a_f b_0 b_1 b_2 b_3 b_4 b_5 b_6 b_7 b_8 b_9 b_f r_0 r_1 r_2 r_3 r_4 r_5 r_6 r_7 r_8 r_9 r_f x_0 x_1 x_2 x_3 x_4 x_5 x_6 x_7 x_8 x_9 x_f s_0 s_f hq
    obtain ⟨j, oo, y0, y1, y2, y3, hj, rfl, hq, hov, hy⟩ := hrel
    by_cases hlt : j < K + 1
    · have hj3 : j = 0 ∨ j = 1 ∨ j = 2 ∨ j = 3 := by omega
      rcases hj3 with rfl | rfl | rfl | rfl
      · have hov' : Hid (((([bigN a0 c0, bigN a1 c1, bigN a2 c2, bigN a3 c3]).take (0 + 1)).any id) = (oo || bigN a0 c0)) := Lib.hid (by rw [← hov.out]; simp [Bool.or_assoc])
        have hy' : Hid ((oo || bigN a0 c0) = false → (∀ t : Nat, t ≤ 3 → (⟨0, 0, (sumN a0 c0), y1, y2, y3, 0, 0, 0, 0⟩ : Pa).A t = if t < 0 + 1 then (⟨f, pk, a0, a1, a2, a3, pu, l0, l1, l2⟩ : Pa).A t + (⟨g, qk, c0, c1, c2, c3, qu, n0, n1, n2⟩ : Pa).A t else 0)) := Lib.hid (fun ho => by
          obtain ⟨o1, o2⟩ := Bool.or_eq_false_iff.1 ho
          rw [sumN_ok o2]
          obtain ⟨e0, e1, e2, e3⟩ := A4 _ (hy.out o1)
          refine A4mk _ ?_ ?_ ?_ ?_ <;> simp [Pa.A] at e0 e1 e2 e3 ⊢ <;> assumption)
        clear hy hov
        obtain ⟨a_0, a_1, a_2, a_3, a_4, a_5, a_6, a_7, a_8, a_9, a_f⟩ := hq.q.q.a.ten
        obtain ⟨b_0, b_1, b_2, b_3, b_4, b_5, b_6, b_7, b_8, b_9, b_f⟩ := hq.q.q.b.ten
        obtain ⟨r_0, r_1, r_2, r_3, r_4, r_5, r_6, r_7, r_8, r_9, r_f⟩ := hq.q.q.r.ten
        obtain ⟨x_0, x_1, x_2, x_3, x_4, x_5, x_6, x_7, x_8, x_9, x_f⟩ := hq.x.ten
        have s_0 := hq.q.x.cell 0 _ rfl
        have s_f := hq.q.x.free
        have hC : ∀ s : Nat → Bool, s 10 = false → s 13 = false → CL 10 13 w A B R S X #[.int .i64 f, .int .i64 pk, .int .u32 a0, .int .u32 a1, .int .u32 a2, .int .u32 a3, .int .i64 pu, .int .u32 l0, .int .u32 l1, .int .u32 l2] #[.int .i64 g, .int .i64 qk, .int .u32 c0, .int .u32 c1, .int .u32 c2, .int .u32 c3, .int .i64 qu, .int .u32 n0, .int .u32 n1, .int .u32 n2] #[.int .i64 0, .int .i64 0, .int .u32 0, .int .u32 0, .int .u32 0, .int .u32 0, .int .i64 0, .int .u32 0, .int .u32 0, .int .u32 0] 26 26 26 26 oo (oo || bigN a0 c0) #[.int .i64 f, .int .i64 K, .int .u32 y0, .int .u32 y1, .int .u32 y2, .int .u32 y3, .int .i64 0, .int .u32 0, .int .u32 0, .int .u32 0] #[.int .i64 f, .int .i64 K, .int .u32 (sumN a0 c0), .int .u32 y1, .int .u32 y2, .int .u32 y3, .int .i64 0, .int .u32 0, .int .u32 0, .int .u32 0] s wr.drew := fun s h1 h2 => CL.start hq.drew h1 h2
        go_upto_region 11 with (fail)
        clear a_0 a_1 a_2 a_3 a_4 a_5 a_6 a_7 a_8 a_9 a_f b_0 b_1 b_2 b_3 b_4 b_5 b_6 b_7 b_8 b_9 b_f r_0 r_1 r_2 r_3 r_4 r_5 r_6 r_7 r_8 r_9 r_f x_0 x_1 x_2 x_3 x_4 x_5 x_6 x_7 x_8 x_9 x_f s_0 s_f hq
        refine region_fam (CL 10 13 w A B R S X #[.int .i64 f, .int .i64 pk, .int .u32 a0, .int .u32 a1, .int .u32 a2, .int .u32 a3, .int .i64 pu, .int .u32 l0, .int .u32 l1, .int .u32 l2] #[.int .i64 g, .int .i64 qk, .int .u32 c0, .int .u32 c1, .int .u32 c2, .int .u32 c3, .int .i64 qu, .int .u32 n0, .int .u32 n1, .int .u32 n2] #[.int .i64 0, .int .i64 0, .int .u32 0, .int .u32 0, .int .u32 0, .int .u32 0, .int .i64 0, .int .u32 0, .int .u32 0, .int .u32 0] 26 26 26 26 oo (oo || bigN a0 c0) #[.int .i64 f, .int .i64 K, .int .u32 y0, .int .u32 y1, .int .u32 y2, .int .u32 y3, .int .i64 0, .int .u32 0, .int .u32 0, .int .u32 0] #[.int .i64 f, .int .i64 K, .int .u32 (sumN a0 c0), .int .u32 y1, .int .u32 y2, .int .u32 y3, .int .i64 0, .int .u32 0, .int .u32 0, .int .u32 0]) (by kernel_rfl) (by kernel_rfl) (hC _ rfl rfl) ?_
        clear hC
        repeat
          (refine step_fam (fun K hK => ?_)
           go_simp
           first
             | (with_reducible apply Hf.of
                · intro s wv hk hd hv
                  have Hv := Lib.hid hv
                  obtain ⟨a_0, a_1, a_2, a_3, a_4, a_5, a_6, a_7, a_8, a_9, a_f⟩ := hv.q.q.q.a.ten
                  obtain ⟨b_0, b_1, b_2, b_3, b_4, b_5, b_6, b_7, b_8, b_9, b_f⟩ := hv.q.q.q.b.ten
                  try (have z_ := hv.cellS hk; obtain ⟨s_0, s_f⟩ := z_)
                  try (have z_ := (hv.rowX hk).ten; obtain ⟨x_0, x_1, x_2, x_3, x_4, x_5, x_6, x_7, x_8, x_9, x_f⟩ := z_)
                  clear hv
                  go_simp
                  (first
                    | (exact ⟨Hv.out.pure (by decide) (by decide), rfl⟩)
                    | (go_at_call 51; (with_reducible refine (sum_any a0 c0 S oo _ p0 pp0 q0 qq0 s_0 s_f).mono ?_); rintro e' w' ⟨rfl, rfl⟩; exact ⟨rfl, Hv.out.call (by decide)⟩)
                    | (exact ⟨Hv.out.store hk (by decide) 2 _ rfl, rfl⟩))
                refine hK _ ?_
                clear hK K)
             | (with_reducible apply Sf.of
                · (intro s wv hk hv; exact hv.pure (by decide) (by decide))
                refine hK _ ?_
                clear hK K))
        refine nil_fam ?_
        intro wq hq11
        have hq := hq11.done
        clear hq11
        obtain ⟨a_0, a_1, a_2, a_3, a_4, a_5, a_6, a_7, a_8, a_9, a_f⟩ := hq.q.q.a.ten
        obtain ⟨b_0, b_1, b_2, b_3, b_4, b_5, b_6, b_7, b_8, b_9, b_f⟩ := hq.q.q.b.ten
        obtain ⟨r_0, r_1, r_2, r_3, r_4, r_5, r_6, r_7, r_8, r_9, r_f⟩ := hq.q.q.r.ten
        obtain ⟨x_0, x_1, x_2, x_3, x_4, x_5, x_6, x_7, x_8, x_9, x_f⟩ := hq.x.ten
        have s_0 := hq.q.x.cell 0 _ rfl
        have s_f := hq.q.x.free
        go_wp2
        go_roundw
        case rel => exact ⟨0 + 1, _, (sumN a0 c0), y1, y2, y3, by omega, by go_num, hq, hov', hy'⟩
        case measure => simp [intOf] <;> omega
      · have hov' : Hid (((([bigN a0 c0, bigN a1 c1, bigN a2 c2, bigN a3 c3]).take (1 + 1)).any id) = (oo || bigN a1 c1)) := Lib.hid (by rw [← hov.out]; simp [Bool.or_assoc])
        have hy' : Hid ((oo || bigN a1 c1) = false → (∀ t : Nat, t ≤ 3 → (⟨0, 0, y0, (sumN a1 c1), y2, y3, 0, 0, 0, 0⟩ : Pa).A t = if t < 1 + 1 then (⟨f, pk, a0, a1, a2, a3, pu, l0, l1, l2⟩ : Pa).A t + (⟨g, qk, c0, c1, c2, c3, qu, n0, n1, n2⟩ : Pa).A t else 0)) := Lib.hid (fun ho => by
          obtain ⟨o1, o2⟩ := Bool.or_eq_false_iff.1 ho
          rw [sumN_ok o2]
          obtain ⟨e0, e1, e2, e3⟩ := A4 _ (hy.out o1)
          refine A4mk _ ?_ ?_ ?_ ?_ <;> simp [Pa.A] at e0 e1 e2 e3 ⊢ <;> assumption)
        clear hy hov
        obtain ⟨a_0, a_1, a_2, a_3, a_4, a_5, a_6, a_7, a_8, a_9, a_f⟩ := hq.q.q.a.ten
        obtain ⟨b_0, b_1, b_2, b_3, b_4, b_5, b_6, b_7, b_8, b_9, b_f⟩ := hq.q.q.b.ten
        obtain ⟨r_0, r_1, r_2, r_3, r_4, r_5, r_6, r_7, r_8, r_9, r_f⟩ := hq.q.q.r.ten
        obtain ⟨x_0, x_1, x_2, x_3, x_4, x_5, x_6, x_7, x_8, x_9, x_f⟩ := hq.x.ten
        have s_0 := hq.q.x.cell 0 _ rfl
        have s_f := hq.q.x.free
        have hC : ∀ s : Nat → Bool, s 10 = false → s 13 = false → CL 10 13 w A B R S X #[.int .i64 f, .int .i64 pk, .int .u32 a0, .int .u32 a1, .int .u32 a2, .int .u32 a3, .int .i64 pu, .int .u32 l0, .int .u32 l1, .int .u32 l2] #[.int .i64 g, .int .i64 qk, .int .u32 c0, .int .u32 c1, .int .u32 c2, .int .u32 c3, .int .i64 qu, .int .u32 n0, .int .u32 n1, .int .u32 n2] #[.int .i64 0, .int .i64 0, .int .u32 0, .int .u32 0, .int .u32 0, .int .u32 0, .int .i64 0, .int .u32 0, .int .u32 0, .int .u32 0] 26 26 26 26 oo (oo || bigN a1 c1) #[.int .i64 f, .int .i64 K, .int .u32 y0, .int .u32 y1, .int .u32 y2, .int .u32 y3, .int .i64 0, .int .u32 0, .int .u32 0, .int .u32 0] #[.int .i64 f, .int .i64 K, .int .u32 y0, .int .u32 (sumN a1 c1), .int .u32 y2, .int .u32 y3, .int .i64 0, .int .u32 0, .int .u32 0, .int .u32 0] s wr.drew := fun s h1 h2 => CL.start hq.drew h1 h2
        go_upto_region 11 with (fail)
        clear a_0 a_1 a_2 a_3 a_4 a_5 a_6 a_7 a_8 a_9 a_f b_0 b_1 b_2 b_3 b_4 b_5 b_6 b_7 b_8 b_9 b_f r_0 r_1 r_2 r_3 r_4 r_5 r_6 r_7 r_8 r_9 r_f x_0 x_1 x_2 x_3 x_4 x_5 x_6 x_7 x_8 x_9 x_f s_0 s_f hq
        refine region_fam (CL 10 13 w A B R S X #[.int .i64 f, .int .i64 pk, .int .u32 a0, .int .u32 a1, .int .u32 a2, .int .u32 a3, .int .i64 pu, .int .u32 l0, .int .u32 l1, .int .u32 l2] #[.int .i64 g, .int .i64 qk, .int .u32 c0, .int .u32 c1, .int .u32 c2, .int .u32 c3, .int .i64 qu, .int .u32 n0, .int .u32 n1, .int .u32 n2] #[.int .i64 0, .int .i64 0, .int .u32 0, .int .u32 0, .int .u32 0, .int .u32 0, .int .i64 0, .int .u32 0, .int .u32 0, .int .u32 0] 26 26 26 26 oo (oo || bigN a1 c1) #[.int .i64 f, .int .i64 K, .int .u32 y0, .int .u32 y1, .int .u32 y2, .int .u32 y3, .int .i64 0, .int .u32 0, .int .u32 0, .int .u32 0] #[.int .i64 f, .int .i64 K, .int .u32 y0, .int .u32 (sumN a1 c1), .int .u32 y2, .int .u32 y3, .int .i64 0, .int .u32 0, .int .u32 0, .int .u32 0]) (by kernel_rfl) (by kernel_rfl) (hC _ rfl rfl) ?_
        clear hC
        repeat
          (refine step_fam (fun K hK => ?_)
           go_simp
           first
             | (with_reducible apply Hf.of
                · intro s wv hk hd hv
                  have Hv := Lib.hid hv
                  obtain ⟨a_0, a_1, a_2, a_3, a_4, a_5, a_6, a_7, a_8, a_9, a_f⟩ := hv.q.q.q.a.ten
                  obtain ⟨b_0, b_1, b_2, b_3, b_4, b_5, b_6, b_7, b_8, b_9, b_f⟩ := hv.q.q.q.b.ten
                  try (have z_ := hv.cellS hk; obtain ⟨s_0, s_f⟩ := z_)
                  try (have z_ := (hv.rowX hk).ten; obtain ⟨x_0, x_1, x_2, x_3, x_4, x_5, x_6, x_7, x_8, x_9, x_f⟩ := z_)
                  clear hv
                  go_simp
                  (first
                    | (exact ⟨Hv.out.pure (by decide) (by decide), rfl⟩)
                    | (go_at_call 51; (with_reducible refine (sum_any a1 c1 S oo _ p1 pp1 q1 qq1 s_0 s_f).mono ?_); rintro e' w' ⟨rfl, rfl⟩; exact ⟨rfl, Hv.out.call (by decide)⟩)
                    | (exact ⟨Hv.out.store hk (by decide) 3 _ rfl, rfl⟩))
                refine hK _ ?_
                clear hK K)
             | (with_reducible apply Sf.of
                · (intro s wv hk hv; exact hv.pure (by decide) (by decide))
                refine hK _ ?_
                clear hK K))
        refine nil_fam ?_
        intro wq hq11
        have hq := hq11.done
        clear hq11
        obtain ⟨a_0, a_1, a_2, a_3, a_4, a_5, a_6, a_7, a_8, a_9, a_f⟩ := hq.q.q.a.ten
        obtain ⟨b_0, b_1, b_2, b_3, b_4, b_5, b_6, b_7, b_8, b_9, b_f⟩ := hq.q.q.b.ten
        obtain ⟨r_0, r_1, r_2, r_3, r_4, r_5, r_6, r_7, r_8, r_9, r_f⟩ := hq.q.q.r.ten
        obtain ⟨x_0, x_1, x_2, x_3, x_4, x_5, x_6, x_7, x_8, x_9, x_f⟩ := hq.x.ten
        have s_0 := hq.q.x.cell 0 _ rfl
        have s_f := hq.q.x.free
        go_wp2
        go_roundw
        case rel => exact ⟨1 + 1, _, y0, (sumN a1 c1), y2, y3, by omega, by go_num, hq, hov', hy'⟩
        case measure => simp [intOf] <;> omega
      · have hov' : Hid (((([bigN a0 c0, bigN a1 c1, bigN a2 c2, bigN a3 c3]).take (2 + 1)).any id) = (oo || bigN a2 c2)) := Lib.hid (by rw [← hov.out]; simp [Bool.or_assoc])
        have hy' : Hid ((oo || bigN a2 c2) = false → (∀ t : Nat, t ≤ 3 → (⟨0, 0, y0, y1, (sumN a2 c2), y3, 0, 0, 0, 0⟩ : Pa).A t = if t < 2 + 1 then (⟨f, pk, a0, a1, a2, a3, pu, l0, l1, l2⟩ : Pa).A t + (⟨g, qk, c0, c1, c2, c3, qu, n0, n1, n2⟩ : Pa).A t else 0)) := Lib.hid (fun ho => by
          obtain ⟨o1, o2⟩ := Bool.or_eq_false_iff.1 ho
          rw [sumN_ok o2]
          obtain ⟨e0, e1, e2, e3⟩ := A4 _ (hy.out o1)
          refine A4mk _ ?_ ?_ ?_ ?_ <;> simp [Pa.A] at e0 e1 e2 e3 ⊢ <;> assumption)
        clear hy hov
        obtain ⟨a_0, a_1, a_2, a_3, a_4, a_5, a_6, a_7, a_8, a_9, a_f⟩ := hq.q.q.a.ten
        obtain ⟨b_0, b_1, b_2, b_3, b_4, b_5, b_6, b_7, b_8, b_9, b_f⟩ := hq.q.q.b.ten
        obtain ⟨r_0, r_1, r_2, r_3, r_4, r_5, r_6, r_7, r_8, r_9, r_f⟩ := hq.q.q.r.ten
        obtain ⟨x_0, x_1, x_2, x_3, x_4, x_5, x_6, x_7, x_8, x_9, x_f⟩ := hq.x.ten
        have s_0 := hq.q.x.cell 0 _ rfl
        have s_f := hq.q.x.free
        have hC : ∀ s : Nat → Bool, s 10 = false → s 13 = false → CL 10 13 w A B R S X #[.int .i64 f, .int .i64 pk, .int .u32 a0, .int .u32 a1, .int .u32 a2, .int .u32 a3, .int .i64 pu, .int .u32 l0, .int .u32 l1, .int .u32 l2] #[.int .i64 g, .int .i64 qk, .int .u32 c0, .int .u32 c1, .int .u32 c2, .int .u32 c3, .int .i64 qu, .int .u32 n0, .int .u32 n1, .int .u32 n2] #[.int .i64 0, .int .i64 0, .int .u32 0, .int .u32 0, .int .u32 0, .int .u32 0, .int .i64 0, .int .u32 0, .int .u32 0, .int .u32 0] 26 26 26 26 oo (oo || bigN a2 c2) #[.int .i64 f, .int .i64 K, .int .u32 y0, .int .u32 y1, .int .u32 y2, .int .u32 y3, .int .i64 0, .int .u32 0, .int .u32 0, .int .u32 0] #[.int .i64 f, .int .i64 K, .int .u32 y0, .int .u32 y1, .int .u32 (sumN a2 c2), .int .u32 y3, .int .i64 0, .int .u32 0, .int .u32 0, .int .u32 0] s wr.drew := fun s h1 h2 => CL.start hq.drew h1 h2
        go_upto_region 11 with (fail)
        clear a_0 a_1 a_2 a_3 a_4 a_5 a_6 a_7 a_8 a_9 a_f b_0 b_1 b_2 b_3 b_4 b_5 b_6 b_7 b_8 b_9 b_f r_0 r_1 r_2 r_3 r_4 r_5 r_6 r_7 r_8 r_9 r_f x_0 x_1 x_2 x_3 x_4 x_5 x_6 x_7 x_8 x_9 x_f s_0 s_f hq
        refine region_fam (CL 10 13 w A B R S X #[.int .i64 f, .int .i64 pk, .int .u32 a0, .int .u32 a1, .int .u32 a2, .int .u32 a3, .int .i64 pu, .int .u32 l0, .int .u32 l1, .int .u32 l2] #[.int .i64 g, .int .i64 qk, .int .u32 c0, .int .u32 c1, .int .u32 c2, .int .u32 c3, .int .i64 qu, .int .u32 n0, .int .u32 n1, .int .u32 n2] #[.int .i64 0, .int .i64 0, .int .u32 0, .int .u32 0, .int .u32 0, .int .u32 0, .int .i64 0, .int .u32 0, .int .u32 0, .int .u32 0] 26 26 26 26 oo (oo || bigN a2 c2) #[.int .i64 f, .int .i64 K, .int .u32 y0, .int .u32 y1, .int .u32 y2, .int .u32 y3, .int .i64 0, .int .u32 0, .int .u32 0, .int .u32 0] #[.int .i64 f, .int .i64 K, .int .u32 y0, .int .u32 y1, .int .u32 (sumN a2 c2), .int .u32 y3, .int .i64 0, .int .u32 0, .int .u32 0, .int .u32 0]) (by kernel_rfl) (by kernel_rfl) (hC _ rfl rfl) ?_
        clear hC
        repeat
          (refine step_fam (fun K hK => ?_)
           go_simp
           first
             | (with_reducible apply Hf.of
                · intro s wv hk hd hv
                  have Hv := Lib.hid hv
                  obtain ⟨a_0, a_1, a_2, a_3, a_4, a_5, a_6, a_7, a_8, a_9, a_f⟩ := hv.q.q.q.a.ten
                  obtain ⟨b_0, b_1, b_2, b_3, b_4, b_5, b_6, b_7, b_8, b_9, b_f⟩ := hv.q.q.q.b.ten
                  try (have z_ := hv.cellS hk; obtain ⟨s_0, s_f⟩ := z_)
                  try (have z_ := (hv.rowX hk).ten; obtain ⟨x_0, x_1, x_2, x_3, x_4, x_5, x_6, x_7, x_8, x_9, x_f⟩ := z_)
                  clear hv
                  go_simp
                  (first
                    | (exact ⟨Hv.out.pure (by decide) (by decide), rfl⟩)
                    | (go_at_call 51; (with_reducible refine (sum_any a2 c2 S oo _ p2 pp2 q2 qq2 s_0 s_f).mono ?_); rintro e' w' ⟨rfl, rfl⟩; exact ⟨rfl, Hv.out.call (by decide)⟩)
                    | (exact ⟨Hv.out.store hk (by decide) 4 _ rfl, rfl⟩))
                refine hK _ ?_
                clear hK K)
             | (with_reducible apply Sf.of
                · (intro s wv hk hv; exact hv.pure (by decide) (by decide))
                refine hK _ ?_
                clear hK K))
        refine nil_fam ?_
        intro wq hq11
        have hq := hq11.done
        clear hq11
        obtain ⟨a_0, a_1, a_2, a_3, a_4, a_5, a_6, a_7, a_8, a_9, a_f⟩ := hq.q.q.a.ten
        obtain ⟨b_0, b_1, b_2, b_3, b_4, b_5, b_6, b_7, b_8, b_9, b_f⟩ := hq.q.q.b.ten
        obtain ⟨r_0, r_1, r_2, r_3, r_4, r_5, r_6, r_7, r_8, r_9, r_f⟩ := hq.q.q.r.ten
        obtain ⟨x_0, x_1, x_2, x_3, x_4, x_5, x_6, x_7, x_8, x_9, x_f⟩ := hq.x.ten
        have s_0 := hq.q.x.cell 0 _ rfl
        have s_f := hq.q.x.free
        go_wp2
        go_roundw
        case rel => exact ⟨2 + 1, _, y0, y1, (sumN a2 c2), y3, by omega, by go_num, hq, hov', hy'⟩
        case measure => simp [intOf] <;> omega
      · have hov' : Hid (((([bigN a0 c0, bigN a1 c1, bigN a2 c2, bigN a3 c3]).take (3 + 1)).any id) = (oo || bigN a3 c3)) := Lib.hid (by rw [← hov.out]; simp [Bool.or_assoc])
        have hy' : Hid ((oo || bigN a3 c3) = false → (∀ t : Nat, t ≤ 3 → (⟨0, 0, y0, y1, y2, (sumN a3 c3), 0, 0, 0, 0⟩ : Pa).A t = if t < 3 + 1 then (⟨f, pk, a0, a1, a2, a3, pu, l0, l1, l2⟩ : Pa).A t + (⟨g, qk, c0, c1, c2, c3, qu, n0, n1, n2⟩ : Pa).A t else 0)) := Lib.hid (fun ho => by
          obtain ⟨o1, o2⟩ := Bool.or_eq_false_iff.1 ho
          rw [sumN_ok o2]
          obtain ⟨e0, e1, e2, e3⟩ := A4 _ (hy.out o1)
          refine A4mk _ ?_ ?_ ?_ ?_ <;> simp [Pa.A] at e0 e1 e2 e3 ⊢ <;> assumption)
        clear hy hov
        obtain ⟨a_0, a_1, a_2, a_3, a_4, a_5, a_6, a_7, a_8, a_9, a_f⟩ := hq.q.q.a.ten
        obtain ⟨b_0, b_1, b_2, b_3, b_4, b_5, b_6, b_7, b_8, b_9, b_f⟩ := hq.q.q.b.ten
        obtain ⟨r_0, r_1, r_2, r_3, r_4, r_5, r_6, r_7, r_8, r_9, r_f⟩ := hq.q.q.r.ten
        obtain ⟨x_0, x_1, x_2, x_3, x_4, x_5, x_6, x_7, x_8, x_9, x_f⟩ := hq.x.ten
        have s_0 := hq.q.x.cell 0 _ rfl
        have s_f := hq.q.x.free
        have hC : ∀ s : Nat → Bool, s 10 = false → s 13 = false → CL 10 13 w A B R S X #[.int .i64 f, .int .i64 pk, .int .u32 a0, .int .u32 a1, .int .u32 a2, .int .u32 a3, .int .i64 pu, .int .u32 l0, .int .u32 l1, .int .u32 l2] #[.int .i64 g, .int .i64 qk, .int .u32 c0, .int .u32 c1, .int .u32 c2, .int .u32 c3, .int .i64 qu, .int .u32 n0, .int .u32 n1, .int .u32 n2] #[.int .i64 0, .int .i64 0, .int .u32 0, .int .u32 0, .int .u32 0, .int .u32 0, .int .i64 0, .int .u32 0, .int .u32 0, .int .u32 0] 26 26 26 26 oo (oo || bigN a3 c3) #[.int .i64 f, .int .i64 K, .int .u32 y0, .int .u32 y1, .int .u32 y2, .int .u32 y3, .int .i64 0, .int .u32 0, .int .u32 0, .int .u32 0] #[.int .i64 f, .int .i64 K, .int .u32 y0, .int .u32 y1, .int .u32 y2, .int .u32 (sumN a3 c3), .int .i64 0, .int .u32 0, .int .u32 0, .int .u32 0] s wr.drew := fun s h1 h2 => CL.start hq.drew h1 h2
        go_upto_region 11 with (fail)
        clear a_0 a_1 a_2 a_3 a_4 a_5 a_6 a_7 a_8 a_9 a_f b_0 b_1 b_2 b_3 b_4 b_5 b_6 b_7 b_8 b_9 b_f r_0 r_1 r_2 r_3 r_4 r_5 r_6 r_7 r_8 r_9 r_f x_0 x_1 x_2 x_3 x_4 x_5 x_6 x_7 x_8 x_9 x_f s_0 s_f hq
        refine region_fam (CL 10 13 w A B R S X #[.int .i64 f, .int .i64 pk, .int .u32 a0, .int .u32 a1, .int .u32 a2, .int .u32 a3, .int .i64 pu, .int .u32 l0, .int .u32 l1, .int .u32 l2] #[.int .i64 g, .int .i64 qk, .int .u32 c0, .int .u32 c1, .int .u32 c2, .int .u32 c3, .int .i64 qu, .int .u32 n0, .int .u32 n1, .int .u32 n2] #[.int .i64 0, .int .i64 0, .int .u32 0, .int .u32 0, .int .u32 0, .int .u32 0, .int .i64 0, .int .u32 0, .int .u32 0, .int .u32 0] 26 26 26 26 oo (oo || bigN a3 c3) #[.int .i64 f, .int .i64 K, .int .u32 y0, .int .u32 y1, .int .u32 y2, .int .u32 y3, .int .i64 0, .int .u32 0, .int .u32 0, .int .u32 0] #[.int .i64 f, .int .i64 K, .int .u32 y0, .int .u32 y1, .int .u32 y2, .int .u32 (sumN a3 c3), .int .i64 0, .int .u32 0, .int .u32 0, .int .u32 0]) (by kernel_rfl) (by kernel_rfl) (hC _ rfl rfl) ?_
        clear hC
        repeat
          (refine step_fam (fun K hK => ?_)
           go_simp
           first
             | (with_reducible apply Hf.of
                · intro s wv hk hd hv
                  have Hv := Lib.hid hv
                  obtain ⟨a_0, a_1, a_2, a_3, a_4, a_5, a_6, a_7, a_8, a_9, a_f⟩ := hv.q.q.q.a.ten
                  obtain ⟨b_0, b_1, b_2, b_3, b_4, b_5, b_6, b_7, b_8, b_9, b_f⟩ := hv.q.q.q.b.ten
                  try (have z_ := hv.cellS hk; obtain ⟨s_0, s_f⟩ := z_)
                  try (have z_ := (hv.rowX hk).ten; obtain ⟨x_0, x_1, x_2, x_3, x_4, x_5, x_6, x_7, x_8, x_9, x_f⟩ := z_)
                  clear hv
                  go_simp
                  (first
                    | (exact ⟨Hv.out.pure (by decide) (by decide), rfl⟩)
                    | (go_at_call 51; (with_reducible refine (sum_any a3 c3 S oo _ p3 pp3 q3 qq3 s_0 s_f).mono ?_); rintro e' w' ⟨rfl, rfl⟩; exact ⟨rfl, Hv.out.call (by decide)⟩)
                    | (exact ⟨Hv.out.store hk (by decide) 5 _ rfl, rfl⟩))
                refine hK _ ?_
                clear hK K)
             | (with_reducible apply Sf.of
                · (intro s wv hk hv; exact hv.pure (by decide) (by decide))
                refine hK _ ?_
                clear hK K))
        refine nil_fam ?_
        intro wq hq11
        have hq := hq11.done
        clear hq11
        obtain ⟨a_0, a_1, a_2, a_3, a_4, a_5, a_6, a_7, a_8, a_9, a_f⟩ := hq.q.q.a.ten
        obtain ⟨b_0, b_1, b_2, b_3, b_4, b_5, b_6, b_7, b_8, b_9, b_f⟩ := hq.q.q.b.ten
        obtain ⟨r_0, r_1, r_2, r_3, r_4, r_5, r_6, r_7, r_8, r_9, r_f⟩ := hq.q.q.r.ten
        obtain ⟨x_0, x_1, x_2, x_3, x_4, x_5, x_6, x_7, x_8, x_9, x_f⟩ := hq.x.ten
        have s_0 := hq.q.x.cell 0 _ rfl
        have s_f := hq.q.x.free
        go_wp2
        go_roundw
        case rel => exact ⟨3 + 1, _, y0, y1, y2, (sumN a3 c3), by omega, by go_num, hq, hov', hy'⟩
        case measure => simp [intOf] <;> omega
    · obtain rfl : j = K + 1 := by omega
      clear hlt hj
      obtain ⟨a_0, a_1, a_2, a_3, a_4, a_5, a_6, a_7, a_8, a_9, a_f⟩ := hq.q.q.a.ten
      obtain ⟨b_0, b_1, b_2, b_3, b_4, b_5, b_6, b_7, b_8, b_9, b_f⟩ := hq.q.q.b.ten
      obtain ⟨r_0, r_1, r_2, r_3, r_4, r_5, r_6, r_7, r_8, r_9, r_f⟩ := hq.q.q.r.ten
      obtain ⟨x_0, x_1, x_2, x_3, x_4, x_5, x_6, x_7, x_8, x_9, x_f⟩ := hq.x.ten
      have s_0 := hq.q.x.cell 0 _ rfl
      have s_f := hq.q.x.free
      have hX : X + 1 ≤ wr.heap.size := hq.x.lt
      have hown0 := World.ownsRow_nil wr (X + 1) 22 1
      go_wp2
      go_loopw [10, 11] (fun v i wr => ∃ (j : Nat) (oo : Bool) (sv : List Int), j ≤ M ∧ i = .int .i64 ((pk + j : Nat) : Int) ∧ Q5 w A B R S X #[.int .i64 f, .int .i64 pk, .int .u32 a0, .int .u32 a1, .int .u32 a2, .int .u32 a3, .int .i64 pu, .int .u32 l0, .int .u32 l1, .int .u32 l2] #[.int .i64 g, .int .i64 qk, .int .u32 c0, .int .u32 c1, .int .u32 c2, .int .u32 c3, .int .i64 qu, .int .u32 n0, .int .u32 n1, .int .u32 n2] #[.int .i64 0, .int .i64 0, .int .u32 0, .int .u32 0, .int .u32 0, .int .u32 0, .int .i64 0, .int .u32 0, .int .u32 0, .int .u32 0] #[.bool oo] #[.int .i64 f, .int .i64 K, .int .u32 y0, .int .u32 y1, .int .u32 y2, .int .u32 y3, .int .i64 0, .int .u32 0, .int .u32 0, .int .u32 0] 26 26 26 72 26 wr ∧ wr.ownsRow (X + 1) 22 1 v j (sv.map (Value.int .u32)) ∧ Hid (sv.length = j) ∧ Hid ((([bigN a0 c0, bigN a1 c1, bigN a2 c2, bigN a3 c3].take (K + 1)).any id || (([bigN l0 ((⟨g, qk, c0, c1, c2, c3, qu, n0, n1, n2⟩ : Pa).A (1 + pk)), bigN l1 ((⟨g, qk, c0, c1, c2, c3, qu, n0, n1, n2⟩ : Pa).A (2 + pk)), bigN l2 ((⟨g, qk, c0, c1, c2, c3, qu, n0, n1, n2⟩ : Pa).A (3 + pk))]).take (j)).any id) = oo) ∧ Hid (oo = false → (∀ t : Nat, t ≤ 3 → (⟨0, 0, y0, y1, y2, y3, 0, 0, 0, 0⟩ : Pa).A t = if t < K + 1 then (⟨f, pk, a0, a1, a2, a3, pu, l0, l1, l2⟩ : Pa).A t + (⟨g, qk, c0, c1, c2, c3, qu, n0, n1, n2⟩ : Pa).A t else 0) ∧ (∀ t : Nat, t < j → (sv : List Int)[t]? = some ((⟨f, pk, a0, a1, a2, a3, pu, l0, l1, l2⟩ : Pa).L t + (⟨g, qk, c0, c1, c2, c3, qu, n0, n1, n2⟩ : Pa).A (1 + pk + t))))) (fun _ i _ => qk - (intOf i).toNat)
      case atStart => exact ⟨0, oo, [], by omega, by go_num, hq, hown0, Lib.hid rfl, Lib.hid (by simpa using hov.out), Lib.hid (fun h => ⟨hy.out h, fun t ht => absurd ht (Nat.not_lt_zero _)⟩)⟩
      case round =>
        clear a_0 a_1 a_2 a_3 a_4 a_5 a_6 a_7 a_8 a_9 a_f b_0 b_1 b_2 b_3 b_4 b_5 b_6 b_7 b_8 b_9 b_f r_0 r_1 r_2 r_3 r_4 r_5 r_6 r_7 r_8 r_9 r_f x_0 x_1 x_2 x_3 x_4 x_5 x_6 x_7 x_8 x_9 x_f s_0 s_f hq hov hy hX hown0
        clear oo
        obtain ⟨j, oo, sv, hj, rfl, hq, hown, hlen, hov, hy⟩ := hrel
        obtain ⟨a_0, a_1, a_2, a_3, a_4, a_5, a_6, a_7, a_8, a_9, a_f⟩ := hq.q.q.a.ten
        obtain ⟨b_0, b_1, b_2, b_3, b_4, b_5, b_6, b_7, b_8, b_9, b_f⟩ := hq.q.q.b.ten
        obtain ⟨r_0, r_1, r_2, r_3, r_4, r_5, r_6, r_7, r_8, r_9, r_f⟩ := hq.q.q.r.ten
        obtain ⟨x_0, x_1, x_2, x_3, x_4, x_5, x_6, x_7, x_8, x_9, x_f⟩ := hq.x.ten
        have s_0 := hq.q.x.cell 0 _ rfl
        have s_f := hq.q.x.free
        by_cases hlt : pk + j < qk
        · have hj3 : (pk = 0 ∧ j = 0) ∨ (pk = 0 ∧ j = 1) ∨ (pk = 0 ∧ j = 2) ∨ (pk = 1 ∧ j = 0) ∨ (pk = 1 ∧ j = 1) ∨ (pk = 2 ∧ j = 0) := by omega
          have hjM : j < M := by have := HM.out; omega
          rcases hj3 with ⟨rfl, rfl⟩ | ⟨rfl, rfl⟩ | ⟨rfl, rfl⟩ | ⟨rfl, rfl⟩ | ⟨rfl, rfl⟩ | ⟨rfl, rfl⟩
          · have hov' : Hid ((([bigN a0 c0, bigN a1 c1, bigN a2 c2, bigN a3 c3].take (K + 1)).any id || (([bigN l0 ((⟨g, qk, c0, c1, c2, c3, qu, n0, n1, n2⟩ : Pa).A (1 + ((0 : Nat) : Int))), bigN l1 ((⟨g, qk, c0, c1, c2, c3, qu, n0, n1, n2⟩ : Pa).A (2 + ((0 : Nat) : Int))), bigN l2 ((⟨g, qk, c0, c1, c2, c3, qu, n0, n1, n2⟩ : Pa).A (3 + ((0 : Nat) : Int)))]).take (0 + 1)).any id) = (oo || bigN l0 c1)) := Lib.hid (by rw [← hov.out]; simp [Pa.A, Bool.or_assoc])
            have hy' : Hid ((oo || bigN l0 c1) = false → ((∀ t : Nat, t ≤ 3 → (⟨0, 0, y0, y1, y2, y3, 0, 0, 0, 0⟩ : Pa).A t = if t < K + 1 then (⟨f, ((0 : Nat) : Int), a0, a1, a2, a3, pu, l0, l1, l2⟩ : Pa).A t + (⟨g, qk, c0, c1, c2, c3, qu, n0, n1, n2⟩ : Pa).A t else 0) ∧ (∀ t : Nat, t < 0 + 1 → ((sv ++ [(sumN l0 c1)]) : List Int)[t]? = some ((⟨f, ((0 : Nat) : Int), a0, a1, a2, a3, pu, l0, l1, l2⟩ : Pa).L t + (⟨g, qk, c0, c1, c2, c3, qu, n0, n1, n2⟩ : Pa).A (1 + ((0 : Nat) : Int) + t))))) := Lib.hid (fun ho => by
              obtain ⟨o1, o2⟩ := Bool.or_eq_false_iff.1 ho
              obtain ⟨e0, e1⟩ := hy.out o1
              refine ⟨e0, fun t ht => ?_⟩
              have hl := hlen.out
              by_cases e : t = 0
              · subst e
                rw [List.getElem?_append_right (by omega), hl, sumN_ok o2]
                simp [Pa.A, Pa.L]
              · rw [List.getElem?_append_left (by omega)]
                exact e1 t (by omega))
            have hlen' : Hid ((sv ++ [(sumN l0 c1)]).length = 0 + 1) := Lib.hid (by rw [List.length_append, hlen.out]; rfl)
            clear hy hov
            go_wp2
            have H := Lib.hid (⟨⟨_, hq.q.drew⟩, hq.SX⟩ : E5 w A B R S X #[.int .i64 f, .int .i64 ((0 : Nat) : Int), .int .u32 a0, .int .u32 a1, .int .u32 a2, .int .u32 a3, .int .i64 pu, .int .u32 l0, .int .u32 l1, .int .u32 l2] #[.int .i64 g, .int .i64 qk, .int .u32 c0, .int .u32 c1, .int .u32 c2, .int .u32 c3, .int .i64 qu, .int .u32 n0, .int .u32 n1, .int .u32 n2] #[.int .i64 0, .int .i64 0, .int .u32 0, .int .u32 0, .int .u32 0, .int .u32 0, .int .i64 0, .int .u32 0, .int .u32 0, .int .u32 0] wr.drew).t
            have HS0 := Lib.hid (show wr.drew.cell? ⟨S, 0, none⟩ = some (.bool oo) from hq.drew.q.x.cell 0 _ rfl)
            have HSF := Lib.hid (show wr.drew.frozen? ⟨S, 0, none⟩ = false from hq.drew.q.x.free 0)
            have HLT := Lib.hid (fun k (e : u10.ownBlock = some k) => Nat.lt_of_succ_le (hown.lt k e).1)
            have HOW := Lib.hid hown
            have HSX := Lib.hid (Nat.lt_succ_of_lt hq.SX)
            have HXS := Lib.hid (show X < wr.heap.size from hq.x.lt)
            clear a_0 a_1 a_2 a_3 a_4 a_5 a_6 a_7 a_8 a_9 a_f b_0 b_1 b_2 b_3 b_4 b_5 b_6 b_7 b_8 b_9 b_f r_0 r_1 r_2 r_3 r_4 r_5 r_6 r_7 r_8 r_9 r_f x_0 x_1 x_2 x_3 x_4 x_5 x_6 x_7 x_8 x_9 x_f s_0 s_f hown
            obtain ⟨i0, hi, hz0, hz1, hz2⟩ := info_parts Try.info22
            have wj : IntKind.i64.wrap 0 = 0 := by decide
            have wk : IntKind.i64.wrap 1 = 1 := by decide
            go_region_held3 (T5 w A B R S X f ((0 : Nat) : Int) a0 a1 a2 a3 pu l0 l1 l2 g qk c0 c1 c2 c3 qu n0 n1 n2 #[.int .i64 0, .int .i64 0, .int .u32 0, .int .u32 0, .int .u32 0, .int .u32 0, .int .i64 0, .int .u32 0, .int .u32 0, .int .u32 0]) (first | (with_reducible exact H.out) | (with_reducible assumption) | (with_reducible exact t5_setS _ _ ‹_›) | (with_reducible exact t5_alloc _ ‹_›) | (with_reducible exact t5_grown ‹World.grownBy _ _ _› HLT.out ‹_›) | (with_reducible exact t5_fill ‹Below _ _ _› ‹_›) | (with_reducible exact t5_setX _ _ ‹_›))
              (first
                | (go_at_call 51; (with_reducible refine (sum_any l0 c1 S oo _ p4 pp4 q1 qq1 HS0.out HSF.out).mono ?_); rintro e' w' ⟨rfl, rfl⟩)
                | (refine step_append_own rfl (.tmp 66) (.tmp 81) 64 rfl (X + 1) 22 i0 (.int .u32 0) 1 4 Try.underlying64 hi hz0 hz1 hz2 rfl (by decide) u10 0 (sv.map (Value.int .u32)) rfl (by repeat (first | exact HOW.out | refine own_drew ?_ | refine World.ownsRow.alloc ?_ _ | refine own_set ?_ _ _ HSX.out _)) ⟨wr.heap.size, 0, none⟩ 1 1 [.int .u32 (sumN l0 c1)] rfl rfl (by intro j u hj; rcases j with _ | j <;> first | (cases hj; go_simp) | cases hj) (by intro u hu; simp at hu; subst hu; rfl) (by decide) (by decide) (by have := HXS.out; simp [size_set]; omega) ?_; intro v' w1 hown1 hgrow1 _))
            have hq := ((((hq.setS 0 (.bool (oo || bigN l0 c1))).below (below_new _ (.cells #[.int .u32 (sumN l0 c1)] 22))).drew).grown hgrow1 HLT.out)
            have hown' : w1.ownsRow (X + 1) 22 1 v' (0 + 1) ((sv ++ [(sumN l0 c1)]).map (Value.int .u32)) := by rw [List.map_append]; exact hown1
            clear H HOW HLT HS0 HSF HSX HXS hown1 hgrow1 wj wk
            obtain ⟨a_0, a_1, a_2, a_3, a_4, a_5, a_6, a_7, a_8, a_9, a_f⟩ := hq.q.q.a.ten
            obtain ⟨b_0, b_1, b_2, b_3, b_4, b_5, b_6, b_7, b_8, b_9, b_f⟩ := hq.q.q.b.ten
            obtain ⟨r_0, r_1, r_2, r_3, r_4, r_5, r_6, r_7, r_8, r_9, r_f⟩ := hq.q.q.r.ten
            obtain ⟨x_0, x_1, x_2, x_3, x_4, x_5, x_6, x_7, x_8, x_9, x_f⟩ := hq.x.ten
            have s_0 := hq.q.x.cell 0 _ rfl
            have s_f := hq.q.x.free
            go_wp2
            go_roundw
            case rel => ((repeat apply Exists.intro); refine ⟨?_, rfl⟩; exact ⟨0 + 1, _, _, by omega, by go_num, hq, hown', hlen', hov', hy'⟩)
            case measure => simp [intOf] <;> omega
          · have hov' : Hid ((([bigN a0 c0, bigN a1 c1, bigN a2 c2, bigN a3 c3].take (K + 1)).any id || (([bigN l0 ((⟨g, qk, c0, c1, c2, c3, qu, n0, n1, n2⟩ : Pa).A (1 + ((0 : Nat) : Int))), bigN l1 ((⟨g, qk, c0, c1, c2, c3, qu, n0, n1, n2⟩ : Pa).A (2 + ((0 : Nat) : Int))), bigN l2 ((⟨g, qk, c0, c1, c2, c3, qu, n0, n1, n2⟩ : Pa).A (3 + ((0 : Nat) : Int)))]).take (1 + 1)).any id) = (oo || bigN l1 c2)) := Lib.hid (by rw [← hov.out]; simp [Pa.A, Bool.or_assoc])
            have hy' : Hid ((oo || bigN l1 c2) = false → ((∀ t : Nat, t ≤ 3 → (⟨0, 0, y0, y1, y2, y3, 0, 0, 0, 0⟩ : Pa).A t = if t < K + 1 then (⟨f, ((0 : Nat) : Int), a0, a1, a2, a3, pu, l0, l1, l2⟩ : Pa).A t + (⟨g, qk, c0, c1, c2, c3, qu, n0, n1, n2⟩ : Pa).A t else 0) ∧ (∀ t : Nat, t < 1 + 1 → ((sv ++ [(sumN l1 c2)]) : List Int)[t]? = some ((⟨f, ((0 : Nat) : Int), a0, a1, a2, a3, pu, l0, l1, l2⟩ : Pa).L t + (⟨g, qk, c0, c1, c2, c3, qu, n0, n1, n2⟩ : Pa).A (1 + ((0 : Nat) : Int) + t))))) := Lib.hid (fun ho => by
              obtain ⟨o1, o2⟩ := Bool.or_eq_false_iff.1 ho
              obtain ⟨e0, e1⟩ := hy.out o1
              refine ⟨e0, fun t ht => ?_⟩
              have hl := hlen.out
              by_cases e : t = 1
              · subst e
                rw [List.getElem?_append_right (by omega), hl, sumN_ok o2]
                simp [Pa.A, Pa.L]
              · rw [List.getElem?_append_left (by omega)]
                exact e1 t (by omega))
            have hlen' : Hid ((sv ++ [(sumN l1 c2)]).length = 1 + 1) := Lib.hid (by rw [List.length_append, hlen.out]; rfl)
            clear hy hov
            go_wp2
            have H := Lib.hid (⟨⟨_, hq.q.drew⟩, hq.SX⟩ : E5 w A B R S X #[.int .i64 f, .int .i64 ((0 : Nat) : Int), .int .u32 a0, .int .u32 a1, .int .u32 a2, .int .u32 a3, .int .i64 pu, .int .u32 l0, .int .u32 l1, .int .u32 l2] #[.int .i64 g, .int .i64 qk, .int .u32 c0, .int .u32 c1, .int .u32 c2, .int .u32 c3, .int .i64 qu, .int .u32 n0, .int .u32 n1, .int .u32 n2] #[.int .i64 0, .int .i64 0, .int .u32 0, .int .u32 0, .int .u32 0, .int .u32 0, .int .i64 0, .int .u32 0, .int .u32 0, .int .u32 0] wr.drew).t
            have HS0 := Lib.hid (show wr.drew.cell? ⟨S, 0, none⟩ = some (.bool oo) from hq.drew.q.x.cell 0 _ rfl)
            have HSF := Lib.hid (show wr.drew.frozen? ⟨S, 0, none⟩ = false from hq.drew.q.x.free 0)
            have HLT := Lib.hid (fun k (e : u10.ownBlock = some k) => Nat.lt_of_succ_le (hown.lt k e).1)
            have HOW := Lib.hid hown
            have HSX := Lib.hid (Nat.lt_succ_of_lt hq.SX)
            have HXS := Lib.hid (show X < wr.heap.size from hq.x.lt)
            clear a_0 a_1 a_2 a_3 a_4 a_5 a_6 a_7 a_8 a_9 a_f b_0 b_1 b_2 b_3 b_4 b_5 b_6 b_7 b_8 b_9 b_f r_0 r_1 r_2 r_3 r_4 r_5 r_6 r_7 r_8 r_9 r_f x_0 x_1 x_2 x_3 x_4 x_5 x_6 x_7 x_8 x_9 x_f s_0 s_f hown
            obtain ⟨i0, hi, hz0, hz1, hz2⟩ := info_parts Try.info22
            have wj : IntKind.i64.wrap 1 = 1 := by decide
            have wk : IntKind.i64.wrap 2 = 2 := by decide
            go_region_held3 (T5 w A B R S X f ((0 : Nat) : Int) a0 a1 a2 a3 pu l0 l1 l2 g qk c0 c1 c2 c3 qu n0 n1 n2 #[.int .i64 0, .int .i64 0, .int .u32 0, .int .u32 0, .int .u32 0, .int .u32 0, .int .i64 0, .int .u32 0, .int .u32 0, .int .u32 0]) (first | (with_reducible exact H.out) | (with_reducible assumption) | (with_reducible exact t5_setS _ _ ‹_›) | (with_reducible exact t5_alloc _ ‹_›) | (with_reducible exact t5_grown ‹World.grownBy _ _ _› HLT.out ‹_›) | (with_reducible exact t5_fill ‹Below _ _ _› ‹_›) | (with_reducible exact t5_setX _ _ ‹_›))
              (first
                | (go_at_call 51; (with_reducible refine (sum_any l1 c2 S oo _ p5 pp5 q2 qq2 HS0.out HSF.out).mono ?_); rintro e' w' ⟨rfl, rfl⟩)
                | (refine step_append_own rfl (.tmp 66) (.tmp 81) 64 rfl (X + 1) 22 i0 (.int .u32 0) 1 4 Try.underlying64 hi hz0 hz1 hz2 rfl (by decide) u10 1 (sv.map (Value.int .u32)) rfl (by repeat (first | exact HOW.out | refine own_drew ?_ | refine World.ownsRow.alloc ?_ _ | refine own_set ?_ _ _ HSX.out _)) ⟨wr.heap.size, 0, none⟩ 1 1 [.int .u32 (sumN l1 c2)] rfl rfl (by intro j u hj; rcases j with _ | j <;> first | (cases hj; go_simp) | cases hj) (by intro u hu; simp at hu; subst hu; rfl) (by decide) (by decide) (by have := HXS.out; simp [size_set]; omega) ?_; intro v' w1 hown1 hgrow1 _))
            have hq := ((((hq.setS 0 (.bool (oo || bigN l1 c2))).below (below_new _ (.cells #[.int .u32 (sumN l1 c2)] 22))).drew).grown hgrow1 HLT.out)
            have hown' : w1.ownsRow (X + 1) 22 1 v' (1 + 1) ((sv ++ [(sumN l1 c2)]).map (Value.int .u32)) := by rw [List.map_append]; exact hown1
            clear H HOW HLT HS0 HSF HSX HXS hown1 hgrow1 wj wk
            obtain ⟨a_0, a_1, a_2, a_3, a_4, a_5, a_6, a_7, a_8, a_9, a_f⟩ := hq.q.q.a.ten
            obtain ⟨b_0, b_1, b_2, b_3, b_4, b_5, b_6, b_7, b_8, b_9, b_f⟩ := hq.q.q.b.ten
            obtain ⟨r_0, r_1, r_2, r_3, r_4, r_5, r_6, r_7, r_8, r_9, r_f⟩ := hq.q.q.r.ten
            obtain ⟨x_0, x_1, x_2, x_3, x_4, x_5, x_6, x_7, x_8, x_9, x_f⟩ := hq.x.ten
            have s_0 := hq.q.x.cell 0 _ rfl
            have s_f := hq.q.x.free
            go_wp2
            go_roundw
            case rel => ((repeat apply Exists.intro); refine ⟨?_, rfl⟩; exact ⟨1 + 1, _, _, by omega, by go_num, hq, hown', hlen', hov', hy'⟩)
            case measure => simp [intOf] <;> omega
          · have hov' : Hid ((([bigN a0 c0, bigN a1 c1, bigN a2 c2, bigN a3 c3].take (K + 1)).any id || (([bigN l0 ((⟨g, qk, c0, c1, c2, c3, qu, n0, n1, n2⟩ : Pa).A (1 + ((0 : Nat) : Int))), bigN l1 ((⟨g, qk, c0, c1, c2, c3, qu, n0, n1, n2⟩ : Pa).A (2 + ((0 : Nat) : Int))), bigN l2 ((⟨g, qk, c0, c1, c2, c3, qu, n0, n1, n2⟩ : Pa).A (3 + ((0 : Nat) : Int)))]).take (2 + 1)).any id) = (oo || bigN l2 c3)) := Lib.hid (by rw [← hov.out]; simp [Pa.A, Bool.or_assoc])
            have hy' : Hid ((oo || bigN l2 c3) = false → ((∀ t : Nat, t ≤ 3 → (⟨0, 0, y0, y1, y2, y3, 0, 0, 0, 0⟩ : Pa).A t = if t < K + 1 then (⟨f, ((0 : Nat) : Int), a0, a1, a2, a3, pu, l0, l1, l2⟩ : Pa).A t + (⟨g, qk, c0, c1, c2, c3, qu, n0, n1, n2⟩ : Pa).A t else 0) ∧ (∀ t : Nat, t < 2 + 1 → ((sv ++ [(sumN l2 c3)]) : List Int)[t]? = some ((⟨f, ((0 : Nat) : Int), a0, a1, a2, a3, pu, l0, l1, l2⟩ : Pa).L t + (⟨g, qk, c0, c1, c2, c3, qu, n0, n1, n2⟩ : Pa).A (1 + ((0 : Nat) : Int) + t))))) := Lib.hid (fun ho => by
              obtain ⟨o1, o2⟩ := Bool.or_eq_false_iff.1 ho
              obtain ⟨e0, e1⟩ := hy.out o1
              refine ⟨e0, fun t ht => ?_⟩
              have hl := hlen.out
              by_cases e : t = 2
              · subst e
                rw [List.getElem?_append_right (by omega), hl, sumN_ok o2]
                simp [Pa.A, Pa.L]
              · rw [List.getElem?_append_left (by omega)]
                exact e1 t (by omega))
            have hlen' : Hid ((sv ++ [(sumN l2 c3)]).length = 2 + 1) := Lib.hid (by rw [List.length_append, hlen.out]; rfl)
            clear hy hov
            go_wp2
            have H := Lib.hid (⟨⟨_, hq.q.drew⟩, hq.SX⟩ : E5 w A B R S X #[.int .i64 f, .int .i64 ((0 : Nat) : Int), .int .u32 a0, .int .u32 a1, .int .u32 a2, .int .u32 a3, .int .i64 pu, .int .u32 l0, .int .u32 l1, .int .u32 l2] #[.int .i64 g, .int .i64 qk, .int .u32 c0, .int .u32 c1, .int .u32 c2, .int .u32 c3, .int .i64 qu, .int .u32 n0, .int .u32 n1, .int .u32 n2] #[.int .i64 0, .int .i64 0, .int .u32 0, .int .u32 0, .int .u32 0, .int .u32 0, .int .i64 0, .int .u32 0, .int .u32 0, .int .u32 0] wr.drew).t
            have HS0 := Lib.hid (show wr.drew.cell? ⟨S, 0, none⟩ = some (.bool oo) from hq.drew.q.x.cell 0 _ rfl)
            have HSF := Lib.hid (show wr.drew.frozen? ⟨S, 0, none⟩ = false from hq.drew.q.x.free 0)
            have HLT := Lib.hid (fun k (e : u10.ownBlock = some k) => Nat.lt_of_succ_le (hown.lt k e).1)
            have HOW := Lib.hid hown
            have HSX := Lib.hid (Nat.lt_succ_of_lt hq.SX)
            have HXS := Lib.hid (show X < wr.heap.size from hq.x.lt)
            clear a_0 a_1 a_2 a_3 a_4 a_5 a_6 a_7 a_8 a_9 a_f b_0 b_1 b_2 b_3 b_4 b_5 b_6 b_7 b_8 b_9 b_f r_0 r_1 r_2 r_3 r_4 r_5 r_6 r_7 r_8 r_9 r_f x_0 x_1 x_2 x_3 x_4 x_5 x_6 x_7 x_8 x_9 x_f s_0 s_f hown
            obtain ⟨i0, hi, hz0, hz1, hz2⟩ := info_parts Try.info22
            have wj : IntKind.i64.wrap 2 = 2 := by decide
            have wk : IntKind.i64.wrap 3 = 3 := by decide
            go_region_held3 (T5 w A B R S X f ((0 : Nat) : Int) a0 a1 a2 a3 pu l0 l1 l2 g qk c0 c1 c2 c3 qu n0 n1 n2 #[.int .i64 0, .int .i64 0, .int .u32 0, .int .u32 0, .int .u32 0, .int .u32 0, .int .i64 0, .int .u32 0, .int .u32 0, .int .u32 0]) (first | (with_reducible exact H.out) | (with_reducible assumption) | (with_reducible exact t5_setS _ _ ‹_›) | (with_reducible exact t5_alloc _ ‹_›) | (with_reducible exact t5_grown ‹World.grownBy _ _ _› HLT.out ‹_›) | (with_reducible exact t5_fill ‹Below _ _ _› ‹_›) | (with_reducible exact t5_setX _ _ ‹_›))
              (first
                | (go_at_call 51; (with_reducible refine (sum_any l2 c3 S oo _ p6 pp6 q3 qq3 HS0.out HSF.out).mono ?_); rintro e' w' ⟨rfl, rfl⟩)
                | (refine step_append_own rfl (.tmp 66) (.tmp 81) 64 rfl (X + 1) 22 i0 (.int .u32 0) 1 4 Try.underlying64 hi hz0 hz1 hz2 rfl (by decide) u10 2 (sv.map (Value.int .u32)) rfl (by repeat (first | exact HOW.out | refine own_drew ?_ | refine World.ownsRow.alloc ?_ _ | refine own_set ?_ _ _ HSX.out _)) ⟨wr.heap.size, 0, none⟩ 1 1 [.int .u32 (sumN l2 c3)] rfl rfl (by intro j u hj; rcases j with _ | j <;> first | (cases hj; go_simp) | cases hj) (by intro u hu; simp at hu; subst hu; rfl) (by decide) (by decide) (by have := HXS.out; simp [size_set]; omega) ?_; intro v' w1 hown1 hgrow1 _))
            have hq := ((((hq.setS 0 (.bool (oo || bigN l2 c3))).below (below_new _ (.cells #[.int .u32 (sumN l2 c3)] 22))).drew).grown hgrow1 HLT.out)
            have hown' : w1.ownsRow (X + 1) 22 1 v' (2 + 1) ((sv ++ [(sumN l2 c3)]).map (Value.int .u32)) := by rw [List.map_append]; exact hown1
            clear H HOW HLT HS0 HSF HSX HXS hown1 hgrow1 wj wk
            obtain ⟨a_0, a_1, a_2, a_3, a_4, a_5, a_6, a_7, a_8, a_9, a_f⟩ := hq.q.q.a.ten
            obtain ⟨b_0, b_1, b_2, b_3, b_4, b_5, b_6, b_7, b_8, b_9, b_f⟩ := hq.q.q.b.ten
            obtain ⟨r_0, r_1, r_2, r_3, r_4, r_5, r_6, r_7, r_8, r_9, r_f⟩ := hq.q.q.r.ten
            obtain ⟨x_0, x_1, x_2, x_3, x_4, x_5, x_6, x_7, x_8, x_9, x_f⟩ := hq.x.ten
            have s_0 := hq.q.x.cell 0 _ rfl
            have s_f := hq.q.x.free
            go_wp2
            go_roundw
            case rel => ((repeat apply Exists.intro); refine ⟨?_, rfl⟩; exact ⟨2 + 1, _, _, by omega, by go_num, hq, hown', hlen', hov', hy'⟩)
            case measure => simp [intOf] <;> omega
          · have hov' : Hid ((([bigN a0 c0, bigN a1 c1, bigN a2 c2, bigN a3 c3].take (K + 1)).any id || (([bigN l0 ((⟨g, qk, c0, c1, c2, c3, qu, n0, n1, n2⟩ : Pa).A (1 + ((1 : Nat) : Int))), bigN l1 ((⟨g, qk, c0, c1, c2, c3, qu, n0, n1, n2⟩ : Pa).A (2 + ((1 : Nat) : Int))), bigN l2 ((⟨g, qk, c0, c1, c2, c3, qu, n0, n1, n2⟩ : Pa).A (3 + ((1 : Nat) : Int)))]).take (0 + 1)).any id) = (oo || bigN l0 c2)) := Lib.hid (by rw [← hov.out]; simp [Pa.A, Bool.or_assoc])
            have hy' : Hid ((oo || bigN l0 c2) = false → ((∀ t : Nat, t ≤ 3 → (⟨0, 0, y0, y1, y2, y3, 0, 0, 0, 0⟩ : Pa).A t = if t < K + 1 then (⟨f, ((1 : Nat) : Int), a0, a1, a2, a3, pu, l0, l1, l2⟩ : Pa).A t + (⟨g, qk, c0, c1, c2, c3, qu, n0, n1, n2⟩ : Pa).A t else 0) ∧ (∀ t : Nat, t < 0 + 1 → ((sv ++ [(sumN l0 c2)]) : List Int)[t]? = some ((⟨f, ((1 : Nat) : Int), a0, a1, a2, a3, pu, l0, l1, l2⟩ : Pa).L t + (⟨g, qk, c0, c1, c2, c3, qu, n0, n1, n2⟩ : Pa).A (1 + ((1 : Nat) : Int) + t))))) := Lib.hid (fun ho => by
              obtain ⟨o1, o2⟩ := Bool.or_eq_false_iff.1 ho
              obtain ⟨e0, e1⟩ := hy.out o1
              refine ⟨e0, fun t ht => ?_⟩
              have hl := hlen.out
              by_cases e : t = 0
              · subst e
                rw [List.getElem?_append_right (by omega), hl, sumN_ok o2]
                simp [Pa.A, Pa.L]
              · rw [List.getElem?_append_left (by omega)]
                exact e1 t (by omega))
            have hlen' : Hid ((sv ++ [(sumN l0 c2)]).length = 0 + 1) := Lib.hid (by rw [List.length_append, hlen.out]; rfl)
            clear hy hov
            go_wp2
            have H := Lib.hid (⟨⟨_, hq.q.drew⟩, hq.SX⟩ : E5 w A B R S X #[.int .i64 f, .int .i64 ((1 : Nat) : Int), .int .u32 a0, .int .u32 a1, .int .u32 a2, .int .u32 a3, .int .i64 pu, .int .u32 l0, .int .u32 l1, .int .u32 l2] #[.int .i64 g, .int .i64 qk, .int .u32 c0, .int .u32 c1, .int .u32 c2, .int .u32 c3, .int .i64 qu, .int .u32 n0, .int .u32 n1, .int .u32 n2] #[.int .i64 0, .int .i64 0, .int .u32 0, .int .u32 0, .int .u32 0, .int .u32 0, .int .i64 0, .int .u32 0, .int .u32 0, .int .u32 0] wr.drew).t
            have HS0 := Lib.hid (show wr.drew.cell? ⟨S, 0, none⟩ = some (.bool oo) from hq.drew.q.x.cell 0 _ rfl)
            have HSF := Lib.hid (show wr.drew.frozen? ⟨S, 0, none⟩ = false from hq.drew.q.x.free 0)
            have HLT := Lib.hid (fun k (e : u10.ownBlock = some k) => Nat.lt_of_succ_le (hown.lt k e).1)
            have HOW := Lib.hid hown
            have HSX := Lib.hid (Nat.lt_succ_of_lt hq.SX)
            have HXS := Lib.hid (show X < wr.heap.size from hq.x.lt)
            clear a_0 a_1 a_2 a_3 a_4 a_5 a_6 a_7 a_8 a_9 a_f b_0 b_1 b_2 b_3 b_4 b_5 b_6 b_7 b_8 b_9 b_f r_0 r_1 r_2 r_3 r_4 r_5 r_6 r_7 r_8 r_9 r_f x_0 x_1 x_2 x_3 x_4 x_5 x_6 x_7 x_8 x_9 x_f s_0 s_f hown
            obtain ⟨i0, hi, hz0, hz1, hz2⟩ := info_parts Try.info22
            have wj : IntKind.i64.wrap 0 = 0 := by decide
            have wk : IntKind.i64.wrap 2 = 2 := by decide
            go_region_held3 (T5 w A B R S X f ((1 : Nat) : Int) a0 a1 a2 a3 pu l0 l1 l2 g qk c0 c1 c2 c3 qu n0 n1 n2 #[.int .i64 0, .int .i64 0, .int .u32 0, .int .u32 0, .int .u32 0, .int .u32 0, .int .i64 0, .int .u32 0, .int .u32 0, .int .u32 0]) (first | (with_reducible exact H.out) | (with_reducible assumption) | (with_reducible exact t5_setS _ _ ‹_›) | (with_reducible exact t5_alloc _ ‹_›) | (with_reducible exact t5_grown ‹World.grownBy _ _ _› HLT.out ‹_›) | (with_reducible exact t5_fill ‹Below _ _ _› ‹_›) | (with_reducible exact t5_setX _ _ ‹_›))
              (first
                | (go_at_call 51; (with_reducible refine (sum_any l0 c2 S oo _ p4 pp4 q2 qq2 HS0.out HSF.out).mono ?_); rintro e' w' ⟨rfl, rfl⟩)
                | (refine step_append_own rfl (.tmp 66) (.tmp 81) 64 rfl (X + 1) 22 i0 (.int .u32 0) 1 4 Try.underlying64 hi hz0 hz1 hz2 rfl (by decide) u10 0 (sv.map (Value.int .u32)) rfl (by repeat (first | exact HOW.out | refine own_drew ?_ | refine World.ownsRow.alloc ?_ _ | refine own_set ?_ _ _ HSX.out _)) ⟨wr.heap.size, 0, none⟩ 1 1 [.int .u32 (sumN l0 c2)] rfl rfl (by intro j u hj; rcases j with _ | j <;> first | (cases hj; go_simp) | cases hj) (by intro u hu; simp at hu; subst hu; rfl) (by decide) (by decide) (by have := HXS.out; simp [size_set]; omega) ?_; intro v' w1 hown1 hgrow1 _))
            have hq := ((((hq.setS 0 (.bool (oo || bigN l0 c2))).below (below_new _ (.cells #[.int .u32 (sumN l0 c2)] 22))).drew).grown hgrow1 HLT.out)
            have hown' : w1.ownsRow (X + 1) 22 1 v' (0 + 1) ((sv ++ [(sumN l0 c2)]).map (Value.int .u32)) := by rw [List.map_append]; exact hown1
            clear H HOW HLT HS0 HSF HSX HXS hown1 hgrow1 wj wk
            obtain ⟨a_0, a_1, a_2, a_3, a_4, a_5, a_6, a_7, a_8, a_9, a_f⟩ := hq.q.q.a.ten
            obtain ⟨b_0, b_1, b_2, b_3, b_4, b_5, b_6, b_7, b_8, b_9, b_f⟩ := hq.q.q.b.ten
            obtain ⟨r_0, r_1, r_2, r_3, r_4, r_5, r_6, r_7, r_8, r_9, r_f⟩ := hq.q.q.r.ten
            obtain ⟨x_0, x_1, x_2, x_3, x_4, x_5, x_6, x_7, x_8, x_9, x_f⟩ := hq.x.ten
            have s_0 := hq.q.x.cell 0 _ rfl
            have s_f := hq.q.x.free
            go_wp2
            go_roundw
            case rel => ((repeat apply Exists.intro); refine ⟨?_, rfl⟩; exact ⟨0 + 1, _, _, by omega, by go_num, hq, hown', hlen', hov', hy'⟩)
            case measure => simp [intOf] <;> omega
          · have hov' : Hid ((([bigN a0 c0, bigN a1 c1, bigN a2 c2, bigN a3 c3].take (K + 1)).any id || (([bigN l0 ((⟨g, qk, c0, c1, c2, c3, qu, n0, n1, n2⟩ : Pa).A (1 + ((1 : Nat) : Int))), bigN l1 ((⟨g, qk, c0, c1, c2, c3, qu, n0, n1, n2⟩ : Pa).A (2 + ((1 : Nat) : Int))), bigN l2 ((⟨g, qk, c0, c1, c2, c3, qu, n0, n1, n2⟩ : Pa).A (3 + ((1 : Nat) : Int)))]).take (1 + 1)).any id) = (oo || bigN l1 c3)) := Lib.hid (by rw [← hov.out]; simp [Pa.A, Bool.or_assoc])
            have hy' : Hid ((oo || bigN l1 c3) = false → ((∀ t : Nat, t ≤ 3 → (⟨0, 0, y0, y1, y2, y3, 0, 0, 0, 0⟩ : Pa).A t = if t < K + 1 then (⟨f, ((1 : Nat) : Int), a0, a1, a2, a3, pu, l0, l1, l2⟩ : Pa).A t + (⟨g, qk, c0, c1, c2, c3, qu, n0, n1, n2⟩ : Pa).A t else 0) ∧ (∀ t : Nat, t < 1 + 1 → ((sv ++ [(sumN l1 c3)]) : List Int)[t]? = some ((⟨f, ((1 : Nat) : Int), a0, a1, a2, a3, pu, l0, l1, l2⟩ : Pa).L t + (⟨g, qk, c0, c1, c2, c3, qu, n0, n1, n2⟩ : Pa).A (1 + ((1 : Nat) : Int) + t))))) := Lib.hid (fun ho => by
              obtain ⟨o1, o2⟩ := Bool.or_eq_false_iff.1 ho
              obtain ⟨e0, e1⟩ := hy.out o1
              refine ⟨e0, fun t ht => ?_⟩
              have hl := hlen.out
              by_cases e : t = 1
              · subst e
                rw [List.getElem?_append_right (by omega), hl, sumN_ok o2]
                simp [Pa.A, Pa.L]
              · rw [List.getElem?_append_left (by omega)]
                exact e1 t (by omega))
            have hlen' : Hid ((sv ++ [(sumN l1 c3)]).length = 1 + 1) := Lib.hid (by rw [List.length_append, hlen.out]; rfl)
            clear hy hov
            go_wp2
            have H := Lib.hid (⟨⟨_, hq.q.drew⟩, hq.SX⟩ : E5 w A B R S X #[.int .i64 f, .int .i64 ((1 : Nat) : Int), .int .u32 a0, .int .u32 a1, .int .u32 a2, .int .u32 a3, .int .i64 pu, .int .u32 l0, .int .u32 l1, .int .u32 l2] #[.int .i64 g, .int .i64 qk, .int .u32 c0, .int .u32 c1, .int .u32 c2, .int .u32 c3, .int .i64 qu, .int .u32 n0, .int .u32 n1, .int .u32 n2] #[.int .i64 0, .int .i64 0, .int .u32 0, .int .u32 0, .int .u32 0, .int .u32 0, .int .i64 0, .int .u32 0, .int .u32 0, .int .u32 0] wr.drew).t
            have HS0 := Lib.hid (show wr.drew.cell? ⟨S, 0, none⟩ = some (.bool oo) from hq.drew.q.x.cell 0 _ rfl)
            have HSF := Lib.hid (show wr.drew.frozen? ⟨S, 0, none⟩ = false from hq.drew.q.x.free 0)
            have HLT := Lib.hid (fun k (e : u10.ownBlock = some k) => Nat.lt_of_succ_le (hown.lt k e).1)
            have HOW := Lib.hid hown
            have HSX := Lib.hid (Nat.lt_succ_of_lt hq.SX)
            have HXS := Lib.hid (show X < wr.heap.size from hq.x.lt)
            clear a_0 a_1 a_2 a_3 a_4 a_5 a_6 a_7 a_8 a_9 a_f b_0 b_1 b_2 b_3 b_4 b_5 b_6 b_7 b_8 b_9 b_f r_0 r_1 r_2 r_3 r_4 r_5 r_6 r_7 r_8 r_9 r_f x_0 x_1 x_2 x_3 x_4 x_5 x_6 x_7 x_8 x_9 x_f s_0 s_f hown
            obtain ⟨i0, hi, hz0, hz1, hz2⟩ := info_parts Try.info22
            have wj : IntKind.i64.wrap 1 = 1 := by decide
            have wk : IntKind.i64.wrap 3 = 3 := by decide
            go_region_held3 (T5 w A B R S X f ((1 : Nat) : Int) a0 a1 a2 a3 pu l0 l1 l2 g qk c0 c1 c2 c3 qu n0 n1 n2 #[.int .i64 0, .int .i64 0, .int .u32 0, .int .u32 0, .int .u32 0, .int .u32 0, .int .i64 0, .int .u32 0, .int .u32 0, .int .u32 0]) (first | (with_reducible exact H.out) | (with_reducible assumption) | (with_reducible exact t5_setS _ _ ‹_›) | (with_reducible exact t5_alloc _ ‹_›) | (with_reducible exact t5_grown ‹World.grownBy _ _ _› HLT.out ‹_›) | (with_reducible exact t5_fill ‹Below _ _ _› ‹_›) | (with_reducible exact t5_setX _ _ ‹_›))
              (first
                | (go_at_call 51; (with_reducible refine (sum_any l1 c3 S oo _ p5 pp5 q3 qq3 HS0.out HSF.out).mono ?_); rintro e' w' ⟨rfl, rfl⟩)
                | (refine step_append_own rfl (.tmp 66) (.tmp 81) 64 rfl (X + 1) 22 i0 (.int .u32 0) 1 4 Try.underlying64 hi hz0 hz1 hz2 rfl (by decide) u10 1 (sv.map (Value.int .u32)) rfl (by repeat (first | exact HOW.out | refine own_drew ?_ | refine World.ownsRow.alloc ?_ _ | refine own_set ?_ _ _ HSX.out _)) ⟨wr.heap.size, 0, none⟩ 1 1 [.int .u32 (sumN l1 c3)] rfl rfl (by intro j u hj; rcases j with _ | j <;> first | (cases hj; go_simp) | cases hj) (by intro u hu; simp at hu; subst hu; rfl) (by decide) (by decide) (by have := HXS.out; simp [size_set]; omega) ?_; intro v' w1 hown1 hgrow1 _))
            have hq := ((((hq.setS 0 (.bool (oo || bigN l1 c3))).below (below_new _ (.cells #[.int .u32 (sumN l1 c3)] 22))).drew).grown hgrow1 HLT.out)
            have hown' : w1.ownsRow (X + 1) 22 1 v' (1 + 1) ((sv ++ [(sumN l1 c3)]).map (Value.int .u32)) := by rw [List.map_append]; exact hown1
            clear H HOW HLT HS0 HSF HSX HXS hown1 hgrow1 wj wk
            obtain ⟨a_0, a_1, a_2, a_3, a_4, a_5, a_6, a_7, a_8, a_9, a_f⟩ := hq.q.q.a.ten
            obtain ⟨b_0, b_1, b_2, b_3, b_4, b_5, b_6, b_7, b_8, b_9, b_f⟩ := hq.q.q.b.ten
            obtain ⟨r_0, r_1, r_2, r_3, r_4, r_5, r_6, r_7, r_8, r_9, r_f⟩ := hq.q.q.r.ten
            obtain ⟨x_0, x_1, x_2, x_3, x_4, x_5, x_6, x_7, x_8, x_9, x_f⟩ := hq.x.ten
            have s_0 := hq.q.x.cell 0 _ rfl
            have s_f := hq.q.x.free
            go_wp2
            go_roundw
            case rel => ((repeat apply Exists.intro); refine ⟨?_, rfl⟩; exact ⟨1 + 1, _, _, by omega, by go_num, hq, hown', hlen', hov', hy'⟩)
            case measure => simp [intOf] <;> omega
          · have hov' : Hid ((([bigN a0 c0, bigN a1 c1, bigN a2 c2, bigN a3 c3].take (K + 1)).any id || (([bigN l0 ((⟨g, qk, c0, c1, c2, c3, qu, n0, n1, n2⟩ : Pa).A (1 + ((2 : Nat) : Int))), bigN l1 ((⟨g, qk, c0, c1, c2, c3, qu, n0, n1, n2⟩ : Pa).A (2 + ((2 : Nat) : Int))), bigN l2 ((⟨g, qk, c0, c1, c2, c3, qu, n0, n1, n2⟩ : Pa).A (3 + ((2 : Nat) : Int)))]).take (0 + 1)).any id) = (oo || bigN l0 c3)) := Lib.hid (by rw [← hov.out]; simp [Pa.A, Bool.or_assoc])
            have hy' : Hid ((oo || bigN l0 c3) = false → ((∀ t : Nat, t ≤ 3 → (⟨0, 0, y0, y1, y2, y3, 0, 0, 0, 0⟩ : Pa).A t = if t < K + 1 then (⟨f, ((2 : Nat) : Int), a0, a1, a2, a3, pu, l0, l1, l2⟩ : Pa).A t + (⟨g, qk, c0, c1, c2, c3, qu, n0, n1, n2⟩ : Pa).A t else 0) ∧ (∀ t : Nat, t < 0 + 1 → ((sv ++ [(sumN l0 c3)]) : List Int)[t]? = some ((⟨f, ((2 : Nat) : Int), a0, a1, a2, a3, pu, l0, l1, l2⟩ : Pa).L t + (⟨g, qk, c0, c1, c2, c3, qu, n0, n1, n2⟩ : Pa).A (1 + ((2 : Nat) : Int) + t))))) := Lib.hid (fun ho => by
              obtain ⟨o1, o2⟩ := Bool.or_eq_false_iff.1 ho
              obtain ⟨e0, e1⟩ := hy.out o1
              refine ⟨e0, fun t ht => ?_⟩
              have hl := hlen.out
              by_cases e : t = 0
              · subst e
                rw [List.getElem?_append_right (by omega), hl, sumN_ok o2]
                simp [Pa.A, Pa.L]
              · rw [List.getElem?_append_left (by omega)]
                exact e1 t (by omega))
            have hlen' : Hid ((sv ++ [(sumN l0 c3)]).length = 0 + 1) := Lib.hid (by rw [List.length_append, hlen.out]; rfl)
            clear hy hov
            go_wp2
            have H := Lib.hid (⟨⟨_, hq.q.drew⟩, hq.SX⟩ : E5 w A B R S X #[.int .i64 f, .int .i64 ((2 : Nat) : Int), .int .u32 a0, .int .u32 a1, .int .u32 a2, .int .u32 a3, .int .i64 pu, .int .u32 l0, .int .u32 l1, .int .u32 l2] #[.int .i64 g, .int .i64 qk, .int .u32 c0, .int .u32 c1, .int .u32 c2, .int .u32 c3, .int .i64 qu, .int .u32 n0, .int .u32 n1, .int .u32 n2] #[.int .i64 0, .int .i64 0, .int .u32 0, .int .u32 0, .int .u32 0, .int .u32 0, .int .i64 0, .int .u32 0, .int .u32 0, .int .u32 0] wr.drew).t
            have HS0 := Lib.hid (show wr.drew.cell? ⟨S, 0, none⟩ = some (.bool oo) from hq.drew.q.x.cell 0 _ rfl)
            have HSF := Lib.hid (show wr.drew.frozen? ⟨S, 0, none⟩ = false from hq.drew.q.x.free 0)
            have HLT := Lib.hid (fun k (e : u10.ownBlock = some k) => Nat.lt_of_succ_le (hown.lt k e).1)
            have HOW := Lib.hid hown
            have HSX := Lib.hid (Nat.lt_succ_of_lt hq.SX)
            have HXS := Lib.hid (show X < wr.heap.size from hq.x.lt)
            clear a_0 a_1 a_2 a_3 a_4 a_5 a_6 a_7 a_8 a_9 a_f b_0 b_1 b_2 b_3 b_4 b_5 b_6 b_7 b_8 b_9 b_f r_0 r_1 r_2 r_3 r_4 r_5 r_6 r_7 r_8 r_9 r_f x_0 x_1 x_2 x_3 x_4 x_5 x_6 x_7 x_8 x_9 x_f s_0 s_f hown
            obtain ⟨i0, hi, hz0, hz1, hz2⟩ := info_parts Try.info22
            have wj : IntKind.i64.wrap 0 = 0 := by decide
            have wk : IntKind.i64.wrap 3 = 3 := by decide
            go_region_held3 (T5 w A B R S X f ((2 : Nat) : Int) a0 a1 a2 a3 pu l0 l1 l2 g qk c0 c1 c2 c3 qu n0 n1 n2 #[.int .i64 0, .int .i64 0, .int .u32 0, .int .u32 0, .int .u32 0, .int .u32 0, .int .i64 0, .int .u32 0, .int .u32 0, .int .u32 0]) (first | (with_reducible exact H.out) | (with_reducible assumption) | (with_reducible exact t5_setS _ _ ‹_›) | (with_reducible exact t5_alloc _ ‹_›) | (with_reducible exact t5_grown ‹World.grownBy _ _ _› HLT.out ‹_›) | (with_reducible exact t5_fill ‹Below _ _ _› ‹_›) | (with_reducible exact t5_setX _ _ ‹_›))
              (first
                | (go_at_call 51; (with_reducible refine (sum_any l0 c3 S oo _ p4 pp4 q3 qq3 HS0.out HSF.out).mono ?_); rintro e' w' ⟨rfl, rfl⟩)
                | (refine step_append_own rfl (.tmp 66) (.tmp 81) 64 rfl (X + 1) 22 i0 (.int .u32 0) 1 4 Try.underlying64 hi hz0 hz1 hz2 rfl (by decide) u10 0 (sv.map (Value.int .u32)) rfl (by repeat (first | exact HOW.out | refine own_drew ?_ | refine World.ownsRow.alloc ?_ _ | refine own_set ?_ _ _ HSX.out _)) ⟨wr.heap.size, 0, none⟩ 1 1 [.int .u32 (sumN l0 c3)] rfl rfl (by intro j u hj; rcases j with _ | j <;> first | (cases hj; go_simp) | cases hj) (by intro u hu; simp at hu; subst hu; rfl) (by decide) (by decide) (by have := HXS.out; simp [size_set]; omega) ?_; intro v' w1 hown1 hgrow1 _))
            have hq := ((((hq.setS 0 (.bool (oo || bigN l0 c3))).below (below_new _ (.cells #[.int .u32 (sumN l0 c3)] 22))).drew).grown hgrow1 HLT.out)
            have hown' : w1.ownsRow (X + 1) 22 1 v' (0 + 1) ((sv ++ [(sumN l0 c3)]).map (Value.int .u32)) := by rw [List.map_append]; exact hown1
            clear H HOW HLT HS0 HSF HSX HXS hown1 hgrow1 wj wk
            obtain ⟨a_0, a_1, a_2, a_3, a_4, a_5, a_6, a_7, a_8, a_9, a_f⟩ := hq.q.q.a.ten
            obtain ⟨b_0, b_1, b_2, b_3, b_4, b_5, b_6, b_7, b_8, b_9, b_f⟩ := hq.q.q.b.ten
            obtain ⟨r_0, r_1, r_2, r_3, r_4, r_5, r_6, r_7, r_8, r_9, r_f⟩ := hq.q.q.r.ten
            obtain ⟨x_0, x_1, x_2, x_3, x_4, x_5, x_6, x_7, x_8, x_9, x_f⟩ := hq.x.ten
            have s_0 := hq.q.x.cell 0 _ rfl
            have s_f := hq.q.x.free
            go_wp2
            go_roundw
            case rel => ((repeat apply Exists.intro); refine ⟨?_, rfl⟩; exact ⟨0 + 1, _, _, by omega, by go_num, hq, hown', hlen', hov', hy'⟩)
            case measure => simp [intOf] <;> omega
        · obtain rfl : M = j := by have := HM.out; omega
          clear hj
          have hKi : thK ⟨f, pk, a0, a1, a2, a3, pu, l0, l1, l2⟩ ⟨g, qk, c0, c1, c2, c3, qu, n0, n1, n2⟩ = K := by show (if (pk : Int) ≤ qk then (pk : Int) else qk) = K; have := HK.out; split <;> omega
          have hMi : thM ⟨f, pk, a0, a1, a2, a3, pu, l0, l1, l2⟩ ⟨g, qk, c0, c1, c2, c3, qu, n0, n1, n2⟩ = M := by show (if (pk : Int) ≤ qk then (qk : Int) - pk else 0) = M; have := HM.out; split <;> omega
          have hO : paOver (thP ⟨f, pk, a0, a1, a2, a3, pu, l0, l1, l2⟩ ⟨g, qk, c0, c1, c2, c3, qu, n0, n1, n2⟩) = oo := (then_over HGQ.out hKi hMi hK3 (by omega)).trans hov.out
          have HE := Lib.hid (And.intro hKi (And.intro hMi hO))
          clear hKi hMi hO hov
          have hR := HX.out
          unfold thenR at hR
          rw [if_neg (fun h => h HCP.out), if_neg (fun h => h HCQ.out), if_neg (fun h => h HT.out), HE.out.2.2] at hR
          have HR := Lib.hid hR
          clear hR
          go_upto_region 18 with (fail)
          obtain ⟨i0, hi, hz0, hz1, hz2⟩ := info_parts Try.info22
          have HLT := Lib.hid (fun k (e : u10.ownBlock = some k) => Nat.lt_of_succ_le (hown.lt k e).1)
          have HOW := Lib.hid hown
          have HXS := Lib.hid (show X < wr.heap.size from hq.x.lt)
          have HQ := Lib.hid hq
          have HL := Lib.hid hlen
          clear hown hlen
          have h10 : (M = 0 ∧ qu = 0) ∨ (M = 0 ∧ qu = 1) ∨ (M = 0 ∧ qu = 2) ∨ (M = 0 ∧ qu = 3) ∨ (M = 1 ∧ qu = 0) ∨ (M = 1 ∧ qu = 1) ∨ (M = 1 ∧ qu = 2) ∨ (M = 2 ∧ qu = 0) ∨ (M = 2 ∧ qu = 1) ∨ (M = 3 ∧ qu = 0) := by omega
          clear hlt
          rcases h10 with ⟨rfl, rfl⟩ | ⟨rfl, rfl⟩ | ⟨rfl, rfl⟩ | ⟨rfl, rfl⟩ | ⟨rfl, rfl⟩ | ⟨rfl, rfl⟩ | ⟨rfl, rfl⟩ | ⟨rfl, rfl⟩ | ⟨rfl, rfl⟩ | ⟨rfl, rfl⟩
          · have hlc : ∃ _x : Unit, sv = [] := by
              have hl := HL.out.out
              match sv, hl with
              | [], _ => exact ⟨(), rfl⟩
            obtain ⟨_, rfl⟩ := hlc
            have H := Lib.hid (⟨⟨_, HQ.out.q.drew⟩, HQ.out.SX⟩ : E5 w A B R S X #[.int .i64 f, .int .i64 pk, .int .u32 a0, .int .u32 a1, .int .u32 a2, .int .u32 a3, .int .i64 pu, .int .u32 l0, .int .u32 l1, .int .u32 l2] #[.int .i64 g, .int .i64 qk, .int .u32 c0, .int .u32 c1, .int .u32 c2, .int .u32 c3, .int .i64 ((0 : Nat) : Int), .int .u32 n0, .int .u32 n1, .int .u32 n2] #[.int .i64 0, .int .i64 0, .int .u32 0, .int .u32 0, .int .u32 0, .int .u32 0, .int .i64 0, .int .u32 0, .int .u32 0, .int .u32 0] wr.drew).t
            clear a_0 a_1 a_2 a_3 a_4 a_5 a_6 a_7 a_8 a_9 a_f b_0 b_1 b_2 b_3 b_4 b_5 b_6 b_7 b_8 b_9 b_f r_0 r_1 r_2 r_3 r_4 r_5 r_6 r_7 r_8 r_9 r_f x_0 x_1 x_2 x_3 x_4 x_5 x_6 x_7 x_8 x_9 x_f s_0 s_f hq
            go_region_held3 (T5 w A B R S X f pk a0 a1 a2 a3 pu l0 l1 l2 g qk c0 c1 c2 c3 ((0 : Nat) : Int) n0 n1 n2  #[.int .i64 0, .int .i64 0, .int .u32 0, .int .u32 0, .int .u32 0, .int .u32 0, .int .i64 0, .int .u32 0, .int .u32 0, .int .u32 0]) (first | (with_reducible exact H.out) | (with_reducible assumption) | (with_reducible exact t5_setS _ _ ‹_›) | (with_reducible exact t5_alloc _ ‹_›) | (with_reducible exact t5_grown ‹World.grownBy _ _ _› HLT.out ‹_›) | (with_reducible exact t5_fill ‹Below _ _ _› ‹_›) | (with_reducible exact t5_setX _ _ ‹_›))
              (first
                | (refine step_append_own rfl (.tmp 85) (.tmp 89) 64 rfl (X + 1) 22 i0 (.int .u32 0) 1 4 Try.underlying64 hi hz0 hz1 hz2 rfl (by decide) u10 0 ([].map (Value.int .u32)) rfl HOW.out ⟨B, 7, none⟩ 0 3 [] rfl rfl (by intro j u hj; have ha := (HQ.out.q.q.b); rcases j with _ <;> first | (cases hj; exact ha.cell _ _ rfl) | cases hj) (by intro u hu; simp at hu; ) (by decide) (by decide) HXS.out ?_; intro v' w1 hown1 hgrow1 _; obtain ⟨sp, cap, rfl, hsp⟩ := own_view hown1; have HSP := Lib.hid hsp; have HGR := Lib.hid hgrow1; clear hsp hown1)
                | (refine step_copy_splice rfl (.tmp 84) (.tmp 90) 64 64 rfl 22 Try.underlying64 (by kernel_rfl) (some ⟨X, 7, none⟩) sp 3 3 0 cap rfl rfl X 7 [.int .i64 f, .int .i64 K, .int .u32 y0, .int .u32 y1, .int .u32 y2, .int .u32 y3, .int .i64 0, .int .u32 0, .int .u32 0, .int .u32 0] 26 (HQ.out.drew.grown HGR.out HLT.out).x [] rfl (fun h => absurd h (by decide)) (by simp) (by intro u hu; simp at hu; ) X w1 (Below.refl _ _) (Nat.le_refl _) ?_; intro w4 hg4 hb4; have HQ4 := Lib.hid ((HQ.out.drew.grown HGR.out HLT.out).fill hb4 (show Row w4 X #[.int .i64 f, .int .i64 K, .int .u32 y0, .int .u32 y1, .int .u32 y2, .int .u32 y3, .int .i64 0, .int .u32 0, .int .u32 0, .int .u32 0] 26 from hg4.out)); have x6 := HQ4.out.x.cell 6 _ rfl; have xf6 := HQ4.out.x.free 6))
            have hq := HQ4.out.setX 6 (.int .i64 0)
            clear H HLT HOW HXS HQ HL HQ4 HGR HSP x6 xf6 hg4 hb4
            obtain ⟨a_0, a_1, a_2, a_3, a_4, a_5, a_6, a_7, a_8, a_9, a_f⟩ := hq.q.q.a.ten
            obtain ⟨b_0, b_1, b_2, b_3, b_4, b_5, b_6, b_7, b_8, b_9, b_f⟩ := hq.q.q.b.ten
            obtain ⟨r_0, r_1, r_2, r_3, r_4, r_5, r_6, r_7, r_8, r_9, r_f⟩ := hq.q.q.r.ten
            obtain ⟨x_0, x_1, x_2, x_3, x_4, x_5, x_6, x_7, x_8, x_9, x_f⟩ := hq.x.ten
            have s_0 := hq.q.x.cell 0 _ rfl
            have s_f := hq.q.x.free
            rcases oo with _ | _
            · obtain ⟨y5, hs⟩ := hy.out rfl
              have eT : thP ⟨f, pk, a0, a1, a2, a3, pu, l0, l1, l2⟩ ⟨g, qk, c0, c1, c2, c3, ((0 : Nat) : Int), n0, n1, n2⟩ = ⟨f, K, y0, y1, y2, y3, ((0 : Nat) : Int) + ((0 : Nat) : Int), 0, 0, 0⟩ := thP_eq HE.out.1 HE.out.2.1 rfl y5 (by
                skip
                refine L3mk _ ?_ ?_ ?_ <;> simp [Pa.L] )
              have hR := HR.out
              rw [if_neg (by decide), eT] at hR
              injection hR with h1 h2
              subst h1
              subst h2
              clear HR HE hy hs eT y5
              go_wp2
              refine bodyPost_ret (v := .tuple #[.agg #[.int .i64 f, .int .i64 K, .int .u32 y0, .int .u32 y1, .int .u32 y2, .int .u32 y3, .int .i64 0, .int .u32 0, .int .u32 0, .int .u32 0], .int .i64 0]) (by simp [results, Try.results35, go_sem, *]) rfl ⟨rfl, ?_⟩
              exact ((((((((((hq.q.q.setR 0 _).setR 1 _).setR 2 _).setR 3 _).setR 4 _).setR 5 _).setR 6 _).setR 7 _).setR 8 _).setR 9 _).z
            · have hR := HR.out
              rw [if_pos rfl] at hR
              injection hR with h1 h2
              subst h1
              subst h2
              clear HR HE hy
              go_wp2
              refine bodyPost_ret (v := .tuple #[.agg #[.int .i64 0, .int .i64 0, .int .u32 0, .int .u32 0, .int .u32 0, .int .u32 0, .int .i64 0, .int .u32 0, .int .u32 0, .int .u32 0], .int .i64 9]) (by simp [results, Try.results35, go_sem, *]) rfl ⟨rfl, ?_⟩
              exact ((((((((((hq.q.q.setR 0 _).setR 1 _).setR 2 _).setR 3 _).setR 4 _).setR 5 _).setR 6 _).setR 7 _).setR 8 _).setR 9 _).z
          · have hlc : ∃ _x : Unit, sv = [] := by
              have hl := HL.out.out
              match sv, hl with
              | [], _ => exact ⟨(), rfl⟩
            obtain ⟨_, rfl⟩ := hlc
            have H := Lib.hid (⟨⟨_, HQ.out.q.drew⟩, HQ.out.SX⟩ : E5 w A B R S X #[.int .i64 f, .int .i64 pk, .int .u32 a0, .int .u32 a1, .int .u32 a2, .int .u32 a3, .int .i64 pu, .int .u32 l0, .int .u32 l1, .int .u32 l2] #[.int .i64 g, .int .i64 qk, .int .u32 c0, .int .u32 c1, .int .u32 c2, .int .u32 c3, .int .i64 ((1 : Nat) : Int), .int .u32 n0, .int .u32 n1, .int .u32 n2] #[.int .i64 0, .int .i64 0, .int .u32 0, .int .u32 0, .int .u32 0, .int .u32 0, .int .i64 0, .int .u32 0, .int .u32 0, .int .u32 0] wr.drew).t
            clear a_0 a_1 a_2 a_3 a_4 a_5 a_6 a_7 a_8 a_9 a_f b_0 b_1 b_2 b_3 b_4 b_5 b_6 b_7 b_8 b_9 b_f r_0 r_1 r_2 r_3 r_4 r_5 r_6 r_7 r_8 r_9 r_f x_0 x_1 x_2 x_3 x_4 x_5 x_6 x_7 x_8 x_9 x_f s_0 s_f hq
            go_region_held3 (T5 w A B R S X f pk a0 a1 a2 a3 pu l0 l1 l2 g qk c0 c1 c2 c3 ((1 : Nat) : Int) n0 n1 n2  #[.int .i64 0, .int .i64 0, .int .u32 0, .int .u32 0, .int .u32 0, .int .u32 0, .int .i64 0, .int .u32 0, .int .u32 0, .int .u32 0]) (first | (with_reducible exact H.out) | (with_reducible assumption) | (with_reducible exact t5_setS _ _ ‹_›) | (with_reducible exact t5_alloc _ ‹_›) | (with_reducible exact t5_grown ‹World.grownBy _ _ _› HLT.out ‹_›) | (with_reducible exact t5_fill ‹Below _ _ _› ‹_›) | (with_reducible exact t5_setX _ _ ‹_›))
              (first
                | (refine step_append_own rfl (.tmp 85) (.tmp 89) 64 rfl (X + 1) 22 i0 (.int .u32 0) 1 4 Try.underlying64 hi hz0 hz1 hz2 rfl (by decide) u10 0 ([].map (Value.int .u32)) rfl HOW.out ⟨B, 7, none⟩ 1 3 [.int .u32 n0] rfl rfl (by intro j u hj; have ha := (HQ.out.q.q.b); rcases j with _ | _ <;> first | (cases hj; exact ha.cell _ _ rfl) | cases hj) (by intro u hu; simp at hu; rcases hu with rfl <;> rfl) (by decide) (by decide) HXS.out ?_; intro v' w1 hown1 hgrow1 _; obtain ⟨sp, cap, rfl, hsp⟩ := own_view hown1; have HSP := Lib.hid hsp; have HGR := Lib.hid hgrow1; clear hsp hown1)
                | (refine step_copy_splice rfl (.tmp 84) (.tmp 90) 64 64 rfl 22 Try.underlying64 (by kernel_rfl) (some ⟨X, 7, none⟩) sp 3 3 1 cap rfl rfl X 7 [.int .i64 f, .int .i64 K, .int .u32 y0, .int .u32 y1, .int .u32 y2, .int .u32 y3, .int .i64 0, .int .u32 0, .int .u32 0, .int .u32 0] 26 (HQ.out.drew.grown HGR.out HLT.out).x [.int .u32 n0] rfl (fun _ => ⟨rfl, HSP.out (by decide)⟩) (by simp) (by intro u hu; simp at hu; rcases hu with rfl <;> rfl) X w1 (Below.refl _ _) (Nat.le_refl _) ?_; intro w4 hg4 hb4; have HQ4 := Lib.hid ((HQ.out.drew.grown HGR.out HLT.out).fill hb4 (show Row w4 X #[.int .i64 f, .int .i64 K, .int .u32 y0, .int .u32 y1, .int .u32 y2, .int .u32 y3, .int .i64 0, .int .u32 n0, .int .u32 0, .int .u32 0] 26 from hg4.out)); have x6 := HQ4.out.x.cell 6 _ rfl; have xf6 := HQ4.out.x.free 6))
            have hq := HQ4.out.setX 6 (.int .i64 1)
            clear H HLT HOW HXS HQ HL HQ4 HGR HSP x6 xf6 hg4 hb4
            obtain ⟨a_0, a_1, a_2, a_3, a_4, a_5, a_6, a_7, a_8, a_9, a_f⟩ := hq.q.q.a.ten
            obtain ⟨b_0, b_1, b_2, b_3, b_4, b_5, b_6, b_7, b_8, b_9, b_f⟩ := hq.q.q.b.ten
            obtain ⟨r_0, r_1, r_2, r_3, r_4, r_5, r_6, r_7, r_8, r_9, r_f⟩ := hq.q.q.r.ten
            obtain ⟨x_0, x_1, x_2, x_3, x_4, x_5, x_6, x_7, x_8, x_9, x_f⟩ := hq.x.ten
            have s_0 := hq.q.x.cell 0 _ rfl
            have s_f := hq.q.x.free
            rcases oo with _ | _
            · obtain ⟨y5, hs⟩ := hy.out rfl
              have eT : thP ⟨f, pk, a0, a1, a2, a3, pu, l0, l1, l2⟩ ⟨g, qk, c0, c1, c2, c3, ((1 : Nat) : Int), n0, n1, n2⟩ = ⟨f, K, y0, y1, y2, y3, ((0 : Nat) : Int) + ((1 : Nat) : Int), n0, 0, 0⟩ := thP_eq HE.out.1 HE.out.2.1 rfl y5 (by
                skip
                refine L3mk _ ?_ ?_ ?_ <;> simp [Pa.L] )
              have hR := HR.out
              rw [if_neg (by decide), eT] at hR
              injection hR with h1 h2
              subst h1
              subst h2
              clear HR HE hy hs eT y5
              go_wp2
              refine bodyPost_ret (v := .tuple #[.agg #[.int .i64 f, .int .i64 K, .int .u32 y0, .int .u32 y1, .int .u32 y2, .int .u32 y3, .int .i64 1, .int .u32 n0, .int .u32 0, .int .u32 0], .int .i64 0]) (by simp [results, Try.results35, go_sem, *]) rfl ⟨rfl, ?_⟩
              exact ((((((((((hq.q.q.setR 0 _).setR 1 _).setR 2 _).setR 3 _).setR 4 _).setR 5 _).setR 6 _).setR 7 _).setR 8 _).setR 9 _).z
            · have hR := HR.out
              rw [if_pos rfl] at hR
              injection hR with h1 h2
              subst h1
              subst h2
              clear HR HE hy
              go_wp2
              refine bodyPost_ret (v := .tuple #[.agg #[.int .i64 0, .int .i64 0, .int .u32 0, .int .u32 0, .int .u32 0, .int .u32 0, .int .i64 0, .int .u32 0, .int .u32 0, .int .u32 0], .int .i64 9]) (by simp [results, Try.results35, go_sem, *]) rfl ⟨rfl, ?_⟩
              exact ((((((((((hq.q.q.setR 0 _).setR 1 _).setR 2 _).setR 3 _).setR 4 _).setR 5 _).setR 6 _).setR 7 _).setR 8 _).setR 9 _).z
          · have hlc : ∃ _x : Unit, sv = [] := by
              have hl := HL.out.out
              match sv, hl with
              | [], _ => exact ⟨(), rfl⟩
            obtain ⟨_, rfl⟩ := hlc
            have H := Lib.hid (⟨⟨_, HQ.out.q.drew⟩, HQ.out.SX⟩ : E5 w A B R S X #[.int .i64 f, .int .i64 pk, .int .u32 a0, .int .u32 a1, .int .u32 a2, .int .u32 a3, .int .i64 pu, .int .u32 l0, .int .u32 l1, .int .u32 l2] #[.int .i64 g, .int .i64 qk, .int .u32 c0, .int .u32 c1, .int .u32 c2, .int .u32 c3, .int .i64 ((2 : Nat) : Int), .int .u32 n0, .int .u32 n1, .int .u32 n2] #[.int .i64 0, .int .i64 0, .int .u32 0, .int .u32 0, .int .u32 0, .int .u32 0, .int .i64 0, .int .u32 0, .int .u32 0, .int .u32 0] wr.drew).t
            clear a_0 a_1 a_2 a_3 a_4 a_5 a_6 a_7 a_8 a_9 a_f b_0 b_1 b_2 b_3 b_4 b_5 b_6 b_7 b_8 b_9 b_f r_0 r_1 r_2 r_3 r_4 r_5 r_6 r_7 r_8 r_9 r_f x_0 x_1 x_2 x_3 x_4 x_5 x_6 x_7 x_8 x_9 x_f s_0 s_f hq
            go_region_held3 (T5 w A B R S X f pk a0 a1 a2 a3 pu l0 l1 l2 g qk c0 c1 c2 c3 ((2 : Nat) : Int) n0 n1 n2  #[.int .i64 0, .int .i64 0, .int .u32 0, .int .u32 0, .int .u32 0, .int .u32 0, .int .i64 0, .int .u32 0, .int .u32 0, .int .u32 0]) (first | (with_reducible exact H.out) | (with_reducible assumption) | (with_reducible exact t5_setS _ _ ‹_›) | (with_reducible exact t5_alloc _ ‹_›) | (with_reducible exact t5_grown ‹World.grownBy _ _ _› HLT.out ‹_›) | (with_reducible exact t5_fill ‹Below _ _ _› ‹_›) | (with_reducible exact t5_setX _ _ ‹_›))
              (first
                | (refine step_append_own rfl (.tmp 85) (.tmp 89) 64 rfl (X + 1) 22 i0 (.int .u32 0) 1 4 Try.underlying64 hi hz0 hz1 hz2 rfl (by decide) u10 0 ([].map (Value.int .u32)) rfl HOW.out ⟨B, 7, none⟩ 2 3 [.int .u32 n0, .int .u32 n1] rfl rfl (by intro j u hj; have ha := (HQ.out.q.q.b); rcases j with _ | _ | _ <;> first | (cases hj; exact ha.cell _ _ rfl) | cases hj) (by intro u hu; simp at hu; rcases hu with rfl | rfl <;> rfl) (by decide) (by decide) HXS.out ?_; intro v' w1 hown1 hgrow1 _; obtain ⟨sp, cap, rfl, hsp⟩ := own_view hown1; have HSP := Lib.hid hsp; have HGR := Lib.hid hgrow1; clear hsp hown1)
                | (refine step_copy_splice rfl (.tmp 84) (.tmp 90) 64 64 rfl 22 Try.underlying64 (by kernel_rfl) (some ⟨X, 7, none⟩) sp 3 3 2 cap rfl rfl X 7 [.int .i64 f, .int .i64 K, .int .u32 y0, .int .u32 y1, .int .u32 y2, .int .u32 y3, .int .i64 0, .int .u32 0, .int .u32 0, .int .u32 0] 26 (HQ.out.drew.grown HGR.out HLT.out).x [.int .u32 n0, .int .u32 n1] rfl (fun _ => ⟨rfl, HSP.out (by decide)⟩) (by simp) (by intro u hu; simp at hu; rcases hu with rfl | rfl <;> rfl) X w1 (Below.refl _ _) (Nat.le_refl _) ?_; intro w4 hg4 hb4; have HQ4 := Lib.hid ((HQ.out.drew.grown HGR.out HLT.out).fill hb4 (show Row w4 X #[.int .i64 f, .int .i64 K, .int .u32 y0, .int .u32 y1, .int .u32 y2, .int .u32 y3, .int .i64 0, .int .u32 n0, .int .u32 n1, .int .u32 0] 26 from hg4.out)); have x6 := HQ4.out.x.cell 6 _ rfl; have xf6 := HQ4.out.x.free 6))
            have hq := HQ4.out.setX 6 (.int .i64 2)
            clear H HLT HOW HXS HQ HL HQ4 HGR HSP x6 xf6 hg4 hb4
            obtain ⟨a_0, a_1, a_2, a_3, a_4, a_5, a_6, a_7, a_8, a_9, a_f⟩ := hq.q.q.a.ten
            obtain ⟨b_0, b_1, b_2, b_3, b_4, b_5, b_6, b_7, b_8, b_9, b_f⟩ := hq.q.q.b.ten
            obtain ⟨r_0, r_1, r_2, r_3, r_4, r_5, r_6, r_7, r_8, r_9, r_f⟩ := hq.q.q.r.ten
            obtain ⟨x_0, x_1, x_2, x_3, x_4, x_5, x_6, x_7, x_8, x_9, x_f⟩ := hq.x.ten
            have s_0 := hq.q.x.cell 0 _ rfl
            have s_f := hq.q.x.free
            rcases oo with _ | _
            · obtain ⟨y5, hs⟩ := hy.out rfl
              have eT : thP ⟨f, pk, a0, a1, a2, a3, pu, l0, l1, l2⟩ ⟨g, qk, c0, c1, c2, c3, ((2 : Nat) : Int), n0, n1, n2⟩ = ⟨f, K, y0, y1, y2, y3, ((0 : Nat) : Int) + ((2 : Nat) : Int), n0, n1, 0⟩ := thP_eq HE.out.1 HE.out.2.1 rfl y5 (by
                skip
                refine L3mk _ ?_ ?_ ?_ <;> simp [Pa.L] )
              have hR := HR.out
              rw [if_neg (by decide), eT] at hR
              injection hR with h1 h2
              subst h1
              subst h2
              clear HR HE hy hs eT y5
              go_wp2
              refine bodyPost_ret (v := .tuple #[.agg #[.int .i64 f, .int .i64 K, .int .u32 y0, .int .u32 y1, .int .u32 y2, .int .u32 y3, .int .i64 2, .int .u32 n0, .int .u32 n1, .int .u32 0], .int .i64 0]) (by simp [results, Try.results35, go_sem, *]) rfl ⟨rfl, ?_⟩
              exact ((((((((((hq.q.q.setR 0 _).setR 1 _).setR 2 _).setR 3 _).setR 4 _).setR 5 _).setR 6 _).setR 7 _).setR 8 _).setR 9 _).z
            · have hR := HR.out
              rw [if_pos rfl] at hR
              injection hR with h1 h2
              subst h1
              subst h2
              clear HR HE hy
              go_wp2
              refine bodyPost_ret (v := .tuple #[.agg #[.int .i64 0, .int .i64 0, .int .u32 0, .int .u32 0, .int .u32 0, .int .u32 0, .int .i64 0, .int .u32 0, .int .u32 0, .int .u32 0], .int .i64 9]) (by simp [results, Try.results35, go_sem, *]) rfl ⟨rfl, ?_⟩
              exact ((((((((((hq.q.q.setR 0 _).setR 1 _).setR 2 _).setR 3 _).setR 4 _).setR 5 _).setR 6 _).setR 7 _).setR 8 _).setR 9 _).z
          · have hlc : ∃ _x : Unit, sv = [] := by
              have hl := HL.out.out
              match sv, hl with
              | [], _ => exact ⟨(), rfl⟩
            obtain ⟨_, rfl⟩ := hlc
            have H := Lib.hid (⟨⟨_, HQ.out.q.drew⟩, HQ.out.SX⟩ : E5 w A B R S X #[.int .i64 f, .int .i64 pk, .int .u32 a0, .int .u32 a1, .int .u32 a2, .int .u32 a3, .int .i64 pu, .int .u32 l0, .int .u32 l1, .int .u32 l2] #[.int .i64 g, .int .i64 qk, .int .u32 c0, .int .u32 c1, .int .u32 c2, .int .u32 c3, .int .i64 ((3 : Nat) : Int), .int .u32 n0, .int .u32 n1, .int .u32 n2] #[.int .i64 0, .int .i64 0, .int .u32 0, .int .u32 0, .int .u32 0, .int .u32 0, .int .i64 0, .int .u32 0, .int .u32 0, .int .u32 0] wr.drew).t
            clear a_0 a_1 a_2 a_3 a_4 a_5 a_6 a_7 a_8 a_9 a_f b_0 b_1 b_2 b_3 b_4 b_5 b_6 b_7 b_8 b_9 b_f r_0 r_1 r_2 r_3 r_4 r_5 r_6 r_7 r_8 r_9 r_f x_0 x_1 x_2 x_3 x_4 x_5 x_6 x_7 x_8 x_9 x_f s_0 s_f hq
            go_region_held3 (T5 w A B R S X f pk a0 a1 a2 a3 pu l0 l1 l2 g qk c0 c1 c2 c3 ((3 : Nat) : Int) n0 n1 n2  #[.int .i64 0, .int .i64 0, .int .u32 0, .int .u32 0, .int .u32 0, .int .u32 0, .int .i64 0, .int .u32 0, .int .u32 0, .int .u32 0]) (first | (with_reducible exact H.out) | (with_reducible assumption) | (with_reducible exact t5_setS _ _ ‹_›) | (with_reducible exact t5_alloc _ ‹_›) | (with_reducible exact t5_grown ‹World.grownBy _ _ _› HLT.out ‹_›) | (with_reducible exact t5_fill ‹Below _ _ _› ‹_›) | (with_reducible exact t5_setX _ _ ‹_›))
              (first
                | (refine step_append_own rfl (.tmp 85) (.tmp 89) 64 rfl (X + 1) 22 i0 (.int .u32 0) 1 4 Try.underlying64 hi hz0 hz1 hz2 rfl (by decide) u10 0 ([].map (Value.int .u32)) rfl HOW.out ⟨B, 7, none⟩ 3 3 [.int .u32 n0, .int .u32 n1, .int .u32 n2] rfl rfl (by intro j u hj; have ha := (HQ.out.q.q.b); rcases j with _ | _ | _ | _ <;> first | (cases hj; exact ha.cell _ _ rfl) | cases hj) (by intro u hu; simp at hu; rcases hu with rfl | rfl | rfl <;> rfl) (by decide) (by decide) HXS.out ?_; intro v' w1 hown1 hgrow1 _; obtain ⟨sp, cap, rfl, hsp⟩ := own_view hown1; have HSP := Lib.hid hsp; have HGR := Lib.hid hgrow1; clear hsp hown1)
                | (refine step_copy_splice rfl (.tmp 84) (.tmp 90) 64 64 rfl 22 Try.underlying64 (by kernel_rfl) (some ⟨X, 7, none⟩) sp 3 3 3 cap rfl rfl X 7 [.int .i64 f, .int .i64 K, .int .u32 y0, .int .u32 y1, .int .u32 y2, .int .u32 y3, .int .i64 0, .int .u32 0, .int .u32 0, .int .u32 0] 26 (HQ.out.drew.grown HGR.out HLT.out).x [.int .u32 n0, .int .u32 n1, .int .u32 n2] rfl (fun _ => ⟨rfl, HSP.out (by decide)⟩) (by simp) (by intro u hu; simp at hu; rcases hu with rfl | rfl | rfl <;> rfl) X w1 (Below.refl _ _) (Nat.le_refl _) ?_; intro w4 hg4 hb4; have HQ4 := Lib.hid ((HQ.out.drew.grown HGR.out HLT.out).fill hb4 (show Row w4 X #[.int .i64 f, .int .i64 K, .int .u32 y0, .int .u32 y1, .int .u32 y2, .int .u32 y3, .int .i64 0, .int .u32 n0, .int .u32 n1, .int .u32 n2] 26 from hg4.out)); have x6 := HQ4.out.x.cell 6 _ rfl; have xf6 := HQ4.out.x.free 6))
            have hq := HQ4.out.setX 6 (.int .i64 3)
            clear H HLT HOW HXS HQ HL HQ4 HGR HSP x6 xf6 hg4 hb4
            obtain ⟨a_0, a_1, a_2, a_3, a_4, a_5, a_6, a_7, a_8, a_9, a_f⟩ := hq.q.q.a.ten
            obtain ⟨b_0, b_1, b_2, b_3, b_4, b_5, b_6, b_7, b_8, b_9, b_f⟩ := hq.q.q.b.ten
            obtain ⟨r_0, r_1, r_2, r_3, r_4, r_5, r_6, r_7, r_8, r_9, r_f⟩ := hq.q.q.r.ten
            obtain ⟨x_0, x_1, x_2, x_3, x_4, x_5, x_6, x_7, x_8, x_9, x_f⟩ := hq.x.ten
            have s_0 := hq.q.x.cell 0 _ rfl
            have s_f := hq.q.x.free
            rcases oo with _ | _
            · obtain ⟨y5, hs⟩ := hy.out rfl
              have eT : thP ⟨f, pk, a0, a1, a2, a3, pu, l0, l1, l2⟩ ⟨g, qk, c0, c1, c2, c3, ((3 : Nat) : Int), n0, n1, n2⟩ = ⟨f, K, y0, y1, y2, y3, ((0 : Nat) : Int) + ((3 : Nat) : Int), n0, n1, n2⟩ := thP_eq HE.out.1 HE.out.2.1 rfl y5 (by
                skip
                refine L3mk _ ?_ ?_ ?_ <;> simp [Pa.L] )
              have hR := HR.out
              rw [if_neg (by decide), eT] at hR
              injection hR with h1 h2
              subst h1
              subst h2
              clear HR HE hy hs eT y5
              go_wp2
              refine bodyPost_ret (v := .tuple #[.agg #[.int .i64 f, .int .i64 K, .int .u32 y0, .int .u32 y1, .int .u32 y2, .int .u32 y3, .int .i64 3, .int .u32 n0, .int .u32 n1, .int .u32 n2], .int .i64 0]) (by simp [results, Try.results35, go_sem, *]) rfl ⟨rfl, ?_⟩
              exact ((((((((((hq.q.q.setR 0 _).setR 1 _).setR 2 _).setR 3 _).setR 4 _).setR 5 _).setR 6 _).setR 7 _).setR 8 _).setR 9 _).z
            · have hR := HR.out
              rw [if_pos rfl] at hR
              injection hR with h1 h2
              subst h1
              subst h2
              clear HR HE hy
              go_wp2
              refine bodyPost_ret (v := .tuple #[.agg #[.int .i64 0, .int .i64 0, .int .u32 0, .int .u32 0, .int .u32 0, .int .u32 0, .int .i64 0, .int .u32 0, .int .u32 0, .int .u32 0], .int .i64 9]) (by simp [results, Try.results35, go_sem, *]) rfl ⟨rfl, ?_⟩
              exact ((((((((((hq.q.q.setR 0 _).setR 1 _).setR 2 _).setR 3 _).setR 4 _).setR 5 _).setR 6 _).setR 7 _).setR 8 _).setR 9 _).z
          · have hlc : ∃ s0, sv = [s0] := by
              have hl := HL.out.out
              match sv, hl with
              | [s0], _ => exact ⟨_, rfl⟩
            obtain ⟨s0, rfl⟩ := hlc
            have H := Lib.hid (⟨⟨_, HQ.out.q.drew⟩, HQ.out.SX⟩ : E5 w A B R S X #[.int .i64 f, .int .i64 pk, .int .u32 a0, .int .u32 a1, .int .u32 a2, .int .u32 a3, .int .i64 pu, .int .u32 l0, .int .u32 l1, .int .u32 l2] #[.int .i64 g, .int .i64 qk, .int .u32 c0, .int .u32 c1, .int .u32 c2, .int .u32 c3, .int .i64 ((0 : Nat) : Int), .int .u32 n0, .int .u32 n1, .int .u32 n2] #[.int .i64 0, .int .i64 0, .int .u32 0, .int .u32 0, .int .u32 0, .int .u32 0, .int .i64 0, .int .u32 0, .int .u32 0, .int .u32 0] wr.drew).t
            clear a_0 a_1 a_2 a_3 a_4 a_5 a_6 a_7 a_8 a_9 a_f b_0 b_1 b_2 b_3 b_4 b_5 b_6 b_7 b_8 b_9 b_f r_0 r_1 r_2 r_3 r_4 r_5 r_6 r_7 r_8 r_9 r_f x_0 x_1 x_2 x_3 x_4 x_5 x_6 x_7 x_8 x_9 x_f s_0 s_f hq
            go_region_held3 (T5 w A B R S X f pk a0 a1 a2 a3 pu l0 l1 l2 g qk c0 c1 c2 c3 ((0 : Nat) : Int) n0 n1 n2  #[.int .i64 0, .int .i64 0, .int .u32 0, .int .u32 0, .int .u32 0, .int .u32 0, .int .i64 0, .int .u32 0, .int .u32 0, .int .u32 0]) (first | (with_reducible exact H.out) | (with_reducible assumption) | (with_reducible exact t5_setS _ _ ‹_›) | (with_reducible exact t5_alloc _ ‹_›) | (with_reducible exact t5_grown ‹World.grownBy _ _ _› HLT.out ‹_›) | (with_reducible exact t5_fill ‹Below _ _ _› ‹_›) | (with_reducible exact t5_setX _ _ ‹_›))
              (first
                | (refine step_append_own rfl (.tmp 85) (.tmp 89) 64 rfl (X + 1) 22 i0 (.int .u32 0) 1 4 Try.underlying64 hi hz0 hz1 hz2 rfl (by decide) u10 1 ([s0].map (Value.int .u32)) rfl HOW.out ⟨B, 7, none⟩ 0 3 [] rfl rfl (by intro j u hj; have ha := (HQ.out.q.q.b); rcases j with _ <;> first | (cases hj; exact ha.cell _ _ rfl) | cases hj) (by intro u hu; simp at hu; ) (by decide) (by decide) HXS.out ?_; intro v' w1 hown1 hgrow1 _; obtain ⟨sp, cap, rfl, hsp⟩ := own_view hown1; have HSP := Lib.hid hsp; have HGR := Lib.hid hgrow1; clear hsp hown1)
                | (refine step_copy_splice rfl (.tmp 84) (.tmp 90) 64 64 rfl 22 Try.underlying64 (by kernel_rfl) (some ⟨X, 7, none⟩) sp 3 3 1 cap rfl rfl X 7 [.int .i64 f, .int .i64 K, .int .u32 y0, .int .u32 y1, .int .u32 y2, .int .u32 y3, .int .i64 0, .int .u32 0, .int .u32 0, .int .u32 0] 26 (HQ.out.drew.grown HGR.out HLT.out).x [.int .u32 s0] rfl (fun _ => ⟨rfl, HSP.out (by decide)⟩) (by simp) (by intro u hu; simp at hu; rcases hu with rfl <;> rfl) X w1 (Below.refl _ _) (Nat.le_refl _) ?_; intro w4 hg4 hb4; have HQ4 := Lib.hid ((HQ.out.drew.grown HGR.out HLT.out).fill hb4 (show Row w4 X #[.int .i64 f, .int .i64 K, .int .u32 y0, .int .u32 y1, .int .u32 y2, .int .u32 y3, .int .i64 0, .int .u32 s0, .int .u32 0, .int .u32 0] 26 from hg4.out)); have x6 := HQ4.out.x.cell 6 _ rfl; have xf6 := HQ4.out.x.free 6))
            have hq := HQ4.out.setX 6 (.int .i64 1)
            clear H HLT HOW HXS HQ HL HQ4 HGR HSP x6 xf6 hg4 hb4
            obtain ⟨a_0, a_1, a_2, a_3, a_4, a_5, a_6, a_7, a_8, a_9, a_f⟩ := hq.q.q.a.ten
            obtain ⟨b_0, b_1, b_2, b_3, b_4, b_5, b_6, b_7, b_8, b_9, b_f⟩ := hq.q.q.b.ten
            obtain ⟨r_0, r_1, r_2, r_3, r_4, r_5, r_6, r_7, r_8, r_9, r_f⟩ := hq.q.q.r.ten
            obtain ⟨x_0, x_1, x_2, x_3, x_4, x_5, x_6, x_7, x_8, x_9, x_f⟩ := hq.x.ten
            have s_0 := hq.q.x.cell 0 _ rfl
            have s_f := hq.q.x.free
            rcases oo with _ | _
            · obtain ⟨y5, hs⟩ := hy.out rfl
              have eT : thP ⟨f, pk, a0, a1, a2, a3, pu, l0, l1, l2⟩ ⟨g, qk, c0, c1, c2, c3, ((0 : Nat) : Int), n0, n1, n2⟩ = ⟨f, K, y0, y1, y2, y3, ((1 : Nat) : Int) + ((0 : Nat) : Int), s0, 0, 0⟩ := thP_eq HE.out.1 HE.out.2.1 rfl y5 (by
                have h0 := hs 0 (by omega)
                simp [Pa.L] at h0
                refine L3mk _ ?_ ?_ ?_ <;> simp [Pa.L] <;> assumption)
              have hR := HR.out
              rw [if_neg (by decide), eT] at hR
              injection hR with h1 h2
              subst h1
              subst h2
              clear HR HE hy hs eT y5
              go_wp2
              refine bodyPost_ret (v := .tuple #[.agg #[.int .i64 f, .int .i64 K, .int .u32 y0, .int .u32 y1, .int .u32 y2, .int .u32 y3, .int .i64 1, .int .u32 s0, .int .u32 0, .int .u32 0], .int .i64 0]) (by simp [results, Try.results35, go_sem, *]) rfl ⟨rfl, ?_⟩
              exact ((((((((((hq.q.q.setR 0 _).setR 1 _).setR 2 _).setR 3 _).setR 4 _).setR 5 _).setR 6 _).setR 7 _).setR 8 _).setR 9 _).z
            · have hR := HR.out
              rw [if_pos rfl] at hR
              injection hR with h1 h2
              subst h1
              subst h2
              clear HR HE hy
              go_wp2
              refine bodyPost_ret (v := .tuple #[.agg #[.int .i64 0, .int .i64 0, .int .u32 0, .int .u32 0, .int .u32 0, .int .u32 0, .int .i64 0, .int .u32 0, .int .u32 0, .int .u32 0], .int .i64 9]) (by simp [results, Try.results35, go_sem, *]) rfl ⟨rfl, ?_⟩
              exact ((((((((((hq.q.q.setR 0 _).setR 1 _).setR 2 _).setR 3 _).setR 4 _).setR 5 _).setR 6 _).setR 7 _).setR 8 _).setR 9 _).z
          · have hlc : ∃ s0, sv = [s0] := by
              have hl := HL.out.out
              match sv, hl with
              | [s0], _ => exact ⟨_, rfl⟩
            obtain ⟨s0, rfl⟩ := hlc
            have H := Lib.hid (⟨⟨_, HQ.out.q.drew⟩, HQ.out.SX⟩ : E5 w A B R S X #[.int .i64 f, .int .i64 pk, .int .u32 a0, .int .u32 a1, .int .u32 a2, .int .u32 a3, .int .i64 pu, .int .u32 l0, .int .u32 l1, .int .u32 l2] #[.int .i64 g, .int .i64 qk, .int .u32 c0, .int .u32 c1, .int .u32 c2, .int .u32 c3, .int .i64 ((1 : Nat) : Int), .int .u32 n0, .int .u32 n1, .int .u32 n2] #[.int .i64 0, .int .i64 0, .int .u32 0, .int .u32 0, .int .u32 0, .int .u32 0, .int .i64 0, .int .u32 0, .int .u32 0, .int .u32 0] wr.drew).t
            clear a_0 a_1 a_2 a_3 a_4 a_5 a_6 a_7 a_8 a_9 a_f b_0 b_1 b_2 b_3 b_4 b_5 b_6 b_7 b_8 b_9 b_f r_0 r_1 r_2 r_3 r_4 r_5 r_6 r_7 r_8 r_9 r_f x_0 x_1 x_2 x_3 x_4 x_5 x_6 x_7 x_8 x_9 x_f s_0 s_f hq
            go_region_held3 (T5 w A B R S X f pk a0 a1 a2 a3 pu l0 l1 l2 g qk c0 c1 c2 c3 ((1 : Nat) : Int) n0 n1 n2  #[.int .i64 0, .int .i64 0, .int .u32 0, .int .u32 0, .int .u32 0, .int .u32 0, .int .i64 0, .int .u32 0, .int .u32 0, .int .u32 0]) (first | (with_reducible exact H.out) | (with_reducible assumption) | (with_reducible exact t5_setS _ _ ‹_›) | (with_reducible exact t5_alloc _ ‹_›) | (with_reducible exact t5_grown ‹World.grownBy _ _ _› HLT.out ‹_›) | (with_reducible exact t5_fill ‹Below _ _ _› ‹_›) | (with_reducible exact t5_setX _ _ ‹_›))
              (first
                | (refine step_append_own rfl (.tmp 85) (.tmp 89) 64 rfl (X + 1) 22 i0 (.int .u32 0) 1 4 Try.underlying64 hi hz0 hz1 hz2 rfl (by decide) u10 1 ([s0].map (Value.int .u32)) rfl HOW.out ⟨B, 7, none⟩ 1 3 [.int .u32 n0] rfl rfl (by intro j u hj; have ha := (HQ.out.q.q.b); rcases j with _ | _ <;> first | (cases hj; exact ha.cell _ _ rfl) | cases hj) (by intro u hu; simp at hu; rcases hu with rfl <;> rfl) (by decide) (by decide) HXS.out ?_; intro v' w1 hown1 hgrow1 _; obtain ⟨sp, cap, rfl, hsp⟩ := own_view hown1; have HSP := Lib.hid hsp; have HGR := Lib.hid hgrow1; clear hsp hown1)
                | (refine step_copy_splice rfl (.tmp 84) (.tmp 90) 64 64 rfl 22 Try.underlying64 (by kernel_rfl) (some ⟨X, 7, none⟩) sp 3 3 2 cap rfl rfl X 7 [.int .i64 f, .int .i64 K, .int .u32 y0, .int .u32 y1, .int .u32 y2, .int .u32 y3, .int .i64 0, .int .u32 0, .int .u32 0, .int .u32 0] 26 (HQ.out.drew.grown HGR.out HLT.out).x [.int .u32 s0, .int .u32 n0] rfl (fun _ => ⟨rfl, HSP.out (by decide)⟩) (by simp) (by intro u hu; simp at hu; rcases hu with rfl | rfl <;> rfl) X w1 (Below.refl _ _) (Nat.le_refl _) ?_; intro w4 hg4 hb4; have HQ4 := Lib.hid ((HQ.out.drew.grown HGR.out HLT.out).fill hb4 (show Row w4 X #[.int .i64 f, .int .i64 K, .int .u32 y0, .int .u32 y1, .int .u32 y2, .int .u32 y3, .int .i64 0, .int .u32 s0, .int .u32 n0, .int .u32 0] 26 from hg4.out)); have x6 := HQ4.out.x.cell 6 _ rfl; have xf6 := HQ4.out.x.free 6))
            have hq := HQ4.out.setX 6 (.int .i64 2)
            clear H HLT HOW HXS HQ HL HQ4 HGR HSP x6 xf6 hg4 hb4
            obtain ⟨a_0, a_1, a_2, a_3, a_4, a_5, a_6, a_7, a_8, a_9, a_f⟩ := hq.q.q.a.ten
            obtain ⟨b_0, b_1, b_2, b_3, b_4, b_5, b_6, b_7, b_8, b_9, b_f⟩ := hq.q.q.b.ten
            obtain ⟨r_0, r_1, r_2, r_3, r_4, r_5, r_6, r_7, r_8, r_9, r_f⟩ := hq.q.q.r.ten
            obtain ⟨x_0, x_1, x_2, x_3, x_4, x_5, x_6, x_7, x_8, x_9, x_f⟩ := hq.x.ten
            have s_0 := hq.q.x.cell 0 _ rfl
            have s_f := hq.q.x.free
            rcases oo with _ | _
            · obtain ⟨y5, hs⟩ := hy.out rfl
              have eT : thP ⟨f, pk, a0, a1, a2, a3, pu, l0, l1, l2⟩ ⟨g, qk, c0, c1, c2, c3, ((1 : Nat) : Int), n0, n1, n2⟩ = ⟨f, K, y0, y1, y2, y3, ((1 : Nat) : Int) + ((1 : Nat) : Int), s0, n0, 0⟩ := thP_eq HE.out.1 HE.out.2.1 rfl y5 (by
                have h0 := hs 0 (by omega)
                simp [Pa.L] at h0
                refine L3mk _ ?_ ?_ ?_ <;> simp [Pa.L] <;> assumption)
              have hR := HR.out
              rw [if_neg (by decide), eT] at hR
              injection hR with h1 h2
              subst h1
              subst h2
              clear HR HE hy hs eT y5
              go_wp2
              refine bodyPost_ret (v := .tuple #[.agg #[.int .i64 f, .int .i64 K, .int .u32 y0, .int .u32 y1, .int .u32 y2, .int .u32 y3, .int .i64 2, .int .u32 s0, .int .u32 n0, .int .u32 0], .int .i64 0]) (by simp [results, Try.results35, go_sem, *]) rfl ⟨rfl, ?_⟩
              exact ((((((((((hq.q.q.setR 0 _).setR 1 _).setR 2 _).setR 3 _).setR 4 _).setR 5 _).setR 6 _).setR 7 _).setR 8 _).setR 9 _).z
            · have hR := HR.out
              rw [if_pos rfl] at hR
              injection hR with h1 h2
              subst h1
              subst h2
              clear HR HE hy
              go_wp2
              refine bodyPost_ret (v := .tuple #[.agg #[.int .i64 0, .int .i64 0, .int .u32 0, .int .u32 0, .int .u32 0, .int .u32 0, .int .i64 0, .int .u32 0, .int .u32 0, .int .u32 0], .int .i64 9]) (by simp [results, Try.results35, go_sem, *]) rfl ⟨rfl, ?_⟩
              exact ((((((((((hq.q.q.setR 0 _).setR 1 _).setR 2 _).setR 3 _).setR 4 _).setR 5 _).setR 6 _).setR 7 _).setR 8 _).setR 9 _).z
          · have hlc : ∃ s0, sv = [s0] := by
              have hl := HL.out.out
              match sv, hl with
              | [s0], _ => exact ⟨_, rfl⟩
            obtain ⟨s0, rfl⟩ := hlc
            have H := Lib.hid (⟨⟨_, HQ.out.q.drew⟩, HQ.out.SX⟩ : E5 w A B R S X #[.int .i64 f, .int .i64 pk, .int .u32 a0, .int .u32 a1, .int .u32 a2, .int .u32 a3, .int .i64 pu, .int .u32 l0, .int .u32 l1, .int .u32 l2] #[.int .i64 g, .int .i64 qk, .int .u32 c0, .int .u32 c1, .int .u32 c2, .int .u32 c3, .int .i64 ((2 : Nat) : Int), .int .u32 n0, .int .u32 n1, .int .u32 n2] #[.int .i64 0, .int .i64 0, .int .u32 0, .int .u32 0, .int .u32 0, .int .u32 0, .int .i64 0, .int .u32 0, .int .u32 0, .int .u32 0] wr.drew).t
            clear a_0 a_1 a_2 a_3 a_4 a_5 a_6 a_7 a_8 a_9 a_f b_0 b_1 b_2 b_3 b_4 b_5 b_6 b_7 b_8 b_9 b_f r_0 r_1 r_2 r_3 r_4 r_5 r_6 r_7 r_8 r_9 r_f x_0 x_1 x_2 x_3 x_4 x_5 x_6 x_7 x_8 x_9 x_f s_0 s_f hq
            go_region_held3 (T5 w A B R S X f pk a0 a1 a2 a3 pu l0 l1 l2 g qk c0 c1 c2 c3 ((2 : Nat) : Int) n0 n1 n2  #[.int .i64 0, .int .i64 0, .int .u32 0, .int .u32 0, .int .u32 0, .int .u32 0, .int .i64 0, .int .u32 0, .int .u32 0, .int .u32 0]) (first | (with_reducible exact H.out) | (with_reducible assumption) | (with_reducible exact t5_setS _ _ ‹_›) | (with_reducible exact t5_alloc _ ‹_›) | (with_reducible exact t5_grown ‹World.grownBy _ _ _› HLT.out ‹_›) | (with_reducible exact t5_fill ‹Below _ _ _› ‹_›) | (with_reducible exact t5_setX _ _ ‹_›))
              (first
                | (refine step_append_own rfl (.tmp 85) (.tmp 89) 64 rfl (X + 1) 22 i0 (.int .u32 0) 1 4 Try.underlying64 hi hz0 hz1 hz2 rfl (by decide) u10 1 ([s0].map (Value.int .u32)) rfl HOW.out ⟨B, 7, none⟩ 2 3 [.int .u32 n0, .int .u32 n1] rfl rfl (by intro j u hj; have ha := (HQ.out.q.q.b); rcases j with _ | _ | _ <;> first | (cases hj; exact ha.cell _ _ rfl) | cases hj) (by intro u hu; simp at hu; rcases hu with rfl | rfl <;> rfl) (by decide) (by decide) HXS.out ?_; intro v' w1 hown1 hgrow1 _; obtain ⟨sp, cap, rfl, hsp⟩ := own_view hown1; have HSP := Lib.hid hsp; have HGR := Lib.hid hgrow1; clear hsp hown1)
                | (refine step_copy_splice rfl (.tmp 84) (.tmp 90) 64 64 rfl 22 Try.underlying64 (by kernel_rfl) (some ⟨X, 7, none⟩) sp 3 3 3 cap rfl rfl X 7 [.int .i64 f, .int .i64 K, .int .u32 y0, .int .u32 y1, .int .u32 y2, .int .u32 y3, .int .i64 0, .int .u32 0, .int .u32 0, .int .u32 0] 26 (HQ.out.drew.grown HGR.out HLT.out).x [.int .u32 s0, .int .u32 n0, .int .u32 n1] rfl (fun _ => ⟨rfl, HSP.out (by decide)⟩) (by simp) (by intro u hu; simp at hu; rcases hu with rfl | rfl | rfl <;> rfl) X w1 (Below.refl _ _) (Nat.le_refl _) ?_; intro w4 hg4 hb4; have HQ4 := Lib.hid ((HQ.out.drew.grown HGR.out HLT.out).fill hb4 (show Row w4 X #[.int .i64 f, .int .i64 K, .int .u32 y0, .int .u32 y1, .int .u32 y2, .int .u32 y3, .int .i64 0, .int .u32 s0, .int .u32 n0, .int .u32 n1] 26 from hg4.out)); have x6 := HQ4.out.x.cell 6 _ rfl; have xf6 := HQ4.out.x.free 6))
            have hq := HQ4.out.setX 6 (.int .i64 3)
            clear H HLT HOW HXS HQ HL HQ4 HGR HSP x6 xf6 hg4 hb4
            obtain ⟨a_0, a_1, a_2, a_3, a_4, a_5, a_6, a_7, a_8, a_9, a_f⟩ := hq.q.q.a.ten
            obtain ⟨b_0, b_1, b_2, b_3, b_4, b_5, b_6, b_7, b_8, b_9, b_f⟩ := hq.q.q.b.ten
            obtain ⟨r_0, r_1, r_2, r_3, r_4, r_5, r_6, r_7, r_8, r_9, r_f⟩ := hq.q.q.r.ten
            obtain ⟨x_0, x_1, x_2, x_3, x_4, x_5, x_6, x_7, x_8, x_9, x_f⟩ := hq.x.ten
            have s_0 := hq.q.x.cell 0 _ rfl
            have s_f := hq.q.x.free
            rcases oo with _ | _
            · obtain ⟨y5, hs⟩ := hy.out rfl
              have eT : thP ⟨f, pk, a0, a1, a2, a3, pu, l0, l1, l2⟩ ⟨g, qk, c0, c1, c2, c3, ((2 : Nat) : Int), n0, n1, n2⟩ = ⟨f, K, y0, y1, y2, y3, ((1 : Nat) : Int) + ((2 : Nat) : Int), s0, n0, n1⟩ := thP_eq HE.out.1 HE.out.2.1 rfl y5 (by
                have h0 := hs 0 (by omega)
                simp [Pa.L] at h0
                refine L3mk _ ?_ ?_ ?_ <;> simp [Pa.L] <;> assumption)
              have hR := HR.out
              rw [if_neg (by decide), eT] at hR
              injection hR with h1 h2
              subst h1
              subst h2
              clear HR HE hy hs eT y5
              go_wp2
              refine bodyPost_ret (v := .tuple #[.agg #[.int .i64 f, .int .i64 K, .int .u32 y0, .int .u32 y1, .int .u32 y2, .int .u32 y3, .int .i64 3, .int .u32 s0, .int .u32 n0, .int .u32 n1], .int .i64 0]) (by simp [results, Try.results35, go_sem, *]) rfl ⟨rfl, ?_⟩
              exact ((((((((((hq.q.q.setR 0 _).setR 1 _).setR 2 _).setR 3 _).setR 4 _).setR 5 _).setR 6 _).setR 7 _).setR 8 _).setR 9 _).z
            · have hR := HR.out
              rw [if_pos rfl] at hR
              injection hR with h1 h2
              subst h1
              subst h2
              clear HR HE hy
              go_wp2
              refine bodyPost_ret (v := .tuple #[.agg #[.int .i64 0, .int .i64 0, .int .u32 0, .int .u32 0, .int .u32 0, .int .u32 0, .int .i64 0, .int .u32 0, .int .u32 0, .int .u32 0], .int .i64 9]) (by simp [results, Try.results35, go_sem, *]) rfl ⟨rfl, ?_⟩
              exact ((((((((((hq.q.q.setR 0 _).setR 1 _).setR 2 _).setR 3 _).setR 4 _).setR 5 _).setR 6 _).setR 7 _).setR 8 _).setR 9 _).z
          · have hlc : ∃ s0 s1, sv = [s0, s1] := by
              have hl := HL.out.out
              match sv, hl with
              | [s0, s1], _ => exact ⟨_, _, rfl⟩
            obtain ⟨s0, s1, rfl⟩ := hlc
            have H := Lib.hid (⟨⟨_, HQ.out.q.drew⟩, HQ.out.SX⟩ : E5 w A B R S X #[.int .i64 f, .int .i64 pk, .int .u32 a0, .int .u32 a1, .int .u32 a2, .int .u32 a3, .int .i64 pu, .int .u32 l0, .int .u32 l1, .int .u32 l2] #[.int .i64 g, .int .i64 qk, .int .u32 c0, .int .u32 c1, .int .u32 c2, .int .u32 c3, .int .i64 ((0 : Nat) : Int), .int .u32 n0, .int .u32 n1, .int .u32 n2] #[.int .i64 0, .int .i64 0, .int .u32 0, .int .u32 0, .int .u32 0, .int .u32 0, .int .i64 0, .int .u32 0, .int .u32 0, .int .u32 0] wr.drew).t
            clear a_0 a_1 a_2 a_3 a_4 a_5 a_6 a_7 a_8 a_9 a_f b_0 b_1 b_2 b_3 b_4 b_5 b_6 b_7 b_8 b_9 b_f r_0 r_1 r_2 r_3 r_4 r_5 r_6 r_7 r_8 r_9 r_f x_0 x_1 x_2 x_3 x_4 x_5 x_6 x_7 x_8 x_9 x_f s_0 s_f hq
            go_region_held3 (T5 w A B R S X f pk a0 a1 a2 a3 pu l0 l1 l2 g qk c0 c1 c2 c3 ((0 : Nat) : Int) n0 n1 n2  #[.int .i64 0, .int .i64 0, .int .u32 0, .int .u32 0, .int .u32 0, .int .u32 0, .int .i64 0, .int .u32 0, .int .u32 0, .int .u32 0]) (first | (with_reducible exact H.out) | (with_reducible assumption) | (with_reducible exact t5_setS _ _ ‹_›) | (with_reducible exact t5_alloc _ ‹_›) | (with_reducible exact t5_grown ‹World.grownBy _ _ _› HLT.out ‹_›) | (with_reducible exact t5_fill ‹Below _ _ _› ‹_›) | (with_reducible exact t5_setX _ _ ‹_›))
              (first
                | (refine step_append_own rfl (.tmp 85) (.tmp 89) 64 rfl (X + 1) 22 i0 (.int .u32 0) 1 4 Try.underlying64 hi hz0 hz1 hz2 rfl (by decide) u10 2 ([s0, s1].map (Value.int .u32)) rfl HOW.out ⟨B, 7, none⟩ 0 3 [] rfl rfl (by intro j u hj; have ha := (HQ.out.q.q.b); rcases j with _ <;> first | (cases hj; exact ha.cell _ _ rfl) | cases hj) (by intro u hu; simp at hu; ) (by decide) (by decide) HXS.out ?_; intro v' w1 hown1 hgrow1 _; obtain ⟨sp, cap, rfl, hsp⟩ := own_view hown1; have HSP := Lib.hid hsp; have HGR := Lib.hid hgrow1; clear hsp hown1)
                | (refine step_copy_splice rfl (.tmp 84) (.tmp 90) 64 64 rfl 22 Try.underlying64 (by kernel_rfl) (some ⟨X, 7, none⟩) sp 3 3 2 cap rfl rfl X 7 [.int .i64 f, .int .i64 K, .int .u32 y0, .int .u32 y1, .int .u32 y2, .int .u32 y3, .int .i64 0, .int .u32 0, .int .u32 0, .int .u32 0] 26 (HQ.out.drew.grown HGR.out HLT.out).x [.int .u32 s0, .int .u32 s1] rfl (fun _ => ⟨rfl, HSP.out (by decide)⟩) (by simp) (by intro u hu; simp at hu; rcases hu with rfl | rfl <;> rfl) X w1 (Below.refl _ _) (Nat.le_refl _) ?_; intro w4 hg4 hb4; have HQ4 := Lib.hid ((HQ.out.drew.grown HGR.out HLT.out).fill hb4 (show Row w4 X #[.int .i64 f, .int .i64 K, .int .u32 y0, .int .u32 y1, .int .u32 y2, .int .u32 y3, .int .i64 0, .int .u32 s0, .int .u32 s1, .int .u32 0] 26 from hg4.out)); have x6 := HQ4.out.x.cell 6 _ rfl; have xf6 := HQ4.out.x.free 6))
            have hq := HQ4.out.setX 6 (.int .i64 2)
            clear H HLT HOW HXS HQ HL HQ4 HGR HSP x6 xf6 hg4 hb4
            obtain ⟨a_0, a_1, a_2, a_3, a_4, a_5, a_6, a_7, a_8, a_9, a_f⟩ := hq.q.q.a.ten
            obtain ⟨b_0, b_1, b_2, b_3, b_4, b_5, b_6, b_7, b_8, b_9, b_f⟩ := hq.q.q.b.ten
            obtain ⟨r_0, r_1, r_2, r_3, r_4, r_5, r_6, r_7, r_8, r_9, r_f⟩ := hq.q.q.r.ten
            obtain ⟨x_0, x_1, x_2, x_3, x_4, x_5, x_6, x_7, x_8, x_9, x_f⟩ := hq.x.ten
            have s_0 := hq.q.x.cell 0 _ rfl
            have s_f := hq.q.x.free
            rcases oo with _ | _
            · obtain ⟨y5, hs⟩ := hy.out rfl
              have eT : thP ⟨f, pk, a0, a1, a2, a3, pu, l0, l1, l2⟩ ⟨g, qk, c0, c1, c2, c3, ((0 : Nat) : Int), n0, n1, n2⟩ = ⟨f, K, y0, y1, y2, y3, ((2 : Nat) : Int) + ((0 : Nat) : Int), s0, s1, 0⟩ := thP_eq HE.out.1 HE.out.2.1 rfl y5 (by
                have h0 := hs 0 (by omega)
                have h1 := hs 1 (by omega)
                simp [Pa.L] at h0 h1
                refine L3mk _ ?_ ?_ ?_ <;> simp [Pa.L] <;> assumption)
              have hR := HR.out
              rw [if_neg (by decide), eT] at hR
              injection hR with h1 h2
              subst h1
              subst h2
              clear HR HE hy hs eT y5
              go_wp2
              refine bodyPost_ret (v := .tuple #[.agg #[.int .i64 f, .int .i64 K, .int .u32 y0, .int .u32 y1, .int .u32 y2, .int .u32 y3, .int .i64 2, .int .u32 s0, .int .u32 s1, .int .u32 0], .int .i64 0]) (by simp [results, Try.results35, go_sem, *]) rfl ⟨rfl, ?_⟩
              exact ((((((((((hq.q.q.setR 0 _).setR 1 _).setR 2 _).setR 3 _).setR 4 _).setR 5 _).setR 6 _).setR 7 _).setR 8 _).setR 9 _).z
            · have hR := HR.out
              rw [if_pos rfl] at hR
              injection hR with h1 h2
              subst h1
              subst h2
              clear HR HE hy
              go_wp2
              refine bodyPost_ret (v := .tuple #[.agg #[.int .i64 0, .int .i64 0, .int .u32 0, .int .u32 0, .int .u32 0, .int .u32 0, .int .i64 0, .int .u32 0, .int .u32 0, .int .u32 0], .int .i64 9]) (by simp [results, Try.results35, go_sem, *]) rfl ⟨rfl, ?_⟩
              exact ((((((((((hq.q.q.setR 0 _).setR 1 _).setR 2 _).setR 3 _).setR 4 _).setR 5 _).setR 6 _).setR 7 _).setR 8 _).setR 9 _).z
          · have hlc : ∃ s0 s1, sv = [s0, s1] := by
              have hl := HL.out.out
              match sv, hl with
              | [s0, s1], _ => exact ⟨_, _, rfl⟩
            obtain ⟨s0, s1, rfl⟩ := hlc
            have H := Lib.hid (⟨⟨_, HQ.out.q.drew⟩, HQ.out.SX⟩ : E5 w A B R S X #[.int .i64 f, .int .i64 pk, .int .u32 a0, .int .u32 a1, .int .u32 a2, .int .u32 a3, .int .i64 pu, .int .u32 l0, .int .u32 l1, .int .u32 l2] #[.int .i64 g, .int .i64 qk, .int .u32 c0, .int .u32 c1, .int .u32 c2, .int .u32 c3, .int .i64 ((1 : Nat) : Int), .int .u32 n0, .int .u32 n1, .int .u32 n2] #[.int .i64 0, .int .i64 0, .int .u32 0, .int .u32 0, .int .u32 0, .int .u32 0, .int .i64 0, .int .u32 0, .int .u32 0, .int .u32 0] wr.drew).t
            clear a_0 a_1 a_2 a_3 a_4 a_5 a_6 a_7 a_8 a_9 a_f b_0 b_1 b_2 b_3 b_4 b_5 b_6 b_7 b_8 b_9 b_f r_0 r_1 r_2 r_3 r_4 r_5 r_6 r_7 r_8 r_9 r_f x_0 x_1 x_2 x_3 x_4 x_5 x_6 x_7 x_8 x_9 x_f s_0 s_f hq
            go_region_held3 (T5 w A B R S X f pk a0 a1 a2 a3 pu l0 l1 l2 g qk c0 c1 c2 c3 ((1 : Nat) : Int) n0 n1 n2  #[.int .i64 0, .int .i64 0, .int .u32 0, .int .u32 0, .int .u32 0, .int .u32 0, .int .i64 0, .int .u32 0, .int .u32 0, .int .u32 0]) (first | (with_reducible exact H.out) | (with_reducible assumption) | (with_reducible exact t5_setS _ _ ‹_›) | (with_reducible exact t5_alloc _ ‹_›) | (with_reducible exact t5_grown ‹World.grownBy _ _ _› HLT.out ‹_›) | (with_reducible exact t5_fill ‹Below _ _ _› ‹_›) | (with_reducible exact t5_setX _ _ ‹_›))
              (first
                | (refine step_append_own rfl (.tmp 85) (.tmp 89) 64 rfl (X + 1) 22 i0 (.int .u32 0) 1 4 Try.underlying64 hi hz0 hz1 hz2 rfl (by decide) u10 2 ([s0, s1].map (Value.int .u32)) rfl HOW.out ⟨B, 7, none⟩ 1 3 [.int .u32 n0] rfl rfl (by intro j u hj; have ha := (HQ.out.q.q.b); rcases j with _ | _ <;> first | (cases hj; exact ha.cell _ _ rfl) | cases hj) (by intro u hu; simp at hu; rcases hu with rfl <;> rfl) (by decide) (by decide) HXS.out ?_; intro v' w1 hown1 hgrow1 _; obtain ⟨sp, cap, rfl, hsp⟩ := own_view hown1; have HSP := Lib.hid hsp; have HGR := Lib.hid hgrow1; clear hsp hown1)
                | (refine step_copy_splice rfl (.tmp 84) (.tmp 90) 64 64 rfl 22 Try.underlying64 (by kernel_rfl) (some ⟨X, 7, none⟩) sp 3 3 3 cap rfl rfl X 7 [.int .i64 f, .int .i64 K, .int .u32 y0, .int .u32 y1, .int .u32 y2, .int .u32 y3, .int .i64 0, .int .u32 0, .int .u32 0, .int .u32 0] 26 (HQ.out.drew.grown HGR.out HLT.out).x [.int .u32 s0, .int .u32 s1, .int .u32 n0] rfl (fun _ => ⟨rfl, HSP.out (by decide)⟩) (by simp) (by intro u hu; simp at hu; rcases hu with rfl | rfl | rfl <;> rfl) X w1 (Below.refl _ _) (Nat.le_refl _) ?_; intro w4 hg4 hb4; have HQ4 := Lib.hid ((HQ.out.drew.grown HGR.out HLT.out).fill hb4 (show Row w4 X #[.int .i64 f, .int .i64 K, .int .u32 y0, .int .u32 y1, .int .u32 y2, .int .u32 y3, .int .i64 0, .int .u32 s0, .int .u32 s1, .int .u32 n0] 26 from hg4.out)); have x6 := HQ4.out.x.cell 6 _ rfl; have xf6 := HQ4.out.x.free 6))
            have hq := HQ4.out.setX 6 (.int .i64 3)
            clear H HLT HOW HXS HQ HL HQ4 HGR HSP x6 xf6 hg4 hb4
            obtain ⟨a_0, a_1, a_2, a_3, a_4, a_5, a_6, a_7, a_8, a_9, a_f⟩ := hq.q.q.a.ten
            obtain ⟨b_0, b_1, b_2, b_3, b_4, b_5, b_6, b_7, b_8, b_9, b_f⟩ := hq.q.q.b.ten
            obtain ⟨r_0, r_1, r_2, r_3, r_4, r_5, r_6, r_7, r_8, r_9, r_f⟩ := hq.q.q.r.ten
            obtain ⟨x_0, x_1, x_2, x_3, x_4, x_5, x_6, x_7, x_8, x_9, x_f⟩ := hq.x.ten
            have s_0 := hq.q.x.cell 0 _ rfl
            have s_f := hq.q.x.free
            rcases oo with _ | _
            · obtain ⟨y5, hs⟩ := hy.out rfl
              have eT : thP ⟨f, pk, a0, a1, a2, a3, pu, l0, l1, l2⟩ ⟨g, qk, c0, c1, c2, c3, ((1 : Nat) : Int), n0, n1, n2⟩ = ⟨f, K, y0, y1, y2, y3, ((2 : Nat) : Int) + ((1 : Nat) : Int), s0, s1, n0⟩ := thP_eq HE.out.1 HE.out.2.1 rfl y5 (by
                have h0 := hs 0 (by omega)
                have h1 := hs 1 (by omega)
                simp [Pa.L] at h0 h1
                refine L3mk _ ?_ ?_ ?_ <;> simp [Pa.L] <;> assumption)
              have hR := HR.out
              rw [if_neg (by decide), eT] at hR
              injection hR with h1 h2
              subst h1
              subst h2
              clear HR HE hy hs eT y5
              go_wp2
              refine bodyPost_ret (v := .tuple #[.agg #[.int .i64 f, .int .i64 K, .int .u32 y0, .int .u32 y1, .int .u32 y2, .int .u32 y3, .int .i64 3, .int .u32 s0, .int .u32 s1, .int .u32 n0], .int .i64 0]) (by simp [results, Try.results35, go_sem, *]) rfl ⟨rfl, ?_⟩
              exact ((((((((((hq.q.q.setR 0 _).setR 1 _).setR 2 _).setR 3 _).setR 4 _).setR 5 _).setR 6 _).setR 7 _).setR 8 _).setR 9 _).z
            · have hR := HR.out
              rw [if_pos rfl] at hR
              injection hR with h1 h2
              subst h1
              subst h2
              clear HR HE hy
              go_wp2
              refine bodyPost_ret (v := .tuple #[.agg #[.int .i64 0, .int .i64 0, .int .u32 0, .int .u32 0, .int .u32 0, .int .u32 0, .int .i64 0, .int .u32 0, .int .u32 0, .int .u32 0], .int .i64 9]) (by simp [results, Try.results35, go_sem, *]) rfl ⟨rfl, ?_⟩
              exact ((((((((((hq.q.q.setR 0 _).setR 1 _).setR 2 _).setR 3 _).setR 4 _).setR 5 _).setR 6 _).setR 7 _).setR 8 _).setR 9 _).z
          · have hlc : ∃ s0 s1 s2, sv = [s0, s1, s2] := by
              have hl := HL.out.out
              match sv, hl with
              | [s0, s1, s2], _ => exact ⟨_, _, _, rfl⟩
            obtain ⟨s0, s1, s2, rfl⟩ := hlc
            have H := Lib.hid (⟨⟨_, HQ.out.q.drew⟩, HQ.out.SX⟩ : E5 w A B R S X #[.int .i64 f, .int .i64 pk, .int .u32 a0, .int .u32 a1, .int .u32 a2, .int .u32 a3, .int .i64 pu, .int .u32 l0, .int .u32 l1, .int .u32 l2] #[.int .i64 g, .int .i64 qk, .int .u32 c0, .int .u32 c1, .int .u32 c2, .int .u32 c3, .int .i64 ((0 : Nat) : Int), .int .u32 n0, .int .u32 n1, .int .u32 n2] #[.int .i64 0, .int .i64 0, .int .u32 0, .int .u32 0, .int .u32 0, .int .u32 0, .int .i64 0, .int .u32 0, .int .u32 0, .int .u32 0] wr.drew).t
            clear a_0 a_1 a_2 a_3 a_4 a_5 a_6 a_7 a_8 a_9 a_f b_0 b_1 b_2 b_3 b_4 b_5 b_6 b_7 b_8 b_9 b_f r_0 r_1 r_2 r_3 r_4 r_5 r_6 r_7 r_8 r_9 r_f x_0 x_1 x_2 x_3 x_4 x_5 x_6 x_7 x_8 x_9 x_f s_0 s_f hq
            go_region_held3 (T5 w A B R S X f pk a0 a1 a2 a3 pu l0 l1 l2 g qk c0 c1 c2 c3 ((0 : Nat) : Int) n0 n1 n2  #[.int .i64 0, .int .i64 0, .int .u32 0, .int .u32 0, .int .u32 0, .int .u32 0, .int .i64 0, .int .u32 0, .int .u32 0, .int .u32 0]) (first | (with_reducible exact H.out) | (with_reducible assumption) | (with_reducible exact t5_setS _ _ ‹_›) | (with_reducible exact t5_alloc _ ‹_›) | (with_reducible exact t5_grown ‹World.grownBy _ _ _› HLT.out ‹_›) | (with_reducible exact t5_fill ‹Below _ _ _› ‹_›) | (with_reducible exact t5_setX _ _ ‹_›))
              (first
                | (refine step_append_own rfl (.tmp 85) (.tmp 89) 64 rfl (X + 1) 22 i0 (.int .u32 0) 1 4 Try.underlying64 hi hz0 hz1 hz2 rfl (by decide) u10 3 ([s0, s1, s2].map (Value.int .u32)) rfl HOW.out ⟨B, 7, none⟩ 0 3 [] rfl rfl (by intro j u hj; have ha := (HQ.out.q.q.b); rcases j with _ <;> first | (cases hj; exact ha.cell _ _ rfl) | cases hj) (by intro u hu; simp at hu; ) (by decide) (by decide) HXS.out ?_; intro v' w1 hown1 hgrow1 _; obtain ⟨sp, cap, rfl, hsp⟩ := own_view hown1; have HSP := Lib.hid hsp; have HGR := Lib.hid hgrow1; clear hsp hown1)
                | (refine step_copy_splice rfl (.tmp 84) (.tmp 90) 64 64 rfl 22 Try.underlying64 (by kernel_rfl) (some ⟨X, 7, none⟩) sp 3 3 3 cap rfl rfl X 7 [.int .i64 f, .int .i64 K, .int .u32 y0, .int .u32 y1, .int .u32 y2, .int .u32 y3, .int .i64 0, .int .u32 0, .int .u32 0, .int .u32 0] 26 (HQ.out.drew.grown HGR.out HLT.out).x [.int .u32 s0, .int .u32 s1, .int .u32 s2] rfl (fun _ => ⟨rfl, HSP.out (by decide)⟩) (by simp) (by intro u hu; simp at hu; rcases hu with rfl | rfl | rfl <;> rfl) X w1 (Below.refl _ _) (Nat.le_refl _) ?_; intro w4 hg4 hb4; have HQ4 := Lib.hid ((HQ.out.drew.grown HGR.out HLT.out).fill hb4 (show Row w4 X #[.int .i64 f, .int .i64 K, .int .u32 y0, .int .u32 y1, .int .u32 y2, .int .u32 y3, .int .i64 0, .int .u32 s0, .int .u32 s1, .int .u32 s2] 26 from hg4.out)); have x6 := HQ4.out.x.cell 6 _ rfl; have xf6 := HQ4.out.x.free 6))
            have hq := HQ4.out.setX 6 (.int .i64 3)
            clear H HLT HOW HXS HQ HL HQ4 HGR HSP x6 xf6 hg4 hb4
            obtain ⟨a_0, a_1, a_2, a_3, a_4, a_5, a_6, a_7, a_8, a_9, a_f⟩ := hq.q.q.a.ten
            obtain ⟨b_0, b_1, b_2, b_3, b_4, b_5, b_6, b_7, b_8, b_9, b_f⟩ := hq.q.q.b.ten
            obtain ⟨r_0, r_1, r_2, r_3, r_4, r_5, r_6, r_7, r_8, r_9, r_f⟩ := hq.q.q.r.ten
            obtain ⟨x_0, x_1, x_2, x_3, x_4, x_5, x_6, x_7, x_8, x_9, x_f⟩ := hq.x.ten
            have s_0 := hq.q.x.cell 0 _ rfl
            have s_f := hq.q.x.free
            rcases oo with _ | _
            · obtain ⟨y5, hs⟩ := hy.out rfl
              have eT : thP ⟨f, pk, a0, a1, a2, a3, pu, l0, l1, l2⟩ ⟨g, qk, c0, c1, c2, c3, ((0 : Nat) : Int), n0, n1, n2⟩ = ⟨f, K, y0, y1, y2, y3, ((3 : Nat) : Int) + ((0 : Nat) : Int), s0, s1, s2⟩ := thP_eq HE.out.1 HE.out.2.1 rfl y5 (by
                have h0 := hs 0 (by omega)
                have h1 := hs 1 (by omega)
                have h2 := hs 2 (by omega)
                simp [Pa.L] at h0 h1 h2
                refine L3mk _ ?_ ?_ ?_ <;> simp [Pa.L] <;> assumption)
              have hR := HR.out
              rw [if_neg (by decide), eT] at hR
              injection hR with h1 h2
              subst h1
              subst h2
              clear HR HE hy hs eT y5
              go_wp2
              refine bodyPost_ret (v := .tuple #[.agg #[.int .i64 f, .int .i64 K, .int .u32 y0, .int .u32 y1, .int .u32 y2, .int .u32 y3, .int .i64 3, .int .u32 s0, .int .u32 s1, .int .u32 s2], .int .i64 0]) (by simp [results, Try.results35, go_sem, *]) rfl ⟨rfl, ?_⟩
              exact ((((((((((hq.q.q.setR 0 _).setR 1 _).setR 2 _).setR 3 _).setR 4 _).setR 5 _).setR 6 _).setR 7 _).setR 8 _).setR 9 _).z
            · have hR := HR.out
              rw [if_pos rfl] at hR
              injection hR with h1 h2
              subst h1
              subst h2
              clear HR HE hy
              go_wp2
              refine bodyPost_ret (v := .tuple #[.agg #[.int .i64 0, .int .i64 0, .int .u32 0, .int .u32 0, .int .u32 0, .int .u32 0, .int .i64 0, .int .u32 0, .int .u32 0, .int .u32 0], .int .i64 9]) (by simp [results, Try.results35, go_sem, *]) rfl ⟨rfl, ?_⟩
              exact ((((((((((hq.q.q.setR 0 _).setR 1 _).setR 2 _).setR 3 _).setR 4 _).setR 5 _).setR 6 _).setR 7 _).setR 8 _).setR 9 _).z
theorem then_all (f pk a0 a1 a2 a3 pu l0 l1 l2 g qk c0 c1 c2 c3 qu n0 n1 n2 : Int) (w : World) (okp : PaOk ⟨f, pk, a0, a1, a2, a3, pu, l0, l1, l2⟩) (okq : PaOk ⟨g, qk, c0, c1, c2, c3, qu, n0, n1, n2⟩) (x : Pa) (c : Int) (hx : thenR ⟨f, pk, a0, a1, a2, a3, pu, l0, l1, l2⟩ ⟨g, qk, c0, c1, c2, c3, qu, n0, n1, n2⟩ = (x, c)) : Calls Try.prog 35 #[.agg #[.int .i64 f, .int .i64 pk, .int .u32 a0, .int .u32 a1, .int .u32 a2, .int .u32 a3, .int .i64 pu, .int .u32 l0, .int .u32 l1, .int .u32 l2], .agg #[.int .i64 g, .int .i64 qk, .int .u32 c0, .int .u32 c1, .int .u32 c2, .int .u32 c3, .int .i64 qu, .int .u32 n0, .int .u32 n1, .int .u32 n2]] w fun e' w' => e' = .returned (.tuple #[.agg #[.int .i64 x.f, .int .i64 x.k, .int .u32 x.a0, .int .u32 x.a1, .int .u32 x.a2, .int .u32 x.a3, .int .i64 x.u, .int .u32 x.l0, .int .u32 x.l1, .int .u32 x.l2], .int .i64 c]) ∧ Below w.heap.size w w' := by
  have hR := hx
  unfold thenR at hR
  by_cases hp : chk ⟨f, pk, a0, a1, a2, a3, pu, l0, l1, l2⟩ = 0
  · rw [if_neg (fun h => h hp)] at hR
    by_cases hq : chk ⟨g, qk, c0, c1, c2, c3, qu, n0, n1, n2⟩ = 0
    · rw [if_neg (fun h => h hq)] at hR
      by_cases hd : toR ⟨f, pk, a0, a1, a2, a3, pu, l0, l1, l2⟩ = g
      · have g1 := good_iff.1 hp
        have g2 := good_iff.1 hq
        have hg : pk + pu = g := g1.to.symm.trans hd
        obtain ⟨pk, rfl⟩ := Int.eq_ofNat_of_zero_le g1.k0
        obtain ⟨pu, rfl⟩ := Int.eq_ofNat_of_zero_le g1.u0
        obtain ⟨qk, rfl⟩ := Int.eq_ofNat_of_zero_le g2.k0
        obtain ⟨qu, rfl⟩ := Int.eq_ofNat_of_zero_le g2.u0
        exact then_d f a0 a1 a2 a3 l0 l1 l2 g c0 c1 c2 c3 n0 n1 n2 pk pu qk qu w hg hp hq okp okq x c hx
      · rw [if_pos hd] at hR
        injection hR with h1 h2
        subst h1
        subst h2
        exact then_c f pk a0 a1 a2 a3 pu l0 l1 l2 g qk c0 c1 c2 c3 qu n0 n1 n2 w _ hp hq rfl hd
    · rw [if_pos hq] at hR
      injection hR with h1 h2
      subst h1
      have h0 : c ≠ 0 := by rw [← h2]; exact hq
      exact then_a f pk a0 a1 a2 a3 pu l0 l1 l2 g qk c0 c1 c2 c3 qu n0 n1 n2 w 0 c c hp h2 (by simp [orL]; exact fun h => h.symm) h0
  · rw [if_pos hp] at hR
    injection hR with h1 h2
    subst h1
    have h0 : c ≠ 0 := by rw [← h2]; exact hp
    exact then_a f pk a0 a1 a2 a3 pu l0 l1 l2 g qk c0 c1 c2 c3 qu n0 n1 n2 w c _ c h2 rfl (by simp [orL, h0]) h0
end Go.Proofs.Ytfmnbkcjibhloaa
