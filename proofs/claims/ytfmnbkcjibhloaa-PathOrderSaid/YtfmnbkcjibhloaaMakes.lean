/- PathMakes: the five ways of any depth are the same in the program and in the reference; no condition. THE WALK. -/
import Derived.Test.YtfmnbkcjibhloaaWays2
namespace Go.Proofs.Ytfmnbkcjibhloaa
open Go.RowKit
set_option linter.unusedVariables false
set_option linter.unusedSimpArgs false

theorem eqA4 (a0 a1 a2 a3 b0 b1 b2 b3 : Int) (w : World) : (Op.equalIn 9999 23 (.agg #[.int .u32 a0, .int .u32 a1, .int .u32 a2, .int .u32 a3]) (.agg #[.int .u32 b0, .int .u32 b1, .int .u32 b2, .int .u32 b3])).run Try.prog w = .ok (a0 == b0 && (a1 == b1 && (a2 == b2 && a3 == b3))) w := by
  have u3 := Try.underlying22
  have g3 := Try.isAgg22
  have z3 := Try.sizeOf22
  rw [show (9999 : Nat) = 9998 + 1 from rfl, Op.equalIn]
  simp only [Sem.run_bind, run_underlying Try.underlying23, Result.andThen_ok]
  simp only [Std.Legacy.Range.forIn_eq_forIn_range', Std.Legacy.Range.size, Nat.sub_zero, Nat.add_sub_cancel, Nat.div_one, List.range'_succ, List.range'_zero, List.forIn_cons, List.forIn_nil]
  go_simp
  by_cases h1 : a0 = b0 <;> by_cases h2 : a1 = b1 <;> by_cases h3 : a2 = b2 <;> by_cases h4 : a3 = b3 <;> simp [h1, h2, h3, h4]
theorem eqA3 (a0 a1 a2 b0 b1 b2 : Int) (w : World) : (Op.equalIn 9999 24 (.agg #[.int .u32 a0, .int .u32 a1, .int .u32 a2]) (.agg #[.int .u32 b0, .int .u32 b1, .int .u32 b2])).run Try.prog w = .ok (a0 == b0 && (a1 == b1 && a2 == b2)) w := by
  have u3 := Try.underlying22
  have g3 := Try.isAgg22
  have z3 := Try.sizeOf22
  rw [show (9999 : Nat) = 9998 + 1 from rfl, Op.equalIn]
  simp only [Sem.run_bind, run_underlying Try.underlying24, Result.andThen_ok]
  simp only [Std.Legacy.Range.forIn_eq_forIn_range', Std.Legacy.Range.size, Nat.sub_zero, Nat.add_sub_cancel, Nat.div_one, List.range'_succ, List.range'_zero, List.forIn_cons, List.forIn_nil]
  go_simp
  by_cases h1 : a0 = b0 <;> by_cases h2 : a1 = b1 <;> by_cases h3 : a2 = b2 <;> simp [h1, h2, h3]
attribute [local go_sem] eqA4 eqA3
theorem from_any (f k a0 a1 a2 a3 u l0 l1 l2 : Int) (w : World) :
    Calls Try.prog 13 #[.agg #[.int .i64 f, .int .i64 k, .int .u32 a0, .int .u32 a1, .int .u32 a2, .int .u32 a3, .int .i64 u, .int .u32 l0, .int .u32 l1, .int .u32 l2]] w fun e w' => e = .returned (.agg #[.int .i64 f, .int .i64 k, .int .u32 a0, .int .u32 a1, .int .u32 a2, .int .u32 a3, .int .i64 u, .int .u32 l0, .int .u32 l1, .int .u32 l2]) ∧ Below w.heap.size w w' := by
  go_enter Try.func13, Try.ntmps13
  go_wp2
  refine bodyPost_ret (v := .agg #[.int .i64 f, .int .i64 k, .int .u32 a0, .int .u32 a1, .int .u32 a2, .int .u32 a3, .int .i64 u, .int .u32 l0, .int .u32 l1, .int .u32 l2]) (by simp [results, Try.results13, go_sem]) rfl ⟨rfl, ?_⟩
  repeat (first | exact Below.refl _ _ | refine Below.alloc ?_ (by simp) _)

/-- The cells of a way at a block. -/
abbrev At (b : Nat) (f k a0 a1 a2 a3 u l0 l1 l2 : Int) (w : World) : Prop :=
  w.cell? ⟨b, 0, none⟩ = some (.int .i64 f) ∧ w.cell? ⟨b, 1, none⟩ = some (.int .i64 k) ∧ w.cell? ⟨b, 2, none⟩ = some (.int .u32 a0) ∧ w.cell? ⟨b, 3, none⟩ = some (.int .u32 a1) ∧ w.cell? ⟨b, 4, none⟩ = some (.int .u32 a2) ∧ w.cell? ⟨b, 5, none⟩ = some (.int .u32 a3) ∧ w.cell? ⟨b, 6, none⟩ = some (.int .i64 u) ∧ w.cell? ⟨b, 7, none⟩ = some (.int .u32 l0) ∧ w.cell? ⟨b, 8, none⟩ = some (.int .u32 l1) ∧ w.cell? ⟨b, 9, none⟩ = some (.int .u32 l2) ∧ ∀ i, w.frozen? ⟨b, i, none⟩ = false
theorem Row.at {w : World} {b T : Nat} {f k a0 a1 a2 a3 u l0 l1 l2 : Int} (h : Row w b #[.int .i64 f, .int .i64 k, .int .u32 a0, .int .u32 a1, .int .u32 a2, .int .u32 a3, .int .i64 u, .int .u32 l0, .int .u32 l1, .int .u32 l2] T) : At b f k a0 a1 a2 a3 u l0 l1 l2 w := h.ten
/-- Both blocks, whole; old memory as it was. -/
def Both (A B : Nat) (fx kx a0x a1x a2x a3x ux l0x l1x l2x fy ky a0y a1y a2y a3y uy l0y l1y l2y : Int) (w0 w : World) : Prop := Row w A #[.int .i64 fx, .int .i64 kx, .int .u32 a0x, .int .u32 a1x, .int .u32 a2x, .int .u32 a3x, .int .i64 ux, .int .u32 l0x, .int .u32 l1x, .int .u32 l2x] 26 ∧ Row w B #[.int .i64 fy, .int .i64 ky, .int .u32 a0y, .int .u32 a1y, .int .u32 a2y, .int .u32 a3y, .int .i64 uy, .int .u32 l0y, .int .u32 l1y, .int .u32 l2y] 30 ∧ w0.heap.size ≤ A ∧ w0.heap.size ≤ B ∧ A ≠ B ∧ Below w0.heap.size w0 w
abbrev Two (A B : Nat) (fx kx a0x a1x a2x a3x ux l0x l1x l2x fy ky a0y a1y a2y a3y uy l0y l1y l2y : Int) (w0 w : World) : Prop := Both A B fx kx a0x a1x a2x a3x ux l0x l1x l2x fy ky a0y a1y a2y a3y uy l0y l1y l2y w0 w ∧ At A fx kx a0x a1x a2x a3x ux l0x l1x l2x w ∧ At B fy ky a0y a1y a2y a3y uy l0y l1y l2y w
theorem Both.two {A B : Nat} {fx kx a0x a1x a2x a3x ux l0x l1x l2x fy ky a0y a1y a2y a3y uy l0y l1y l2y : Int} {w0 w : World} (h : Both A B fx kx a0x a1x a2x a3x ux l0x l1x l2x fy ky a0y a1y a2y a3y uy l0y l1y l2y w0 w) : Two A B fx kx a0x a1x a2x a3x ux l0x l1x l2x fy ky a0y a1y a2y a3y uy l0y l1y l2y w0 w := ⟨h, h.1.at, h.2.1.at⟩
theorem Both.below {A B : Nat} {fx kx a0x a1x a2x a3x ux l0x l1x l2x fy ky a0y a1y a2y a3y uy l0y l1y l2y : Int} {w0 w w' : World} (h : Both A B fx kx a0x a1x a2x a3x ux l0x l1x l2x fy ky a0y a1y a2y a3y uy l0y l1y l2y w0 w) (hb : Below w.heap.size w w') : Both A B fx kx a0x a1x a2x a3x ux l0x l1x l2x fy ky a0y a1y a2y a3y uy l0y l1y l2y w0 w' :=
  ⟨h.1.below hb, h.2.1.below hb, h.2.2.1, h.2.2.2.1, h.2.2.2.2.1, below_of h.2.2.2.2.2 hb⟩
theorem Both.drew {A B : Nat} {fx kx a0x a1x a2x a3x ux l0x l1x l2x fy ky a0y a1y a2y a3y uy l0y l1y l2y : Int} {w0 w : World} (h : Both A B fx kx a0x a1x a2x a3x ux l0x l1x l2x fy ky a0y a1y a2y a3y uy l0y l1y l2y w0 w) : Both A B fx kx a0x a1x a2x a3x ux l0x l1x l2x fy ky a0y a1y a2y a3y uy l0y l1y l2y w0 w.drew := ⟨h.1, h.2.1, h.2.2.1, h.2.2.2.1, h.2.2.2.2.1, h.2.2.2.2.2.drew⟩
theorem two_below {A B : Nat} {fx kx a0x a1x a2x a3x ux l0x l1x l2x fy ky a0y a1y a2y a3y uy l0y l1y l2y : Int} {w0 w w' : World} (hb : Below w.heap.size w w') (h : Two A B fx kx a0x a1x a2x a3x ux l0x l1x l2x fy ky a0y a1y a2y a3y uy l0y l1y l2y w0 w) : Two A B fx kx a0x a1x a2x a3x ux l0x l1x l2x fy ky a0y a1y a2y a3y uy l0y l1y l2y w0 w' := (h.1.below hb).two
theorem Both.storeA {A B : Nat} {fx kx a0x a1x a2x a3x ux l0x l1x l2x fy ky a0y a1y a2y a3y uy l0y l1y l2y : Int} {w0 w : World} (h : Both A B fx kx a0x a1x a2x a3x ux l0x l1x l2x fy ky a0y a1y a2y a3y uy l0y l1y l2y w0 w) (fz kz a0z a1z a2z a3z uz l0z l1z l2z : Int) : Both A B fz kz a0z a1z a2z a3z uz l0z l1z l2z fy ky a0y a1y a2y a3y uy l0y l1y l2y w0 ((((((((((w.setCell ⟨A, 0, none⟩ (.int .i64 fz)).setCell ⟨A, 1, none⟩ (.int .i64 kz)).setCell ⟨A, 2, none⟩ (.int .u32 a0z)).setCell ⟨A, 3, none⟩ (.int .u32 a1z)).setCell ⟨A, 4, none⟩ (.int .u32 a2z)).setCell ⟨A, 5, none⟩ (.int .u32 a3z)).setCell ⟨A, 6, none⟩ (.int .i64 uz)).setCell ⟨A, 7, none⟩ (.int .u32 l0z)).setCell ⟨A, 8, none⟩ (.int .u32 l1z)).setCell ⟨A, 9, none⟩ (.int .u32 l2z)) :=
  ⟨by simpa only [List.setIfInBounds_toArray, List.set_cons_zero, List.set_cons_succ] using ((((((((((h.1.set 0 (.int .i64 fz)).set 1 (.int .i64 kz)).set 2 (.int .u32 a0z)).set 3 (.int .u32 a1z)).set 4 (.int .u32 a2z)).set 5 (.int .u32 a3z)).set 6 (.int .i64 uz)).set 7 (.int .u32 l0z)).set 8 (.int .u32 l1z)).set 9 (.int .u32 l2z)), ((((((((((h.2.1.setOther A 0 h.2.2.2.2.1 (.int .i64 fz)).setOther A 1 h.2.2.2.2.1 (.int .i64 kz)).setOther A 2 h.2.2.2.2.1 (.int .u32 a0z)).setOther A 3 h.2.2.2.2.1 (.int .u32 a1z)).setOther A 4 h.2.2.2.2.1 (.int .u32 a2z)).setOther A 5 h.2.2.2.2.1 (.int .u32 a3z)).setOther A 6 h.2.2.2.2.1 (.int .i64 uz)).setOther A 7 h.2.2.2.2.1 (.int .u32 l0z)).setOther A 8 h.2.2.2.2.1 (.int .u32 l1z)).setOther A 9 h.2.2.2.2.1 (.int .u32 l2z)), h.2.2.1, h.2.2.2.1, h.2.2.2.2.1, (below_set (below_set (below_set (below_set (below_set (below_set (below_set (below_set (below_set (below_set h.2.2.2.2.2 A 0 h.2.2.1 (.int .i64 fz)) A 1 h.2.2.1 (.int .i64 kz)) A 2 h.2.2.1 (.int .u32 a0z)) A 3 h.2.2.1 (.int .u32 a1z)) A 4 h.2.2.1 (.int .u32 a2z)) A 5 h.2.2.1 (.int .u32 a3z)) A 6 h.2.2.1 (.int .i64 uz)) A 7 h.2.2.1 (.int .u32 l0z)) A 8 h.2.2.1 (.int .u32 l1z)) A 9 h.2.2.1 (.int .u32 l2z))⟩
theorem Both.storeB {A B : Nat} {fx kx a0x a1x a2x a3x ux l0x l1x l2x fy ky a0y a1y a2y a3y uy l0y l1y l2y : Int} {w0 w : World} (h : Both A B fx kx a0x a1x a2x a3x ux l0x l1x l2x fy ky a0y a1y a2y a3y uy l0y l1y l2y w0 w) (fz kz a0z a1z a2z a3z uz l0z l1z l2z : Int) : Both A B fx kx a0x a1x a2x a3x ux l0x l1x l2x fz kz a0z a1z a2z a3z uz l0z l1z l2z w0 ((((((((((w.setCell ⟨B, 0, none⟩ (.int .i64 fz)).setCell ⟨B, 1, none⟩ (.int .i64 kz)).setCell ⟨B, 2, none⟩ (.int .u32 a0z)).setCell ⟨B, 3, none⟩ (.int .u32 a1z)).setCell ⟨B, 4, none⟩ (.int .u32 a2z)).setCell ⟨B, 5, none⟩ (.int .u32 a3z)).setCell ⟨B, 6, none⟩ (.int .i64 uz)).setCell ⟨B, 7, none⟩ (.int .u32 l0z)).setCell ⟨B, 8, none⟩ (.int .u32 l1z)).setCell ⟨B, 9, none⟩ (.int .u32 l2z)) :=
  ⟨((((((((((h.1.setOther B 0 h.2.2.2.2.1.symm (.int .i64 fz)).setOther B 1 h.2.2.2.2.1.symm (.int .i64 kz)).setOther B 2 h.2.2.2.2.1.symm (.int .u32 a0z)).setOther B 3 h.2.2.2.2.1.symm (.int .u32 a1z)).setOther B 4 h.2.2.2.2.1.symm (.int .u32 a2z)).setOther B 5 h.2.2.2.2.1.symm (.int .u32 a3z)).setOther B 6 h.2.2.2.2.1.symm (.int .i64 uz)).setOther B 7 h.2.2.2.2.1.symm (.int .u32 l0z)).setOther B 8 h.2.2.2.2.1.symm (.int .u32 l1z)).setOther B 9 h.2.2.2.2.1.symm (.int .u32 l2z)), by simpa only [List.setIfInBounds_toArray, List.set_cons_zero, List.set_cons_succ] using ((((((((((h.2.1.set 0 (.int .i64 fz)).set 1 (.int .i64 kz)).set 2 (.int .u32 a0z)).set 3 (.int .u32 a1z)).set 4 (.int .u32 a2z)).set 5 (.int .u32 a3z)).set 6 (.int .i64 uz)).set 7 (.int .u32 l0z)).set 8 (.int .u32 l1z)).set 9 (.int .u32 l2z)), h.2.2.1, h.2.2.2.1, h.2.2.2.2.1, (below_set (below_set (below_set (below_set (below_set (below_set (below_set (below_set (below_set (below_set h.2.2.2.2.2 B 0 h.2.2.2.1 (.int .i64 fz)) B 1 h.2.2.2.1 (.int .i64 kz)) B 2 h.2.2.2.1 (.int .u32 a0z)) B 3 h.2.2.2.1 (.int .u32 a1z)) B 4 h.2.2.2.1 (.int .u32 a2z)) B 5 h.2.2.2.1 (.int .u32 a3z)) B 6 h.2.2.2.1 (.int .i64 uz)) B 7 h.2.2.2.1 (.int .u32 l0z)) B 8 h.2.2.2.1 (.int .u32 l1z)) B 9 h.2.2.2.1 (.int .u32 l2z))⟩
set_option maxHeartbeats 4000000 in
set_option maxRecDepth 100000 in
theorem makes_any (d n : Int) (w : World) :
    Calls Try.prog 3 #[.int .i64 d, .int .u32 n] w fun e w' => e = .returned (.bool true) ∧ Below w.heap.size w w' := by
  generalize hr : stayR d = r
  obtain ⟨⟨f0, k0, a00, a10, a20, a30, u0, l00, l10, l20⟩, er0⟩ := r
  have hR0 := Lib.hid hr
  clear hr
  generalize hr : enterR d = r
  obtain ⟨⟨f1, k1, a01, a11, a21, a31, u1, l01, l11, l21⟩, er1⟩ := r
  have hR1 := Lib.hid hr
  clear hr
  generalize hr : leaveR d = r
  obtain ⟨⟨f2, k2, a02, a12, a22, a32, u2, l02, l12, l22⟩, er2⟩ := r
  have hR2 := Lib.hid hr
  clear hr
  generalize hr : nextR d = r
  obtain ⟨⟨f3, k3, a03, a13, a23, a33, u3, l03, l13, l23⟩, er3⟩ := r
  have hR3 := Lib.hid hr
  clear hr
  generalize hr : laterR d n = r
  obtain ⟨⟨f4, k4, a04, a14, a24, a34, u4, l04, l14, l24⟩, er4⟩ := r
  have hR4 := Lib.hid hr
  clear hr
  go_enter Try.func3, Try.ntmps3
  go_upto_region 3 with (first | (go_at_call 11; refine (stay_any _ _).mono ?_; rw [hR0.out]; rintro e w1 ⟨rfl, hb1⟩) | (go_at_call 12; refine (rstay_any _ _).mono ?_; rw [hR0.out]; rintro e w2 ⟨rfl, hb2⟩))
  have g0 : Both w1.heap.size w2.heap.size f0 k0 a00 a10 a20 a30 u0 l00 l10 l20 f0 k0 a00 a10 a20 a30 u0 l00 l10 l20 w (w2.alloc (.cells #[.int .i64 f0, .int .i64 k0, .int .u32 a00, .int .u32 a10, .int .u32 a20, .int .u32 a30, .int .i64 u0, .int .u32 l00, .int .u32 l10, .int .u32 l20] 30)) := ⟨((Row.new w1 _ 26).below hb2).alloc _, Row.new w2 _ 30, hb1.size, Nat.le_trans hb1.size (by have := hb2.size; simp at this; omega), by have := hb2.size; simp at this; omega, below_of (below_of (below_of hb1 (below_new w1 _)) hb2) (below_new _ _)⟩
  clear hb1 hb2
  generalize hB : w2.heap.size = B at g0 ⊢
  generalize hA : w1.heap.size = A at g0 ⊢
  clear hA hB
  go_cut [9] (fun v9 wc => v9 = .bool true ∧ Both A B f0 k0 a00 a10 a20 a30 u0 l00 l10 l20 f0 k0 a00 a10 a20 a30 u0 l00 l10 l20 w wc)
  case first =>
    have H := Lib.hid g0.drew.two
    clear g0
    go_region_held3 (Two A B f0 k0 a00 a10 a20 a30 u0 l00 l10 l20 f0 k0 a00 a10 a20 a30 u0 l00 l10 l20 w) (first | (with_reducible exact H.out) | (with_reducible exact two_below ‹_› ‹_›)) (first | (go_at_call 13; refine (from_any f0 k0 a00 a10 a20 a30 u0 l00 l10 l20 _).mono ?_; rintro e w' ⟨rfl, hb⟩))
    go_wp2_with fail
    go_meet
    case rel => exact ⟨rfl, (‹Two A B f0 k0 a00 a10 a20 a30 u0 l00 l10 l20 f0 k0 a00 a10 a20 a30 u0 l00 l10 l20 w _›).1⟩
  case rest =>
  clear g0
  obtain ⟨rfl, h0⟩ := hcut
  go_upto_region 4 with (fail)
  go_cut [6] (fun v6 wc => v6 = .int .i64 er1 ∧ Both A B f1 k1 a01 a11 a21 a31 u1 l01 l11 l21 f0 k0 a00 a10 a20 a30 u0 l00 l10 l20 w wc)
  case first =>
    have T0 := h0.two
    clear h0
    go_wp2_with (go_at_call 14; refine (enter_any _ _).mono ?_; rw [hR1.out]; rintro e w1 ⟨rfl, hb1⟩; have T1 := two_below hb1 T0; clear T0 hb1)
    go_meet
    case rel => exact ⟨rfl, T1.1.storeA f1 k1 a01 a11 a21 a31 u1 l01 l11 l21⟩
  case rest =>
  clear h0
  obtain ⟨rfl, h1⟩ := hcut
  go_upto_region 5 with (fail)
  go_cut [8] (fun v8 wc => v8 = .int .i64 er1 ∧ Both A B f1 k1 a01 a11 a21 a31 u1 l01 l11 l21 f1 k1 a01 a11 a21 a31 u1 l01 l11 l21 w wc)
  case first =>
    have T0 := h1.two
    clear h1
    go_wp2_with (go_at_call 15; refine (renter_any _ _).mono ?_; rw [hR1.out]; rintro e w1 ⟨rfl, hb1⟩; have T1 := two_below hb1 T0; clear T0 hb1)
    go_meet
    case rel => exact ⟨rfl, T1.1.storeB f1 k1 a01 a11 a21 a31 u1 l01 l11 l21⟩
  case rest =>
  clear h1
  obtain ⟨rfl, g1⟩ := hcut
  go_upto_region 6 with (fail)
  go_cut [9] (fun v9 wc => v9 = .bool true ∧ Both A B f1 k1 a01 a11 a21 a31 u1 l01 l11 l21 f1 k1 a01 a11 a21 a31 u1 l01 l11 l21 w wc)
  case first =>
    have H := Lib.hid g1.drew.two
    clear g1
    go_region_held3 (Two A B f1 k1 a01 a11 a21 a31 u1 l01 l11 l21 f1 k1 a01 a11 a21 a31 u1 l01 l11 l21 w) (first | (with_reducible exact H.out) | (with_reducible exact two_below ‹_› ‹_›)) (first | (go_at_call 13; refine (from_any f1 k1 a01 a11 a21 a31 u1 l01 l11 l21 _).mono ?_; rintro e w' ⟨rfl, hb⟩))
    go_wp2_with fail
    go_meet
    case rel => exact ⟨rfl, (‹Two A B f1 k1 a01 a11 a21 a31 u1 l01 l11 l21 f1 k1 a01 a11 a21 a31 u1 l01 l11 l21 w _›).1⟩
  case rest =>
  clear g1
  obtain ⟨rfl, h1⟩ := hcut
  go_upto_region 7 with (fail)
  go_cut [6] (fun v6 wc => v6 = .int .i64 er2 ∧ Both A B f2 k2 a02 a12 a22 a32 u2 l02 l12 l22 f1 k1 a01 a11 a21 a31 u1 l01 l11 l21 w wc)
  case first =>
    have T0 := h1.two
    clear h1
    go_wp2_with (go_at_call 16; refine (leave_any _ _).mono ?_; rw [hR2.out]; rintro e w1 ⟨rfl, hb1⟩; have T1 := two_below hb1 T0; clear T0 hb1)
    go_meet
    case rel => exact ⟨rfl, T1.1.storeA f2 k2 a02 a12 a22 a32 u2 l02 l12 l22⟩
  case rest =>
  clear h1
  obtain ⟨rfl, h2⟩ := hcut
  go_upto_region 8 with (fail)
  go_cut [8] (fun v8 wc => v8 = .int .i64 er2 ∧ Both A B f2 k2 a02 a12 a22 a32 u2 l02 l12 l22 f2 k2 a02 a12 a22 a32 u2 l02 l12 l22 w wc)
  case first =>
    have T0 := h2.two
    clear h2
    go_wp2_with (go_at_call 17; refine (rleave_any _ _).mono ?_; rw [hR2.out]; rintro e w1 ⟨rfl, hb1⟩; have T1 := two_below hb1 T0; clear T0 hb1)
    go_meet
    case rel => exact ⟨rfl, T1.1.storeB f2 k2 a02 a12 a22 a32 u2 l02 l12 l22⟩
  case rest =>
  clear h2
  obtain ⟨rfl, g2⟩ := hcut
  go_upto_region 9 with (fail)
  go_cut [9] (fun v9 wc => v9 = .bool true ∧ Both A B f2 k2 a02 a12 a22 a32 u2 l02 l12 l22 f2 k2 a02 a12 a22 a32 u2 l02 l12 l22 w wc)
  case first =>
    have H := Lib.hid g2.drew.two
    clear g2
    go_region_held3 (Two A B f2 k2 a02 a12 a22 a32 u2 l02 l12 l22 f2 k2 a02 a12 a22 a32 u2 l02 l12 l22 w) (first | (with_reducible exact H.out) | (with_reducible exact two_below ‹_› ‹_›)) (first | (go_at_call 13; refine (from_any f2 k2 a02 a12 a22 a32 u2 l02 l12 l22 _).mono ?_; rintro e w' ⟨rfl, hb⟩))
    go_wp2_with fail
    go_meet
    case rel => exact ⟨rfl, (‹Two A B f2 k2 a02 a12 a22 a32 u2 l02 l12 l22 f2 k2 a02 a12 a22 a32 u2 l02 l12 l22 w _›).1⟩
  case rest =>
  clear g2
  obtain ⟨rfl, h2⟩ := hcut
  go_upto_region 10 with (fail)
  go_cut [6] (fun v6 wc => v6 = .int .i64 er3 ∧ Both A B f3 k3 a03 a13 a23 a33 u3 l03 l13 l23 f2 k2 a02 a12 a22 a32 u2 l02 l12 l22 w wc)
  case first =>
    have T0 := h2.two
    clear h2
    go_wp2_with (go_at_call 18; refine (next_any _ _).mono ?_; rw [hR3.out]; rintro e w1 ⟨rfl, hb1⟩; have T1 := two_below hb1 T0; clear T0 hb1)
    go_meet
    case rel => exact ⟨rfl, T1.1.storeA f3 k3 a03 a13 a23 a33 u3 l03 l13 l23⟩
  case rest =>
  clear h2
  obtain ⟨rfl, h3⟩ := hcut
  go_upto_region 11 with (fail)
  go_cut [8] (fun v8 wc => v8 = .int .i64 er3 ∧ Both A B f3 k3 a03 a13 a23 a33 u3 l03 l13 l23 f3 k3 a03 a13 a23 a33 u3 l03 l13 l23 w wc)
  case first =>
    have T0 := h3.two
    clear h3
    go_wp2_with (go_at_call 19; refine (rnext_any _ _).mono ?_; rw [hR3.out]; rintro e w1 ⟨rfl, hb1⟩; have T1 := two_below hb1 T0; clear T0 hb1)
    go_meet
    case rel => exact ⟨rfl, T1.1.storeB f3 k3 a03 a13 a23 a33 u3 l03 l13 l23⟩
  case rest =>
  clear h3
  obtain ⟨rfl, g3⟩ := hcut
  go_upto_region 12 with (fail)
  go_cut [9] (fun v9 wc => v9 = .bool true ∧ Both A B f3 k3 a03 a13 a23 a33 u3 l03 l13 l23 f3 k3 a03 a13 a23 a33 u3 l03 l13 l23 w wc)
  case first =>
    have H := Lib.hid g3.drew.two
    clear g3
    go_region_held3 (Two A B f3 k3 a03 a13 a23 a33 u3 l03 l13 l23 f3 k3 a03 a13 a23 a33 u3 l03 l13 l23 w) (first | (with_reducible exact H.out) | (with_reducible exact two_below ‹_› ‹_›)) (first | (go_at_call 13; refine (from_any f3 k3 a03 a13 a23 a33 u3 l03 l13 l23 _).mono ?_; rintro e w' ⟨rfl, hb⟩))
    go_wp2_with fail
    go_meet
    case rel => exact ⟨rfl, (‹Two A B f3 k3 a03 a13 a23 a33 u3 l03 l13 l23 f3 k3 a03 a13 a23 a33 u3 l03 l13 l23 w _›).1⟩
  case rest =>
  clear g3
  obtain ⟨rfl, h3⟩ := hcut
  go_upto_region 13 with (fail)
  go_cut [6] (fun v6 wc => v6 = .int .i64 er4 ∧ Both A B f4 k4 a04 a14 a24 a34 u4 l04 l14 l24 f3 k3 a03 a13 a23 a33 u3 l03 l13 l23 w wc)
  case first =>
    have T0 := h3.two
    clear h3
    go_wp2_with (go_at_call 20; refine (later_any _ _ _).mono ?_; rw [hR4.out]; rintro e w1 ⟨rfl, hb1⟩; have T1 := two_below hb1 T0; clear T0 hb1)
    go_meet
    case rel => exact ⟨rfl, T1.1.storeA f4 k4 a04 a14 a24 a34 u4 l04 l14 l24⟩
  case rest =>
  clear h3
  obtain ⟨rfl, h4⟩ := hcut
  go_upto_region 14 with (fail)
  go_cut [8] (fun v8 wc => v8 = .int .i64 er4 ∧ Both A B f4 k4 a04 a14 a24 a34 u4 l04 l14 l24 f4 k4 a04 a14 a24 a34 u4 l04 l14 l24 w wc)
  case first =>
    have T0 := h4.two
    clear h4
    go_wp2_with (go_at_call 21; refine (rlater_any _ _ _).mono ?_; rw [hR4.out]; rintro e w1 ⟨rfl, hb1⟩; have T1 := two_below hb1 T0; clear T0 hb1)
    go_meet
    case rel => exact ⟨rfl, T1.1.storeB f4 k4 a04 a14 a24 a34 u4 l04 l14 l24⟩
  case rest =>
  clear h4
  obtain ⟨rfl, g4⟩ := hcut
  go_upto_region 15 with (fail)
  have H := Lib.hid g4.drew.two
  clear g4
  go_region_held3 (Two A B f4 k4 a04 a14 a24 a34 u4 l04 l14 l24 f4 k4 a04 a14 a24 a34 u4 l04 l14 l24 w) (first | (with_reducible exact H.out) | (with_reducible exact two_below ‹_› ‹_›)) (first | (go_at_call 13; refine (from_any f4 k4 a04 a14 a24 a34 u4 l04 l14 l24 _).mono ?_; rintro e w' ⟨rfl, hb⟩))
  go_wp2
  go_ret
  exact ⟨rfl, (‹Two A B f4 k4 a04 a14 a24 a34 u4 l04 l14 l24 f4 k4 a04 a14 a24 a34 u4 l04 l14 l24 w _›).1.2.2.2.2.2⟩
end Go.Proofs.Ytfmnbkcjibhloaa
