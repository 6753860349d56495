/- The other ways of a depth, the program's and the reference's. No condition. -/
import Derived.Test.YtfmnbkcjibhloaaWays
namespace Go.Proofs.Ytfmnbkcjibhloaa
open Go.RowKit
set_option linter.unusedVariables false
set_option linter.unusedSimpArgs false

theorem stayR_yes {d : Int} (h : inB d = true) : stayR d = (⟨d, d, 0, 0, 0, 0, 0, 0, 0, 0⟩, 0) := by simp [stayR, h]
theorem stayR_no {d : Int} (h : inB d = false) : stayR d = (pa0, 10) := by simp [stayR, h]
theorem Row.ten {w : World} {b T : Nat} {v0 v1 v2 v3 v4 v5 v6 v7 v8 v9 : Value} (h : Row w b #[v0, v1, v2, v3, v4, v5, v6, v7, v8, v9] T) :
    w.cell? ⟨b, 0, none⟩ = some v0 ∧ w.cell? ⟨b, 1, none⟩ = some v1 ∧ w.cell? ⟨b, 2, none⟩ = some v2 ∧ w.cell? ⟨b, 3, none⟩ = some v3 ∧ w.cell? ⟨b, 4, none⟩ = some v4 ∧ w.cell? ⟨b, 5, none⟩ = some v5 ∧ w.cell? ⟨b, 6, none⟩ = some v6 ∧ w.cell? ⟨b, 7, none⟩ = some v7 ∧ w.cell? ⟨b, 8, none⟩ = some v8 ∧ w.cell? ⟨b, 9, none⟩ = some v9 ∧ ∀ i, w.frozen? ⟨b, i, none⟩ = false :=
  ⟨h.cell 0 _ rfl, h.cell 1 _ rfl, h.cell 2 _ rfl, h.cell 3 _ rfl, h.cell 4 _ rfl, h.cell 5 _ rfl, h.cell 6 _ rfl, h.cell 7 _ rfl, h.cell 8 _ rfl, h.cell 9 _ rfl, h.free⟩
theorem rstay_yes (d : Int) (h : inB d = true) (w : World) : Calls Try.prog 12 #[.int .i64 d] w fun e w' => e = .returned (.tuple #[.agg #[.int .i64 d, .int .i64 d, .int .u32 0, .int .u32 0, .int .u32 0, .int .u32 0, .int .i64 0, .int .u32 0, .int .u32 0, .int .u32 0], .int .i64 0]) ∧ Below w.heap.size w w' := by
  have := rstay_any d w; rw [stayR_yes h] at this; exact this
theorem rstay_no (d : Int) (h : inB d = false) (w : World) : Calls Try.prog 12 #[.int .i64 d] w fun e w' => e = .returned (.tuple #[.agg #[.int .i64 0, .int .i64 0, .int .u32 0, .int .u32 0, .int .u32 0, .int .u32 0, .int .i64 0, .int .u32 0, .int .u32 0, .int .u32 0], .int .i64 10]) ∧ Below w.heap.size w w' := by
  have := rstay_any d w; rw [stayR_no h] at this; exact this
theorem stay_yes (d : Int) (h : inB d = true) (w : World) : Calls Try.prog 11 #[.int .i64 d] w fun e w' => e = .returned (.tuple #[.agg #[.int .i64 d, .int .i64 d, .int .u32 0, .int .u32 0, .int .u32 0, .int .u32 0, .int .i64 0, .int .u32 0, .int .u32 0, .int .u32 0], .int .i64 0]) ∧ Below w.heap.size w w' := by
  have := stay_any d w; rw [stayR_yes h] at this; exact this
theorem stay_no (d : Int) (h : inB d = false) (w : World) : Calls Try.prog 11 #[.int .i64 d] w fun e w' => e = .returned (.tuple #[.agg #[.int .i64 0, .int .i64 0, .int .u32 0, .int .u32 0, .int .u32 0, .int .u32 0, .int .i64 0, .int .u32 0, .int .u32 0, .int .u32 0], .int .i64 10]) ∧ Below w.heap.size w w' := by
  have := stay_any d w; rw [stayR_no h] at this; exact this
theorem renter_any (d : Int) (w : World) :
    Calls Try.prog 15 #[.int .i64 d] w fun e w' => e = .returned (.tuple #[.agg #[.int .i64 (enterR d).1.f, .int .i64 (enterR d).1.k, .int .u32 (enterR d).1.a0, .int .u32 (enterR d).1.a1, .int .u32 (enterR d).1.a2, .int .u32 (enterR d).1.a3, .int .i64 (enterR d).1.u, .int .u32 (enterR d).1.l0, .int .u32 (enterR d).1.l1, .int .u32 (enterR d).1.l2], .int .i64 (enterR d).2]) ∧ Below w.heap.size w w' := by
  rcases hi : inB d with _ | _
  · have hx : (enterR d) = (pa0, 10) := by simp [enterR, hi]
    rw [hx]
    go_enter Try.func15, Try.ntmps15
    go_wp2_with (first | (go_at_call 12; refine (rstay_no _ ‹_› _).mono ?_; rintro e w1 ⟨rfl, hb⟩; have hR := ((Row.new w #[.int .i64 0, .int .i64 0, .int .u32 0, .int .u32 0, .int .u32 0, .int .u32 0, .int .i64 0, .int .u32 0, .int .u32 0, .int .u32 0] 30).below hb).ten; obtain ⟨c0, c1, c2, c3, c4, c5, c6, c7, c8, c9, cf⟩ := hR; have hz : w.heap.size < w1.heap.size := by (have := hb.size; simp at this; omega)))
    refine bodyPost_ret (v := .tuple #[.agg #[.int .i64 0, .int .i64 0, .int .u32 0, .int .u32 0, .int .u32 0, .int .u32 0, .int .i64 0, .int .u32 0, .int .u32 0, .int .u32 0], .int .i64 10]) (by simp [results, Try.results15, go_sem, *]) rfl ⟨by simp [pa0], ?_⟩
    repeat (first | (with_reducible refine Below.setCell ?_ (by simp only [World.size_setCell, World.size_alloc]; omega) _) | (with_reducible refine Below.alloc ?_ (by simp only [World.size_setCell, World.size_alloc]; omega) _) | (with_reducible exact (below_new w _).trans (hb.mono (by simp))))
  · by_cases h3 : d = 3
    · subst h3
      have hx : (enterR 3) = (pa0, 10) := by simp [enterR]
      rw [hx]
      go_enter Try.func15, Try.ntmps15
      go_wp2_with (first | (go_at_call 12; refine (rstay_yes _ ‹_› _).mono ?_; rintro e w1 ⟨rfl, hb⟩; have hR := ((Row.new w #[.int .i64 0, .int .i64 0, .int .u32 0, .int .u32 0, .int .u32 0, .int .u32 0, .int .i64 0, .int .u32 0, .int .u32 0, .int .u32 0] 30).below hb).ten; obtain ⟨c0, c1, c2, c3, c4, c5, c6, c7, c8, c9, cf⟩ := hR; have hz : w.heap.size < w1.heap.size := by (have := hb.size; simp at this; omega)))
      refine bodyPost_ret (v := .tuple #[.agg #[.int .i64 0, .int .i64 0, .int .u32 0, .int .u32 0, .int .u32 0, .int .u32 0, .int .i64 0, .int .u32 0, .int .u32 0, .int .u32 0], .int .i64 10]) (by simp [results, Try.results15, go_sem, *]) rfl ⟨by simp [pa0], ?_⟩
      repeat (first | (with_reducible refine Below.setCell ?_ (by simp only [World.size_setCell, World.size_alloc]; omega) _) | (with_reducible refine Below.alloc ?_ (by simp only [World.size_setCell, World.size_alloc]; omega) _) | (with_reducible exact (below_new w _).trans (hb.mono (by simp))))
    · have hx : (enterR d) = (⟨d, d, 0, 0, 0, 0, 1, 0, 0, 0⟩, 0) := by simp [enterR, hi, h3]
      rw [hx]
      go_enter Try.func15, Try.ntmps15
      go_wp2_with (first | (go_at_call 12; refine (rstay_yes _ ‹_› _).mono ?_; rintro e w1 ⟨rfl, hb⟩; have hR := ((Row.new w #[.int .i64 0, .int .i64 0, .int .u32 0, .int .u32 0, .int .u32 0, .int .u32 0, .int .i64 0, .int .u32 0, .int .u32 0, .int .u32 0] 30).below hb).ten; obtain ⟨c0, c1, c2, c3, c4, c5, c6, c7, c8, c9, cf⟩ := hR; have hz : w.heap.size < w1.heap.size := by (have := hb.size; simp at this; omega)))
      refine bodyPost_ret (v := .tuple #[.agg #[.int .i64 d, .int .i64 d, .int .u32 0, .int .u32 0, .int .u32 0, .int .u32 0, .int .i64 1, .int .u32 0, .int .u32 0, .int .u32 0], .int .i64 0]) (by simp [results, Try.results15, go_sem, *]) rfl ⟨rfl, ?_⟩
      repeat (first | (with_reducible refine Below.setCell ?_ (by simp only [World.size_setCell, World.size_alloc]; omega) _) | (with_reducible refine Below.alloc ?_ (by simp only [World.size_setCell, World.size_alloc]; omega) _) | (with_reducible exact (below_new w _).trans (hb.mono (by simp))))
theorem leave_any (d : Int) (w : World) :
    Calls Try.prog 16 #[.int .i64 d] w fun e w' => e = .returned (.tuple #[.agg #[.int .i64 (leaveR d).1.f, .int .i64 (leaveR d).1.k, .int .u32 (leaveR d).1.a0, .int .u32 (leaveR d).1.a1, .int .u32 (leaveR d).1.a2, .int .u32 (leaveR d).1.a3, .int .i64 (leaveR d).1.u, .int .u32 (leaveR d).1.l0, .int .u32 (leaveR d).1.l1, .int .u32 (leaveR d).1.l2], .int .i64 (leaveR d).2]) ∧ Below w.heap.size w w' := by
  rcases hi : inB d with _ | _
  · have hx : (leaveR d) = (pa0, 10) := by simp [leaveR, hi]
    rw [hx]
    go_enter Try.func16, Try.ntmps16
    go_wp2_with (go_at_call 40; refine (there_any _ _).mono ?_; rintro e w' ⟨rfl, rfl⟩)
    refine bodyPost_ret (v := .tuple #[.agg #[.int .i64 0, .int .i64 0, .int .u32 0, .int .u32 0, .int .u32 0, .int .u32 0, .int .i64 0, .int .u32 0, .int .u32 0, .int .u32 0], .int .i64 10]) (by simp [results, Try.results16, go_sem]) rfl ⟨by simp [pa0], ?_⟩
    repeat (first | exact Below.refl _ _ | refine Below.alloc ?_ (by simp) _)
  · obtain ⟨h1, h2⟩ := inB_yes hi
    by_cases h3 : d = 0
    · subst h3
      have hx : (leaveR 0) = (pa0, 10) := by simp [leaveR]
      rw [hx]
      go_enter Try.func16, Try.ntmps16
      go_wp2_with (go_at_call 40; refine (there_any _ _).mono ?_; rintro e w' ⟨rfl, rfl⟩)
      refine bodyPost_ret (v := .tuple #[.agg #[.int .i64 0, .int .i64 0, .int .u32 0, .int .u32 0, .int .u32 0, .int .u32 0, .int .i64 0, .int .u32 0, .int .u32 0, .int .u32 0], .int .i64 10]) (by simp [results, Try.results16, go_sem]) rfl ⟨by simp [pa0], ?_⟩
      repeat (first | exact Below.refl _ _ | refine Below.alloc ?_ (by simp) _)
    · have hx : (leaveR d) = (⟨d, d - 1, 0, 0, 0, 0, 0, 0, 0, 0⟩, 0) := by simp [leaveR, hi, h3]
      rw [hx]
      go_enter Try.func16, Try.ntmps16
      go_wp2_with (go_at_call 40; refine (there_any _ _).mono ?_; rintro e w' ⟨rfl, rfl⟩)
      refine bodyPost_ret (v := .tuple #[.agg #[.int .i64 d, .int .i64 (d - 1), .int .u32 0, .int .u32 0, .int .u32 0, .int .u32 0, .int .i64 0, .int .u32 0, .int .u32 0, .int .u32 0], .int .i64 0]) (by simp [results, Try.results16, go_sem]) rfl ⟨rfl, ?_⟩
      repeat (first | exact Below.refl _ _ | refine Below.alloc ?_ (by simp) _)
theorem rleave_any (d : Int) (w : World) :
    Calls Try.prog 17 #[.int .i64 d] w fun e w' => e = .returned (.tuple #[.agg #[.int .i64 (leaveR d).1.f, .int .i64 (leaveR d).1.k, .int .u32 (leaveR d).1.a0, .int .u32 (leaveR d).1.a1, .int .u32 (leaveR d).1.a2, .int .u32 (leaveR d).1.a3, .int .i64 (leaveR d).1.u, .int .u32 (leaveR d).1.l0, .int .u32 (leaveR d).1.l1, .int .u32 (leaveR d).1.l2], .int .i64 (leaveR d).2]) ∧ Below w.heap.size w w' := by
  rcases hi : inB d with _ | _
  · have hx : (leaveR d) = (pa0, 10) := by simp [leaveR, hi]
    rw [hx]
    go_enter Try.func17, Try.ntmps17
    go_wp2_with (first | (go_at_call 12; refine (rstay_no _ ‹_› _).mono ?_; rintro e w1 ⟨rfl, hb⟩; have hR := ((Row.new w #[.int .i64 0, .int .i64 0, .int .u32 0, .int .u32 0, .int .u32 0, .int .u32 0, .int .i64 0, .int .u32 0, .int .u32 0, .int .u32 0] 30).below hb).ten; obtain ⟨c0, c1, c2, c3, c4, c5, c6, c7, c8, c9, cf⟩ := hR; have hz : w.heap.size < w1.heap.size := by (have := hb.size; simp at this; omega)))
    refine bodyPost_ret (v := .tuple #[.agg #[.int .i64 0, .int .i64 0, .int .u32 0, .int .u32 0, .int .u32 0, .int .u32 0, .int .i64 0, .int .u32 0, .int .u32 0, .int .u32 0], .int .i64 10]) (by simp [results, Try.results17, go_sem, *]) rfl ⟨by simp [pa0], ?_⟩
    repeat (first | (with_reducible refine Below.setCell ?_ (by simp only [World.size_setCell, World.size_alloc]; omega) _) | (with_reducible refine Below.alloc ?_ (by simp only [World.size_setCell, World.size_alloc]; omega) _) | (with_reducible exact (below_new w _).trans (hb.mono (by simp))))
  · obtain ⟨h1, h2⟩ := inB_yes hi
    by_cases h3 : d = 0
    · subst h3
      have hx : (leaveR 0) = (pa0, 10) := by simp [leaveR]
      rw [hx]
      go_enter Try.func17, Try.ntmps17
      go_wp2_with (first | (go_at_call 12; refine (rstay_yes _ ‹_› _).mono ?_; rintro e w1 ⟨rfl, hb⟩; have hR := ((Row.new w #[.int .i64 0, .int .i64 0, .int .u32 0, .int .u32 0, .int .u32 0, .int .u32 0, .int .i64 0, .int .u32 0, .int .u32 0, .int .u32 0] 30).below hb).ten; obtain ⟨c0, c1, c2, c3, c4, c5, c6, c7, c8, c9, cf⟩ := hR; have hz : w.heap.size < w1.heap.size := by (have := hb.size; simp at this; omega)))
      refine bodyPost_ret (v := .tuple #[.agg #[.int .i64 0, .int .i64 0, .int .u32 0, .int .u32 0, .int .u32 0, .int .u32 0, .int .i64 0, .int .u32 0, .int .u32 0, .int .u32 0], .int .i64 10]) (by simp [results, Try.results17, go_sem, *]) rfl ⟨by simp [pa0], ?_⟩
      repeat (first | (with_reducible refine Below.setCell ?_ (by simp only [World.size_setCell, World.size_alloc]; omega) _) | (with_reducible refine Below.alloc ?_ (by simp only [World.size_setCell, World.size_alloc]; omega) _) | (with_reducible exact (below_new w _).trans (hb.mono (by simp))))
    · have hx : (leaveR d) = (⟨d, d - 1, 0, 0, 0, 0, 0, 0, 0, 0⟩, 0) := by simp [leaveR, hi, h3]
      rw [hx]
      go_enter Try.func17, Try.ntmps17
      go_wp2_with (first | (go_at_call 12; refine (rstay_yes _ ‹_› _).mono ?_; rintro e w1 ⟨rfl, hb⟩; have hR := ((Row.new w #[.int .i64 0, .int .i64 0, .int .u32 0, .int .u32 0, .int .u32 0, .int .u32 0, .int .i64 0, .int .u32 0, .int .u32 0, .int .u32 0] 30).below hb).ten; obtain ⟨c0, c1, c2, c3, c4, c5, c6, c7, c8, c9, cf⟩ := hR; have hz : w.heap.size < w1.heap.size := by (have := hb.size; simp at this; omega)))
      refine bodyPost_ret (v := .tuple #[.agg #[.int .i64 d, .int .i64 (d - 1), .int .u32 0, .int .u32 0, .int .u32 0, .int .u32 0, .int .i64 0, .int .u32 0, .int .u32 0, .int .u32 0], .int .i64 0]) (by simp [results, Try.results17, go_sem, *]) rfl ⟨rfl, ?_⟩
      repeat (first | (with_reducible refine Below.setCell ?_ (by simp only [World.size_setCell, World.size_alloc]; omega) _) | (with_reducible refine Below.alloc ?_ (by simp only [World.size_setCell, World.size_alloc]; omega) _) | (with_reducible exact (below_new w _).trans (hb.mono (by simp))))
theorem next_any (d : Int) (w : World) :
    Calls Try.prog 18 #[.int .i64 d] w fun e w' => e = .returned (.tuple #[.agg #[.int .i64 (nextR d).1.f, .int .i64 (nextR d).1.k, .int .u32 (nextR d).1.a0, .int .u32 (nextR d).1.a1, .int .u32 (nextR d).1.a2, .int .u32 (nextR d).1.a3, .int .i64 (nextR d).1.u, .int .u32 (nextR d).1.l0, .int .u32 (nextR d).1.l1, .int .u32 (nextR d).1.l2], .int .i64 (nextR d).2]) ∧ Below w.heap.size w w' := by
  rcases hi : inB d with _ | _
  · have hx : (nextR d) = (pa0, 10) := by
      have := inB_no hi
      unfold nextR
      rw [if_neg (by omega), if_neg (by omega), if_neg (by omega)]
    rw [hx]
    go_enter Try.func18, Try.ntmps18
    go_wp2_with (go_at_call 40; refine (there_any _ _).mono ?_; rintro e w' ⟨rfl, rfl⟩)
    refine bodyPost_ret (v := .tuple #[.agg #[.int .i64 0, .int .i64 0, .int .u32 0, .int .u32 0, .int .u32 0, .int .u32 0, .int .i64 0, .int .u32 0, .int .u32 0, .int .u32 0], .int .i64 10]) (by simp [results, Try.results18, go_sem]) rfl ⟨by simp [pa0], ?_⟩
    repeat (first | exact Below.refl _ _ | refine Below.alloc ?_ (by simp) _)
  · obtain ⟨h1, h2⟩ := inB_yes hi
    have h4 : d = 0 ∨ d = 1 ∨ d = 2 ∨ d = 3 := by omega
    rcases h4 with rfl | rfl | rfl | rfl
    · have hx : (nextR 0) = (pa0, 10) := by simp [nextR]
      rw [hx]
      go_enter Try.func18, Try.ntmps18
      go_wp2_with (go_at_call 40; refine (there_any _ _).mono ?_; rintro e w' ⟨rfl, rfl⟩)
      refine bodyPost_ret (v := .tuple #[.agg #[.int .i64 0, .int .i64 0, .int .u32 0, .int .u32 0, .int .u32 0, .int .u32 0, .int .i64 0, .int .u32 0, .int .u32 0, .int .u32 0], .int .i64 10]) (by simp [results, Try.results18, go_sem]) rfl ⟨by simp [pa0], ?_⟩
      repeat (first | exact Below.refl _ _ | refine Below.alloc ?_ (by simp) _)
    · have hx : (nextR 1) = (⟨1, 1, 0, 1, 0, 0, 0, 0, 0, 0⟩, 0) := by simp [nextR]
      rw [hx]
      go_enter Try.func18, Try.ntmps18
      go_wp2_with (go_at_call 40; refine (there_any _ _).mono ?_; rintro e w' ⟨rfl, rfl⟩)
      refine bodyPost_ret (v := .tuple #[.agg #[.int .i64 1, .int .i64 1, .int .u32 0, .int .u32 1, .int .u32 0, .int .u32 0, .int .i64 0, .int .u32 0, .int .u32 0, .int .u32 0], .int .i64 0]) (by simp [results, Try.results18, go_sem]) rfl ⟨rfl, ?_⟩
      repeat (first | exact Below.refl _ _ | refine Below.alloc ?_ (by simp) _)
    · have hx : (nextR 2) = (⟨2, 2, 0, 0, 1, 0, 0, 0, 0, 0⟩, 0) := by simp [nextR]
      rw [hx]
      go_enter Try.func18, Try.ntmps18
      go_wp2_with (go_at_call 40; refine (there_any _ _).mono ?_; rintro e w' ⟨rfl, rfl⟩)
      refine bodyPost_ret (v := .tuple #[.agg #[.int .i64 2, .int .i64 2, .int .u32 0, .int .u32 0, .int .u32 1, .int .u32 0, .int .i64 0, .int .u32 0, .int .u32 0, .int .u32 0], .int .i64 0]) (by simp [results, Try.results18, go_sem]) rfl ⟨rfl, ?_⟩
      repeat (first | exact Below.refl _ _ | refine Below.alloc ?_ (by simp) _)
    · have hx : (nextR 3) = (⟨3, 3, 0, 0, 0, 1, 0, 0, 0, 0⟩, 0) := by simp [nextR]
      rw [hx]
      go_enter Try.func18, Try.ntmps18
      go_wp2_with (go_at_call 40; refine (there_any _ _).mono ?_; rintro e w' ⟨rfl, rfl⟩)
      refine bodyPost_ret (v := .tuple #[.agg #[.int .i64 3, .int .i64 3, .int .u32 0, .int .u32 0, .int .u32 0, .int .u32 1, .int .i64 0, .int .u32 0, .int .u32 0, .int .u32 0], .int .i64 0]) (by simp [results, Try.results18, go_sem]) rfl ⟨rfl, ?_⟩
      repeat (first | exact Below.refl _ _ | refine Below.alloc ?_ (by simp) _)
theorem rnext_any (d : Int) (w : World) :
    Calls Try.prog 19 #[.int .i64 d] w fun e w' => e = .returned (.tuple #[.agg #[.int .i64 (nextR d).1.f, .int .i64 (nextR d).1.k, .int .u32 (nextR d).1.a0, .int .u32 (nextR d).1.a1, .int .u32 (nextR d).1.a2, .int .u32 (nextR d).1.a3, .int .i64 (nextR d).1.u, .int .u32 (nextR d).1.l0, .int .u32 (nextR d).1.l1, .int .u32 (nextR d).1.l2], .int .i64 (nextR d).2]) ∧ Below w.heap.size w w' := by
  rcases hi : inB d with _ | _
  · have hx : (nextR d) = (pa0, 10) := by
      have := inB_no hi
      unfold nextR
      rw [if_neg (by omega), if_neg (by omega), if_neg (by omega)]
    rw [hx]
    go_enter Try.func19, Try.ntmps19
    go_wp2_with (first | (go_at_call 12; refine (rstay_no _ ‹_› _).mono ?_; rintro e w1 ⟨rfl, hb⟩; have hR := ((Row.new w #[.int .i64 0, .int .i64 0, .int .u32 0, .int .u32 0, .int .u32 0, .int .u32 0, .int .i64 0, .int .u32 0, .int .u32 0, .int .u32 0] 30).below hb).ten; obtain ⟨c0, c1, c2, c3, c4, c5, c6, c7, c8, c9, cf⟩ := hR; have hz : w.heap.size < w1.heap.size := by (have := hb.size; simp at this; omega)))
    refine bodyPost_ret (v := .tuple #[.agg #[.int .i64 0, .int .i64 0, .int .u32 0, .int .u32 0, .int .u32 0, .int .u32 0, .int .i64 0, .int .u32 0, .int .u32 0, .int .u32 0], .int .i64 10]) (by simp [results, Try.results19, go_sem, *]) rfl ⟨by simp [pa0], ?_⟩
    repeat (first | (with_reducible refine Below.setCell ?_ (by simp only [World.size_setCell, World.size_alloc]; omega) _) | (with_reducible refine Below.alloc ?_ (by simp only [World.size_setCell, World.size_alloc]; omega) _) | (with_reducible exact (below_new w _).trans (hb.mono (by simp))))
  · obtain ⟨h1, h2⟩ := inB_yes hi
    have h4 : d = 0 ∨ d = 1 ∨ d = 2 ∨ d = 3 := by omega
    rcases h4 with rfl | rfl | rfl | rfl
    · have hx : (nextR 0) = (pa0, 10) := by simp [nextR]
      rw [hx]
      go_enter Try.func19, Try.ntmps19
      go_wp2_with (first | (go_at_call 12; refine (rstay_yes _ ‹_› _).mono ?_; rintro e w1 ⟨rfl, hb⟩; have hR := ((Row.new w #[.int .i64 0, .int .i64 0, .int .u32 0, .int .u32 0, .int .u32 0, .int .u32 0, .int .i64 0, .int .u32 0, .int .u32 0, .int .u32 0] 30).below hb).ten; obtain ⟨c0, c1, c2, c3, c4, c5, c6, c7, c8, c9, cf⟩ := hR; have hz : w.heap.size < w1.heap.size := by (have := hb.size; simp at this; omega)))
      refine bodyPost_ret (v := .tuple #[.agg #[.int .i64 0, .int .i64 0, .int .u32 0, .int .u32 0, .int .u32 0, .int .u32 0, .int .i64 0, .int .u32 0, .int .u32 0, .int .u32 0], .int .i64 10]) (by simp [results, Try.results19, go_sem, *]) rfl ⟨by simp [pa0], ?_⟩
      repeat (first | (with_reducible refine Below.setCell ?_ (by simp only [World.size_setCell, World.size_alloc]; omega) _) | (with_reducible refine Below.alloc ?_ (by simp only [World.size_setCell, World.size_alloc]; omega) _) | (with_reducible exact (below_new w _).trans (hb.mono (by simp))))
    · have hx : (nextR 1) = (⟨1, 1, 0, 1, 0, 0, 0, 0, 0, 0⟩, 0) := by simp [nextR]
      rw [hx]
      go_enter Try.func19, Try.ntmps19
      go_wp2_with (first | (go_at_call 12; refine (rstay_yes _ ‹_› _).mono ?_; rintro e w1 ⟨rfl, hb⟩; have hR := ((Row.new w #[.int .i64 0, .int .i64 0, .int .u32 0, .int .u32 0, .int .u32 0, .int .u32 0, .int .i64 0, .int .u32 0, .int .u32 0, .int .u32 0] 30).below hb).ten; obtain ⟨c0, c1, c2, c3, c4, c5, c6, c7, c8, c9, cf⟩ := hR; have hz : w.heap.size < w1.heap.size := by (have := hb.size; simp at this; omega)))
      refine bodyPost_ret (v := .tuple #[.agg #[.int .i64 1, .int .i64 1, .int .u32 0, .int .u32 1, .int .u32 0, .int .u32 0, .int .i64 0, .int .u32 0, .int .u32 0, .int .u32 0], .int .i64 0]) (by simp [results, Try.results19, go_sem, *]) rfl ⟨rfl, ?_⟩
      repeat (first | (with_reducible refine Below.setCell ?_ (by simp only [World.size_setCell, World.size_alloc]; omega) _) | (with_reducible refine Below.alloc ?_ (by simp only [World.size_setCell, World.size_alloc]; omega) _) | (with_reducible exact (below_new w _).trans (hb.mono (by simp))))
    · have hx : (nextR 2) = (⟨2, 2, 0, 0, 1, 0, 0, 0, 0, 0⟩, 0) := by simp [nextR]
      rw [hx]
      go_enter Try.func19, Try.ntmps19
      go_wp2_with (first | (go_at_call 12; refine (rstay_yes _ ‹_› _).mono ?_; rintro e w1 ⟨rfl, hb⟩; have hR := ((Row.new w #[.int .i64 0, .int .i64 0, .int .u32 0, .int .u32 0, .int .u32 0, .int .u32 0, .int .i64 0, .int .u32 0, .int .u32 0, .int .u32 0] 30).below hb).ten; obtain ⟨c0, c1, c2, c3, c4, c5, c6, c7, c8, c9, cf⟩ := hR; have hz : w.heap.size < w1.heap.size := by (have := hb.size; simp at this; omega)))
      refine bodyPost_ret (v := .tuple #[.agg #[.int .i64 2, .int .i64 2, .int .u32 0, .int .u32 0, .int .u32 1, .int .u32 0, .int .i64 0, .int .u32 0, .int .u32 0, .int .u32 0], .int .i64 0]) (by simp [results, Try.results19, go_sem, *]) rfl ⟨rfl, ?_⟩
      repeat (first | (with_reducible refine Below.setCell ?_ (by simp only [World.size_setCell, World.size_alloc]; omega) _) | (with_reducible refine Below.alloc ?_ (by simp only [World.size_setCell, World.size_alloc]; omega) _) | (with_reducible exact (below_new w _).trans (hb.mono (by simp))))
    · have hx : (nextR 3) = (⟨3, 3, 0, 0, 0, 1, 0, 0, 0, 0⟩, 0) := by simp [nextR]
      rw [hx]
      go_enter Try.func19, Try.ntmps19
      go_wp2_with (first | (go_at_call 12; refine (rstay_yes _ ‹_› _).mono ?_; rintro e w1 ⟨rfl, hb⟩; have hR := ((Row.new w #[.int .i64 0, .int .i64 0, .int .u32 0, .int .u32 0, .int .u32 0, .int .u32 0, .int .i64 0, .int .u32 0, .int .u32 0, .int .u32 0] 30).below hb).ten; obtain ⟨c0, c1, c2, c3, c4, c5, c6, c7, c8, c9, cf⟩ := hR; have hz : w.heap.size < w1.heap.size := by (have := hb.size; simp at this; omega)))
      refine bodyPost_ret (v := .tuple #[.agg #[.int .i64 3, .int .i64 3, .int .u32 0, .int .u32 0, .int .u32 0, .int .u32 1, .int .i64 0, .int .u32 0, .int .u32 0, .int .u32 0], .int .i64 0]) (by simp [results, Try.results19, go_sem, *]) rfl ⟨rfl, ?_⟩
      repeat (first | (with_reducible refine Below.setCell ?_ (by simp only [World.size_setCell, World.size_alloc]; omega) _) | (with_reducible refine Below.alloc ?_ (by simp only [World.size_setCell, World.size_alloc]; omega) _) | (with_reducible exact (below_new w _).trans (hb.mono (by simp))))
theorem later_any (d n : Int) (w : World) :
    Calls Try.prog 20 #[.int .i64 d, .int .u32 n] w fun e w' => e = .returned (.tuple #[.agg #[.int .i64 (laterR d n).1.f, .int .i64 (laterR d n).1.k, .int .u32 (laterR d n).1.a0, .int .u32 (laterR d n).1.a1, .int .u32 (laterR d n).1.a2, .int .u32 (laterR d n).1.a3, .int .i64 (laterR d n).1.u, .int .u32 (laterR d n).1.l0, .int .u32 (laterR d n).1.l1, .int .u32 (laterR d n).1.l2], .int .i64 (laterR d n).2]) ∧ Below w.heap.size w w' := by
  rcases hi : inB d with _ | _
  · have hx : (laterR d n) = (pa0, 10) := by simp [laterR, hi]
    rw [hx]
    go_enter Try.func20, Try.ntmps20
    go_wp2_with (first | (go_at_call 11; refine (stay_no _ ‹_› _).mono ?_; rintro e w1 ⟨rfl, hb⟩; have hR := ((Row.new w #[.int .i64 0, .int .i64 0, .int .u32 0, .int .u32 0, .int .u32 0, .int .u32 0, .int .i64 0, .int .u32 0, .int .u32 0, .int .u32 0] 26).below hb).ten; obtain ⟨c0, c1, c2, c3, c4, c5, c6, c7, c8, c9, cf⟩ := hR; have hz : w.heap.size < w1.heap.size := by (have := hb.size; simp at this; omega)) | (go_at_call 41; refine (great_any _ _).mono ?_; rintro e w' ⟨rfl, rfl⟩))
    refine bodyPost_ret (v := .tuple #[.agg #[.int .i64 0, .int .i64 0, .int .u32 0, .int .u32 0, .int .u32 0, .int .u32 0, .int .i64 0, .int .u32 0, .int .u32 0, .int .u32 0], .int .i64 10]) (by simp [results, Try.results20, go_sem, *]) rfl ⟨by simp [pa0], ?_⟩
    repeat (first | (with_reducible refine Below.setCell ?_ (by simp only [World.size_setCell, World.size_alloc]; omega) _) | (with_reducible refine Below.alloc ?_ (by simp only [World.size_setCell, World.size_alloc]; omega) _) | (with_reducible exact (below_new w _).trans (hb.mono (by simp))))
  · by_cases h3 : 1048576 < n
    · have hx : (laterR d n) = (pa0, 1) := by simp [laterR, hi, h3]
      rw [hx]
      go_enter Try.func20, Try.ntmps20
      go_wp2_with (first | (go_at_call 11; refine (stay_yes _ ‹_› _).mono ?_; rintro e w1 ⟨rfl, hb⟩; have hR := ((Row.new w #[.int .i64 0, .int .i64 0, .int .u32 0, .int .u32 0, .int .u32 0, .int .u32 0, .int .i64 0, .int .u32 0, .int .u32 0, .int .u32 0] 26).below hb).ten; obtain ⟨c0, c1, c2, c3, c4, c5, c6, c7, c8, c9, cf⟩ := hR; have hz : w.heap.size < w1.heap.size := by (have := hb.size; simp at this; omega)) | (go_at_call 41; refine (great_any _ _).mono ?_; rintro e w' ⟨rfl, rfl⟩))
      refine bodyPost_ret (v := .tuple #[.agg #[.int .i64 0, .int .i64 0, .int .u32 0, .int .u32 0, .int .u32 0, .int .u32 0, .int .i64 0, .int .u32 0, .int .u32 0, .int .u32 0], .int .i64 1]) (by simp [results, Try.results20, go_sem, *]) rfl ⟨by simp [pa0], ?_⟩
      repeat (first | (with_reducible refine Below.setCell ?_ (by simp only [World.size_setCell, World.size_alloc]; omega) _) | (with_reducible refine Below.alloc ?_ (by simp only [World.size_setCell, World.size_alloc]; omega) _) | (with_reducible exact (below_new w _).trans (hb.mono (by simp))))
    · have hx : (laterR d n) = (⟨d, d, n, 0, 0, 0, 0, 0, 0, 0⟩, 0) := by simp [laterR, hi, h3]
      rw [hx]
      go_enter Try.func20, Try.ntmps20
      go_wp2_with (first | (go_at_call 11; refine (stay_yes _ ‹_› _).mono ?_; rintro e w1 ⟨rfl, hb⟩; have hR := ((Row.new w #[.int .i64 0, .int .i64 0, .int .u32 0, .int .u32 0, .int .u32 0, .int .u32 0, .int .i64 0, .int .u32 0, .int .u32 0, .int .u32 0] 26).below hb).ten; obtain ⟨c0, c1, c2, c3, c4, c5, c6, c7, c8, c9, cf⟩ := hR; have hz : w.heap.size < w1.heap.size := by (have := hb.size; simp at this; omega)) | (go_at_call 41; refine (great_any _ _).mono ?_; rintro e w' ⟨rfl, rfl⟩))
      refine bodyPost_ret (v := .tuple #[.agg #[.int .i64 d, .int .i64 d, .int .u32 n, .int .u32 0, .int .u32 0, .int .u32 0, .int .i64 0, .int .u32 0, .int .u32 0, .int .u32 0], .int .i64 0]) (by simp [results, Try.results20, go_sem, *]) rfl ⟨rfl, ?_⟩
      repeat (first | (with_reducible refine Below.setCell ?_ (by simp only [World.size_setCell, World.size_alloc]; omega) _) | (with_reducible refine Below.alloc ?_ (by simp only [World.size_setCell, World.size_alloc]; omega) _) | (with_reducible exact (below_new w _).trans (hb.mono (by simp))))
theorem rlater_any (d n : Int) (w : World) :
    Calls Try.prog 21 #[.int .i64 d, .int .u32 n] w fun e w' => e = .returned (.tuple #[.agg #[.int .i64 (laterR d n).1.f, .int .i64 (laterR d n).1.k, .int .u32 (laterR d n).1.a0, .int .u32 (laterR d n).1.a1, .int .u32 (laterR d n).1.a2, .int .u32 (laterR d n).1.a3, .int .i64 (laterR d n).1.u, .int .u32 (laterR d n).1.l0, .int .u32 (laterR d n).1.l1, .int .u32 (laterR d n).1.l2], .int .i64 (laterR d n).2]) ∧ Below w.heap.size w w' := by
  rcases hi : inB d with _ | _
  · have hx : (laterR d n) = (pa0, 10) := by simp [laterR, hi]
    rw [hx]
    go_enter Try.func21, Try.ntmps21
    go_wp2_with (first | (go_at_call 12; refine (rstay_no _ ‹_› _).mono ?_; rintro e w1 ⟨rfl, hb⟩; have hR := ((Row.new w #[.int .i64 0, .int .i64 0, .int .u32 0, .int .u32 0, .int .u32 0, .int .u32 0, .int .i64 0, .int .u32 0, .int .u32 0, .int .u32 0] 30).below hb).ten; obtain ⟨c0, c1, c2, c3, c4, c5, c6, c7, c8, c9, cf⟩ := hR; have hz : w.heap.size < w1.heap.size := by (have := hb.size; simp at this; omega)))
    refine bodyPost_ret (v := .tuple #[.agg #[.int .i64 0, .int .i64 0, .int .u32 0, .int .u32 0, .int .u32 0, .int .u32 0, .int .i64 0, .int .u32 0, .int .u32 0, .int .u32 0], .int .i64 10]) (by simp [results, Try.results21, go_sem, *]) rfl ⟨by simp [pa0], ?_⟩
    repeat (first | (with_reducible refine Below.setCell ?_ (by simp only [World.size_setCell, World.size_alloc]; omega) _) | (with_reducible refine Below.alloc ?_ (by simp only [World.size_setCell, World.size_alloc]; omega) _) | (with_reducible exact (below_new w _).trans (hb.mono (by simp))))
  · by_cases h3 : 1048576 < n
    · have hx : (laterR d n) = (pa0, 1) := by simp [laterR, hi, h3]
      rw [hx]
      go_enter Try.func21, Try.ntmps21
      go_wp2_with (first | (go_at_call 12; refine (rstay_yes _ ‹_› _).mono ?_; rintro e w1 ⟨rfl, hb⟩; have hR := ((Row.new w #[.int .i64 0, .int .i64 0, .int .u32 0, .int .u32 0, .int .u32 0, .int .u32 0, .int .i64 0, .int .u32 0, .int .u32 0, .int .u32 0] 30).below hb).ten; obtain ⟨c0, c1, c2, c3, c4, c5, c6, c7, c8, c9, cf⟩ := hR; have hz : w.heap.size < w1.heap.size := by (have := hb.size; simp at this; omega)))
      refine bodyPost_ret (v := .tuple #[.agg #[.int .i64 0, .int .i64 0, .int .u32 0, .int .u32 0, .int .u32 0, .int .u32 0, .int .i64 0, .int .u32 0, .int .u32 0, .int .u32 0], .int .i64 1]) (by simp [results, Try.results21, go_sem, *]) rfl ⟨by simp [pa0], ?_⟩
      repeat (first | (with_reducible refine Below.setCell ?_ (by simp only [World.size_setCell, World.size_alloc]; omega) _) | (with_reducible refine Below.alloc ?_ (by simp only [World.size_setCell, World.size_alloc]; omega) _) | (with_reducible exact (below_new w _).trans (hb.mono (by simp))))
    · have hx : (laterR d n) = (⟨d, d, n, 0, 0, 0, 0, 0, 0, 0⟩, 0) := by simp [laterR, hi, h3]
      rw [hx]
      go_enter Try.func21, Try.ntmps21
      go_wp2_with (first | (go_at_call 12; refine (rstay_yes _ ‹_› _).mono ?_; rintro e w1 ⟨rfl, hb⟩; have hR := ((Row.new w #[.int .i64 0, .int .i64 0, .int .u32 0, .int .u32 0, .int .u32 0, .int .u32 0, .int .i64 0, .int .u32 0, .int .u32 0, .int .u32 0] 30).below hb).ten; obtain ⟨c0, c1, c2, c3, c4, c5, c6, c7, c8, c9, cf⟩ := hR; have hz : w.heap.size < w1.heap.size := by (have := hb.size; simp at this; omega)))
      refine bodyPost_ret (v := .tuple #[.agg #[.int .i64 d, .int .i64 d, .int .u32 n, .int .u32 0, .int .u32 0, .int .u32 0, .int .i64 0, .int .u32 0, .int .u32 0, .int .u32 0], .int .i64 0]) (by simp [results, Try.results21, go_sem, *]) rfl ⟨rfl, ?_⟩
      repeat (first | (with_reducible refine Below.setCell ?_ (by simp only [World.size_setCell, World.size_alloc]; omega) _) | (with_reducible refine Below.alloc ?_ (by simp only [World.size_setCell, World.size_alloc]; omega) _) | (with_reducible exact (below_new w _).trans (hb.mono (by simp))))
end Go.Proofs.Ytfmnbkcjibhloaa
