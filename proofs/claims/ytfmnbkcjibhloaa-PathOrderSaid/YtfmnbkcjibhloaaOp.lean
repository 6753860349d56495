/- What a way and a time are, where they come in as arguments: whole numbers of their kinds. -/
import Derived.Test.YtfmnbkcjibhloaaRChk
import Derived.WalkKit
import Derived.ProofKit
import Derived.OpenShut
import Derived.ChangeOld
import Derived.Below
namespace Go.Proofs.Ytfmnbkcjibhloaa
open Go.ChangeShapes Go.WideShapes Go.ChangeAt Go.RowKit
set_option linter.unusedVariables false
set_option linter.unusedSimpArgs false
section
variable {H : Type} {enc : TypeId × Value → H} {w : World} {base : Nat} {spare : Nat → Bool} {held : Bool}
theorem one_int {t : TypeId} {k : IntKind} {m : Nat} {c : Value} {y : Option (DataW H × List MemPlace)} (ht : Try.prog.underlying t = some (.int k))
    (h : DataW.trod enc Try.prog w base spare held m t [c] = y) (hy : ∃ x, y = some x) : ∃ n, c = .int k n ∧ (Lit.int k n).wf = true := by
  obtain ⟨x, rfl⟩ := hy
  obtain ⟨n, h1, h2, h3⟩ := DataW.trod_int ht h
  exact ⟨n, by simpa using h1, h3⟩
theorem u32_wf {n : Int} (h : (Lit.int .u32 n).wf = true) : U32 n := by
  simp [Lit.wf, IntKind.min, IntKind.max, IntKind.signed, IntKind.bits] at h
  simpa [U32] using h
theorem some_at {A : Type} {xs : List A} {i : Nat} (h : i < xs.length) : ∃ x, xs[i]? = some x := ⟨_, List.getElem?_eq_getElem h⟩
theorem ten_of {cs : Array Value} (h : cs.toList.length = 10) : ∃ c0 c1 c2 c3 c4 c5 c6 c7 c8 c9, cs = #[c0, c1, c2, c3, c4, c5, c6, c7, c8, c9] := by
  obtain ⟨l⟩ := cs
  match l, h with
  | [c0, c1, c2, c3, c4, c5, c6, c7, c8, c9], _ => exact ⟨c0, c1, c2, c3, c4, c5, c6, c7, c8, c9, rfl⟩
theorem five_of {cs : Array Value} (h : cs.toList.length = 5) : ∃ c0 c1 c2 c3 c4, cs = #[c0, c1, c2, c3, c4] := by
  obtain ⟨l⟩ := cs
  match l, h with
  | [c0, c1, c2, c3, c4], _ => exact ⟨c0, c1, c2, c3, c4, rfl⟩
theorem open_pa {r : Reach} {b0 : Nat} {v : Value} {d : DataW H} {ps : List MemPlace} (hval : Value.okWide Try.prog w r b0 30 v) (hd : DataW.Trod enc Try.prog w base spare held 30 v d ps) :
    ∃ p : Pa, v = .agg #[.int .i64 p.f, .int .i64 p.k, .int .u32 p.a0, .int .u32 p.a1, .int .u32 p.a2, .int .u32 p.a3, .int .i64 p.u, .int .u32 p.l0, .int .u32 p.l1, .int .u32 p.l2] ∧ PaOk p := by
  have c30 : Try.prog.cellsOf 30 = 10 := by kernel_rfl
  have c3 : Try.prog.cellsOf 3 = 1 := by kernel_rfl
  have c22 : Try.prog.cellsOf 22 = 1 := by kernel_rfl
  have c23 : Try.prog.cellsOf 23 = 4 := by kernel_rfl
  have c24 : Try.prog.cellsOf 24 = 3 := by kernel_rfl
  obtain ⟨cs, rfl, hcs⟩ := okWide_struct Try.underlying30 hval
  obtain ⟨fuel, hf⟩ := hd
  obtain ⟨xs, m, _, _, hlen, hl, hfld⟩ := DataW.trod_struct Try.underlying30 hf
  obtain ⟨e0, e1, e2, e3, e4, e5, e6, e7, e8, e9, rfl⟩ := ten_of (cs := cs) (by rw [c30] at hcs; simpa using hcs)
  have hl5 : xs.length = 5 := hl
  have f0 : DataW.trod enc Try.prog w base spare held m 3 (([e0, e1, e2, e3, e4, e5, e6, e7, e8, e9].drop 0).take (Try.prog.cellsOf 3)) = xs[0]? := hfld 0 _ rfl
  rw [c3] at f0
  have f0 : DataW.trod enc Try.prog w base spare held m 3 [e0] = xs[0]? := f0
  have f1 : DataW.trod enc Try.prog w base spare held m 3 (([e0, e1, e2, e3, e4, e5, e6, e7, e8, e9].drop 1).take (Try.prog.cellsOf 3)) = xs[1]? := hfld 1 _ rfl
  rw [c3] at f1
  have f1 : DataW.trod enc Try.prog w base spare held m 3 [e1] = xs[1]? := f1
  have f2 : DataW.trod enc Try.prog w base spare held m 23 (([e0, e1, e2, e3, e4, e5, e6, e7, e8, e9].drop 2).take (Try.prog.cellsOf 23)) = xs[2]? := hfld 2 _ rfl
  rw [c23] at f2
  have f2 : DataW.trod enc Try.prog w base spare held m 23 [e2, e3, e4, e5] = xs[2]? := f2
  have f3 : DataW.trod enc Try.prog w base spare held m 3 (([e0, e1, e2, e3, e4, e5, e6, e7, e8, e9].drop 6).take (Try.prog.cellsOf 3)) = xs[3]? := hfld 3 _ rfl
  rw [c3] at f3
  have f3 : DataW.trod enc Try.prog w base spare held m 3 [e6] = xs[3]? := f3
  have f4 : DataW.trod enc Try.prog w base spare held m 24 (([e0, e1, e2, e3, e4, e5, e6, e7, e8, e9].drop 7).take (Try.prog.cellsOf 24)) = xs[4]? := hfld 4 _ rfl
  rw [c24] at f4
  have f4 : DataW.trod enc Try.prog w base spare held m 24 [e7, e8, e9] = xs[4]? := f4
  obtain ⟨g0, rfl, _⟩ := one_int Try.underlying3 f0 (some_at (by omega))
  obtain ⟨g1, rfl, _⟩ := one_int Try.underlying3 f1 (some_at (by omega))
  obtain ⟨g6, rfl, _⟩ := one_int Try.underlying3 f3 (some_at (by omega))
  obtain ⟨x2, hx2⟩ := some_at (xs := xs) (i := 2) (by omega)
  obtain ⟨x4, hx4⟩ := some_at (xs := xs) (i := 4) (by omega)
  rw [hx2] at f2
  rw [hx4] at f4
  obtain ⟨ys, n, _, _, _, hy4, hya⟩ := DataW.trod_array Try.underlying23 f2
  obtain ⟨zs, n', _, _, _, hz3, hza⟩ := DataW.trod_array Try.underlying24 f4
  have a0 := hya 0 (by omega)
  have a1 := hya 1 (by omega)
  have a2 := hya 2 (by omega)
  have a3 := hya 3 (by omega)
  have l0 := hza 0 (by omega)
  have l1 := hza 1 (by omega)
  have l2 := hza 2 (by omega)
  rw [c22] at a0 a1 a2 a3 l0 l1 l2
  obtain ⟨g2, rfl, k2⟩ := one_int Try.underlying22 a0 (some_at (by omega))
  obtain ⟨g3, rfl, k3⟩ := one_int Try.underlying22 a1 (some_at (by omega))
  obtain ⟨g4, rfl, k4⟩ := one_int Try.underlying22 a2 (some_at (by omega))
  obtain ⟨g5, rfl, k5⟩ := one_int Try.underlying22 a3 (some_at (by omega))
  obtain ⟨g7, rfl, k7⟩ := one_int Try.underlying22 l0 (some_at (by omega))
  obtain ⟨g8, rfl, k8⟩ := one_int Try.underlying22 l1 (some_at (by omega))
  obtain ⟨g9, rfl, k9⟩ := one_int Try.underlying22 l2 (some_at (by omega))
  exact ⟨⟨g0, g1, g2, g3, g4, g5, g6, g7, g8, g9⟩, rfl, u32_wf k2, u32_wf k3, u32_wf k4, u32_wf k5, u32_wf k7, u32_wf k8, u32_wf k9⟩
/-- A time: Epoch, Depth, Loop. -/
structure Tm where
  e : Int
  d : Int
  l0 : Int
  l1 : Int
  l2 : Int
def TmOk (t : Tm) : Prop := U32 t.e ∧ U32 t.l0 ∧ U32 t.l1 ∧ U32 t.l2
theorem open_tm {r : Reach} {b0 : Nat} {v : Value} {d : DataW H} {ps : List MemPlace} (hval : Value.okWide Try.prog w r b0 49 v) (hd : DataW.Trod enc Try.prog w base spare held 49 v d ps) :
    ∃ t : Tm, v = .agg #[.int .u32 t.e, .int .i64 t.d, .int .u32 t.l0, .int .u32 t.l1, .int .u32 t.l2] ∧ TmOk t := by
  have c49 : Try.prog.cellsOf 49 = 5 := by kernel_rfl
  have c3 : Try.prog.cellsOf 3 = 1 := by kernel_rfl
  have c22 : Try.prog.cellsOf 22 = 1 := by kernel_rfl
  have c24 : Try.prog.cellsOf 24 = 3 := by kernel_rfl
  obtain ⟨cs, rfl, hcs⟩ := okWide_struct Try.underlying49 hval
  obtain ⟨fuel, hf⟩ := hd
  obtain ⟨xs, m, _, _, hlen, hl, hfld⟩ := DataW.trod_struct Try.underlying49 hf
  obtain ⟨e0, e1, e2, e3, e4, rfl⟩ := five_of (cs := cs) (by rw [c49] at hcs; simpa using hcs)
  have hl3 : xs.length = 3 := hl
  have f0 : DataW.trod enc Try.prog w base spare held m 22 (([e0, e1, e2, e3, e4].drop 0).take (Try.prog.cellsOf 22)) = xs[0]? := hfld 0 _ rfl
  rw [c22] at f0
  have f0 : DataW.trod enc Try.prog w base spare held m 22 [e0] = xs[0]? := f0
  have f1 : DataW.trod enc Try.prog w base spare held m 3 (([e0, e1, e2, e3, e4].drop 1).take (Try.prog.cellsOf 3)) = xs[1]? := hfld 1 _ rfl
  rw [c3] at f1
  have f1 : DataW.trod enc Try.prog w base spare held m 3 [e1] = xs[1]? := f1
  have f2 : DataW.trod enc Try.prog w base spare held m 24 (([e0, e1, e2, e3, e4].drop 2).take (Try.prog.cellsOf 24)) = xs[2]? := hfld 2 _ rfl
  rw [c24] at f2
  have f2 : DataW.trod enc Try.prog w base spare held m 24 [e2, e3, e4] = xs[2]? := f2
  obtain ⟨g0, rfl, k0⟩ := one_int Try.underlying22 f0 (some_at (by omega))
  obtain ⟨g1, rfl, _⟩ := one_int Try.underlying3 f1 (some_at (by omega))
  obtain ⟨x2, hx2⟩ := some_at (xs := xs) (i := 2) (by omega)
  rw [hx2] at f2
  obtain ⟨zs, n', _, _, _, hz3, hza⟩ := DataW.trod_array Try.underlying24 f2
  have l0 := hza 0 (by omega)
  have l1 := hza 1 (by omega)
  have l2 := hza 2 (by omega)
  rw [c22] at l0 l1 l2
  obtain ⟨g7, rfl, k7⟩ := one_int Try.underlying22 l0 (some_at (by omega))
  obtain ⟨g8, rfl, k8⟩ := one_int Try.underlying22 l1 (some_at (by omega))
  obtain ⟨g9, rfl, k9⟩ := one_int Try.underlying22 l2 (some_at (by omega))
  exact ⟨⟨g0, g1, g7, g8, g9⟩, rfl, u32_wf k0, u32_wf k7, u32_wf k8, u32_wf k9⟩
end
end Go.Proofs.Ytfmnbkcjibhloaa
