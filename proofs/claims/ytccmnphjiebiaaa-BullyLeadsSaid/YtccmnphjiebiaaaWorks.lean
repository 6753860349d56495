/- The law's own trial of two nodes returns true. No condition. -/
import Derived.Test.YtccmnphjiebiaaaPw
namespace Go.Proofs.Ytccmnphjiebiaaa
open Go.RowKit G
set_option linter.unusedVariables false
set_option linter.unusedSimpArgs false
attribute [local go_sem] upon_value upon_skip upon_enter runAt_run
theorem PW.base {W0 W w : World} {P D S : Nat} {v : Value} {s : PN} (h : PW W w P D S v s) (hb : Below W0.heap.size W0 W) : PW W0 w P D S v s := ⟨h.p, below_of hb h.b, fun c hc => Nat.le_trans hb.size (h.f c hc)⟩
def W1 : PN := PN.new 1 0 2 2
def W2 : PN := W1.tick 1
def W3 : PN := W2.claim 1 true 1
def C1 : PN := PN.new 3 0 2 2
def C2 : PN := C1.tick 3
theorem w1q : PI 0 0 1 W1 := PI.new 1 0 2 2 (by decide)
theorem w2q : PI 1 16 1 W2 := w1q.tick
theorem w3q : PI 1 24 1 W3 := w2q.claim 1 true
theorem c1q : PI 0 0 3 C1 := PI.new 3 0 2 2 (by decide)
theorem c2q : PI 1 16 3 C2 := c1q.tick
theorem c3q : PI 1 0 3 C2.out := c2q.out
theorem x2 : W2.x = ⟨1, 0, 2, 3, -1, 0, 0, []⟩ := by rfl
theorem x3 : W3.x = ⟨1, 0, 2, 4, 0, 1, 0, []⟩ := by rfl
theorem y2 : C2.x = ⟨3, 0, 2, 1, -1, 0, 0, [⟨1, 0, 1, 0⟩, ⟨1, 0, 2, 0⟩]⟩ := by rfl
theorem o2 : C2.out.x = ⟨3, 0, 2, 1, -1, 0, 0, []⟩ := by rfl
theorem t1 : C2.out.claim 1 true 3 = C2.out := by rfl
theorem t2 : C2.out.take ⟨9, 1, 0, 0⟩ = C2.out := by rfl
theorem claim5 {w : World} {Q E R : Nat} {u : Value} (h : PAt w Q E R u C2.out) : Calls Try.prog 19 #[.pointer (some ⟨Q, 0, none⟩), .int .i64 1, .bool true] w fun e w' => e = .returned (.int .i64 5) ∧ ∃ u', PAt w' Q E R u' C2.out ∧ Stp (fp Q E R u) (fp Q E R u') w w' :=
  (pclaim (n := 3) h rfl (by decide) (by decide) 1 true).mono fun _ _ ⟨he, u', hp, st⟩ => ⟨he, u', t1 ▸ hp, st⟩
theorem take6 {w : World} {Q E R : Nat} {u : Value} (h : PAt w Q E R u C2.out) : Calls Try.prog 10 #[.pointer (some ⟨Q, 0, none⟩), .agg #[.int .i64 9, .int .i64 1, .int .i64 0, .int .i64 0]] w fun e w' => e = .returned (.int .i64 6) ∧ ∃ u', PAt w' Q E R u' C2.out ∧ Stp (fp Q E R u) (fp Q E R u') w w' :=
  (ntake_any (n := 3) h rfl ⟨9, 1, 0, 0⟩ (by decide) (by decide) (by decide) (by decide)).mono fun _ _ ⟨he, u', hp, st⟩ => ⟨he, u', t2 ▸ hp, st⟩
theorem born1 (w : World) : Calls Try.prog 6 #[.int .i64 1, .int .i64 0, .int .i64 2, .int .i64 2] w fun e w' => ∃ P D S, e = .returned (.tuple #[ptr P, .int .i64 0]) ∧ PW w w' P D S (.slice none 0 0) W1 := PW.born 1 0 2 2 w (by decide)
theorem born3 (w : World) : Calls Try.prog 6 #[.int .i64 3, .int .i64 0, .int .i64 2, .int .i64 2] w fun e w' => ∃ P D S, e = .returned (.tuple #[ptr P, .int .i64 0]) ∧ PW w w' P D S (.slice none 0 0) C1 := PW.born 3 0 2 2 w (by decide)
set_option maxHeartbeats 4000000 in
set_option maxRecDepth 100000 in
theorem works_any (w : World) : Calls Try.prog 24 #[] w fun e w' => e = .returned (.bool true) ∧ Below w.heap.size w w' := by
  go_enter Try.func24, Try.ntmps24
  go_upto_region 4 with (go_at_call 6; (with_reducible refine (born1 _).mono ?_); rintro e' w1 ⟨P, D, S, rfl, h1⟩)
  have H1 := Lib.hid (show PW w w1 P D S (.slice none 0 0) W1 from h1)
  clear h1
  go_upto_region 5 with (go_at_call 21; (with_reducible refine (H1.out.wants w1q 0 false rfl).mono ?_); rintro e' w2 ⟨rfl, rfl⟩)
  go_upto_region 6 with (go_at_call 8; (with_reducible refine (H1.out.tick w1q (by decide) (by decide)).mono ?_); rintro e' w3 ⟨rfl, u3, h3⟩)
  have H3 := Lib.hid (show PW w w3 P D S u3 W2 from h3)
  clear h3 H1
  go_upto_region 7 with (go_at_call 21; (with_reducible refine (H3.out.wants w2q 1 true rfl).mono ?_); rintro e' w4 ⟨rfl, rfl⟩)
  go_upto_region 8 with (go_at_call 19; (with_reducible refine (H3.out.claim w2q (by decide) 1 true 0 rfl).mono ?_); rintro e' w5 ⟨rfl, u5, h5⟩)
  have H5 := Lib.hid (show PW w w5 P D S u5 W3 from h5)
  clear h5 H3
  go_upto_region 9 with (go_at_call 23; (with_reducible refine (H5.out.state 4 0 1 rfl rfl rfl).mono ?_); rintro e' w6 ⟨rfl, rfl⟩)
  have H6 := Lib.hid (H5.out.drew.b)
  clear H5
  go_upto_region 12 with (go_at_call 6; (with_reducible refine (born3 _).mono ?_); rintro e' w7 ⟨Q, E, R, rfl, h7⟩)
  have H7 := Lib.hid (show PW w w7 Q E R (.slice none 0 0) C1 from h7.base H6.out)
  clear h7 H6
  go_upto_region 13 with (go_at_call 8; (with_reducible refine (H7.out.tick c1q (by decide) (by decide)).mono ?_); rintro e' w8 ⟨rfl, u8, h8⟩)
  have H8 := Lib.hid (show PW w w8 Q E R u8 C2 from h8)
  clear h8 H7
  go_upto_region 14 with (first
    | (go_at_call 15; (with_reducible refine (H8.out.out).mono ?_); rintro e' w9 ⟨rfl, h9, hw9, hl9, hf9, hn9⟩; have H9 := Lib.hid (And.intro h9 (And.intro hw9 hl9)); clear h9 hw9 hl9 hf9 hn9)
    | (go_at_call 14; (with_reducible refine (from_any H9.out.2.1 H9.out.2.2 (by decide)).mono ?_); rintro e' w10 ⟨u10, rfl, hs10, hb10, hn10⟩))
  have hin := hs10.read
  have h10 := H9.out.1.below hb10
  have hlt := H9.out.1.p.lts
  rcases hin with ⟨-, hn⟩ | ⟨g, cap, rfl, hg⟩
  · cases hn
  have hgn : w9.heap.size ≤ g := hn10 g (by simp [own, Value.ownBlock])
  have hgl : g < w10.heap.size := own_lt hs10 g (by simp [own, Value.ownBlock])
  have z0 : w10.cell? ⟨g, 0, none⟩ = some (.int .i64 1) := (hg 0 _ rfl).1
  have z1 : w10.cell? ⟨g, 1, none⟩ = some (.int .i64 0) := (hg 0 _ rfl).2.1
  have z2 : w10.cell? ⟨g, 2, none⟩ = some (.int .i64 1) := (hg 0 _ rfl).2.2.1
  have z3 : w10.cell? ⟨g, 3, none⟩ = some (.int .i64 0) := (hg 0 _ rfl).2.2.2
  have z6 : w10.cell? ⟨g, 6, none⟩ = some (.int .i64 2) := (hg 1 _ rfl).2.2.1
  have HP := Lib.hid h10
  clear h10 hlt hg hgn hgl hs10 hb10 hn10 H9 H8
  go_wp2_with (first
    | (go_at_call 19; (with_reducible refine (claim5 HP.out.p).mono ?_); rintro e' w11 ⟨rfl, u11, hp11, st11⟩; have HQ := Lib.hid (HP.out.step hp11 st11); clear hp11 st11)
    | (go_at_call 10; (with_reducible refine (take6 HQ.out.p).mono ?_); rintro e' w12 ⟨rfl, u12, hp12, st12⟩; have HR := Lib.hid (HQ.out.step hp12 st12); clear hp12 st12))
  go_ret
  exact ⟨rfl, HR.out.b⟩
end Go.Proofs.Ytccmnphjiebiaaa
