/- A link is cut, or mended; new links. Conditions: the links lie whole in memory; not many letters are there. -/
import Derived.Test.YtppjjbhbbnnpgaaTake
import Derived.StillTailTactics
namespace Go.Proofs.Ytppjjbhbbnnpgaa
open Go.RowKit G
set_option linter.unusedVariables false
set_option linter.unusedSimpArgs false
attribute [local go_sem] upon_value upon_skip upon_enter runAt_run
def cutE (n a b : Int) : Int := if linkB n a b = true then 0 else 1
def Wn.cut (x : Wn) (a b : Int) (o : Bool) : Wn :=
  if linkB x.n a b = true then (if o = true then { x with out := outSet x.out a.toNat b.toNat true, ls := keepL a b x.ls, lost := x.lost + ((x.ls.length : Int) - ((keepL a b x.ls).length : Int)) } else { x with out := outSet x.out a.toNat b.toNat false }) else x
structure TX (w0 w : World) (P : Nat) (v0 v : Value) (x : Wn) (A B : Nat) (a b : Int) : Prop where
  p : WAt 58 34 w P v x
  ra : Row w A #[.int .i64 a] 3
  rb : Row w B #[.int .i64 b] 3
  nA : A ∉ P :: own v
  nB : B ∉ P :: own v
  u : Stp (wfp P v0) (wfp P v) w0 w
section
variable {w0 w w' : World} {P : Nat} {v0 v : Value} {x : Wn} {A B : Nat} {a b : Int}
theorem TX.start (h : WAt 58 34 w P v x) (a b : Int) : TX w ((w.alloc (.cells #[.int .i64 a] 3)).alloc (.cells #[.int .i64 b] 3)) P v v x w.heap.size (w.heap.size + 1) a b := by
  have e : (w.alloc (.cells #[.int .i64 a] 3)).heap.size = w.heap.size + 1 := by simp
  rw [← e]
  exact ⟨(h.below (below_new w _)).below (below_new _ _), (Row.new _ _ _).alloc _, Row.new _ _ _, fun hm => absurd (h.lts _ hm) (Nat.lt_irrefl _), fun hm => absurd (h.lts _ hm) (by simp), Stp.same (Kept.of_below (below_of (below_new w _) (below_new _ _)))⟩
theorem TX.drewN (h : TX w0 w P v0 v x A B a b) (k : Nat) : TX w0 (w.drewN k) P v0 v x A B a b := ⟨h.p.drewN k, h.ra.drewN k, h.rb.drewN k, h.nA, h.nB, h.u.drewN k⟩
theorem TX.below (h : TX w0 w P v0 v x A B a b) (hb : Below w.heap.size w w') : TX w0 w' P v0 v x A B a b := ⟨h.p.below hb, h.ra.below hb, h.rb.below hb, h.nA, h.nB, h.u.trans (Stp.same (Kept.of_below hb))⟩
theorem TX.setO (h : TX w0 w P v0 v x A B a b) {f t : Nat} (hf : f < 16) (ht : t < 16) (o : Bool) : TX w0 (w.setCell ⟨P, 2 + f * 16 + t, none⟩ (.bool o)) P v0 v { x with out := outSet x.out f t o } A B a b :=
  ⟨h.p.setO hf ht o, h.ra.setOther P _ (fun e => h.nA (by rw [← e]; exact List.mem_cons_self ..)) _, h.rb.setOther P _ (fun e => h.nB (by rw [← e]; exact List.mem_cons_self ..)) _, h.nA, h.nB, h.u.trans (stpC ..)⟩
end
set_option maxHeartbeats 4000000 in
theorem cut_no {w : World} {P : Nat} {v : Value} {x : Wn} (h : WAt 58 34 w P v x) (a b : Int) (ob : Bool) (hl : linkB x.n a b = false) :
    Calls Try.prog 15 #[.pointer (some ⟨P, 0, none⟩), .int .i64 a, .int .i64 b, .bool ob] w fun e w' => e = .returned (.int .i64 1) ∧ ∃ u, WAt 58 34 w' P u x ∧ Stp (wfp P v) (wfp P u) w w' := by
  have HL := Lib.hid hl
  clear hl
  go_enter Try.func15, Try.ntmps15
  go_upto_region 1 with (fail)
  have HT := Lib.hid (TX.start h a b)
  clear h
  generalize (w.alloc (.cells #[.int .i64 a] 3)).alloc (.cells #[.int .i64 b] 3) = wc at HT ⊢
  generalize hA : w.heap.size = A at HT ⊢
  clear hA
  have c0 : wc.cell? ⟨P, 0, none⟩ = some (.int .i64 x.n) := HT.out.p.c0
  have c1 : wc.cell? ⟨P, 1, none⟩ = some v := HT.out.p.c1
  have cl : wc.cell? ⟨P, 258, none⟩ = some (.int .i64 x.lost) := HT.out.p.cl
  have cf : ∀ i, wc.frozen? ⟨P, i, none⟩ = false := HT.out.p.free
  have a0 : wc.cell? ⟨A, 0, none⟩ = some (.int .i64 a) := HT.out.ra.cell 0 _ rfl
  have b0 : wc.cell? ⟨A + 1, 0, none⟩ = some (.int .i64 b) := HT.out.rb.cell 0 _ rfl
  go_wp2_with (go_at_call 24; (with_reducible refine (link_any c0 a b).mono ?_); rw [HL.out]; rintro e1 w1 ⟨rfl, hw1⟩; obtain rfl := hw1.symm)
  go_ret
  exact ⟨rfl, v, HT.out.p, HT.out.u⟩
set_option maxHeartbeats 4000000 in
theorem cut_off {w : World} {P : Nat} {v : Value} {x : Wn} (h : WAt 58 34 w P v x) (f t : Nat) (hf : f < 16) (ht : t < 16) (hl : linkB x.n f t = true) :
    Calls Try.prog 15 #[.pointer (some ⟨P, 0, none⟩), .int .i64 f, .int .i64 t, .bool false] w fun e w' => e = .returned (.int .i64 0) ∧ ∃ u, WAt 58 34 w' P u { x with out := outSet x.out f t false } ∧ Stp (wfp P v) (wfp P u) w w' := by
  have HL := Lib.hid hl
  have HFT := Lib.hid (And.intro hf ht)
  have hf2 : (f : Int) < 16 := by omega
  have ht2 : (t : Int) < 16 := by omega
  clear hl hf ht
  go_enter Try.func15, Try.ntmps15
  go_upto_region 1 with (fail)
  have HT := Lib.hid (TX.start h f t)
  clear h
  generalize (w.alloc (.cells #[.int .i64 f] 3)).alloc (.cells #[.int .i64 t] 3) = wc at HT ⊢
  generalize hA : w.heap.size = A at HT ⊢
  clear hA
  have c0 : wc.cell? ⟨P, 0, none⟩ = some (.int .i64 x.n) := HT.out.p.c0
  have c1 : wc.cell? ⟨P, 1, none⟩ = some v := HT.out.p.c1
  have cl : wc.cell? ⟨P, 258, none⟩ = some (.int .i64 x.lost) := HT.out.p.cl
  have cf : ∀ i, wc.frozen? ⟨P, i, none⟩ = false := HT.out.p.free
  have a0 : wc.cell? ⟨A, 0, none⟩ = some (.int .i64 f) := HT.out.ra.cell 0 _ rfl
  have b0 : wc.cell? ⟨A + 1, 0, none⟩ = some (.int .i64 t) := HT.out.rb.cell 0 _ rfl
  have co : wc.cell? ⟨P, 2 + f * 16 + t, none⟩ = some (.bool (x.out f t)) := HT.out.p.co HFT.out.1 HFT.out.2
  go_upto_region 3 with (go_at_call 24; (with_reducible refine (link_any c0 f t).mono ?_); rw [HL.out]; rintro e1 w1 ⟨rfl, hw1⟩; obtain rfl := hw1.symm)
  go_still_tail 8, (by kernel_rfl)
  change wpList _ _ _ _ _ wc.drew
  have HT2 := Lib.hid ((HT.out.drewN 1).setO HFT.out.1 HFT.out.2 false)
  go_wp2
  go_ret
  exact ⟨rfl, v, HT2.out.p, HT2.out.u⟩
theorem keepL_le (a b : Int) (ls : List Lt) : (keepL a b ls).length ≤ ls.length := List.length_filter_le _ _
set_option maxHeartbeats 4000000 in
theorem cut_nil {w : World} {P : Nat} {v : Value} {x : Wn} (h : WAt 58 34 w P v x) (hm : x.ls.length ≤ 1000) (hc0 : 0 ≤ x.lost) (hc1 : x.lost ≤ 900000) (f t : Nat) (hf : f < 16) (ht : t < 16) (hl : linkB x.n f t = true) (hv : v = .slice none 0 0) (hn : x.ls = []) :
    Calls Try.prog 15 #[.pointer (some ⟨P, 0, none⟩), .int .i64 f, .int .i64 t, .bool true] w fun e w' => e = .returned (.int .i64 0) ∧ ∃ u, WAt 58 34 w' P u { x with out := outSet x.out f t true, ls := keepL f t x.ls, lost := x.lost + ((x.ls.length : Int) - ((keepL f t x.ls).length : Int)) } ∧ Stp (wfp P v) (wfp P u) w w' := by
  have HL := Lib.hid hl
  have HFT := Lib.hid (And.intro hf (And.intro ht (And.intro hm (And.intro hc0 hc1))))
  have hf2 : (f : Int) < 16 := by omega
  have ht2 : (t : Int) < 16 := by omega
  clear hl hf ht hm hc0 hc1
  subst hv
  have HN := Lib.hid hn
  clear hn
  go_enter Try.func15, Try.ntmps15
  go_upto_region 1 with (fail)
  have HT := Lib.hid (TX.start h f t)
  clear h
  generalize (w.alloc (.cells #[.int .i64 f] 3)).alloc (.cells #[.int .i64 t] 3) = wc at HT ⊢
  generalize hA : w.heap.size = A at HT ⊢
  clear hA
  have c0 : wc.cell? ⟨P, 0, none⟩ = some (.int .i64 x.n) := HT.out.p.c0
  have c1 : wc.cell? ⟨P, 1, none⟩ = some (.slice none 0 0) := HT.out.p.c1
  have cl : wc.cell? ⟨P, 258, none⟩ = some (.int .i64 x.lost) := HT.out.p.cl
  have cf : ∀ i, wc.frozen? ⟨P, i, none⟩ = false := HT.out.p.free
  have a0 : wc.cell? ⟨A, 0, none⟩ = some (.int .i64 f) := HT.out.ra.cell 0 _ rfl
  have b0 : wc.cell? ⟨A + 1, 0, none⟩ = some (.int .i64 t) := HT.out.rb.cell 0 _ rfl
  have co : wc.cell? ⟨P, 2 + f * 16 + t, none⟩ = some (.bool (x.out f t)) := HT.out.p.co HFT.out.1 HFT.out.2.1
  go_upto_region 3 with (go_at_call 24; (with_reducible refine (link_any c0 f t).mono ?_); rw [HL.out]; rintro e1 w1 ⟨rfl, hw1⟩; obtain rfl := hw1.symm)
  go_still_tail 8, (by kernel_rfl)
  change wpList _ _ _ _ _ wc.drew
  go_upto_region 5 with (fail)
  have HT2 := Lib.hid ((show TX _ (wc.setCell ⟨P, 2 + f * 16 + t, none⟩ (.bool true)).drew P _ _ _ A (A + 1) f t from ((HT.out.setO HFT.out.1 HFT.out.2.1 true).drewN 1)))
  clear HT c0 c1 cl cf a0 b0 co
  generalize (wc.setCell ⟨P, 2 + f * 16 + t, none⟩ (.bool true)).drew = wd at HT2 ⊢
  have c1 : wd.cell? ⟨P, 1, none⟩ = some (.slice none 0 0) := HT2.out.p.c1
  have cl : wd.cell? ⟨P, 258, none⟩ = some (.int .i64 x.lost) := HT2.out.p.cl
  have cf : ∀ i, wd.frozen? ⟨P, i, none⟩ = false := HT2.out.p.free
  go_upto_region 7 with (go_at_call 28; (with_reducible refine delf_nil.mono ?_); rintro e2 w2 ⟨rfl, hw2⟩; obtain rfl := hw2.symm)
  have hW := HT2.out.p.setL (v' := .slice none 0 0) (ls := keepL f t x.ls) (Kept.refl _ _) (by rw [HN.out]; exact World.ownsRow_nil _ _ _ _) (fun b hb => .inl hb)
  have HW := Lib.hid (And.intro hW (HT2.out.u.trans (stpL (v' := .slice none 0 0) HT2.out.p (Kept.refl _ _) (fun b hb => .inl hb) (.slice none 0 0))))
  have HKL := Lib.hid (keepL_le f t x.ls)
  have e0 : x.ls.length = 0 := by rw [HN.out]; rfl
  have e00 : (keepL f t x.ls).length = 0 := by rw [HN.out]; rfl
  clear hW c1 cl cf
  generalize wd.setCell ⟨P, 1, none⟩ (.slice none 0 0) = w3 at HW ⊢
  have c1 : w3.cell? ⟨P, 1, none⟩ = some (.slice none 0 0) := HW.out.1.c1
  have cl : w3.cell? ⟨P, 258, none⟩ = some (.int .i64 x.lost) := HW.out.1.cl
  have cf : ∀ i, w3.frozen? ⟨P, i, none⟩ = false := HW.out.1.free
  have HZ := Lib.hid (HW.out.1.setC x.lost)
  have k2 : wrap64 x.lost = x.lost := by have := HFT.out.2.2; exact wrap64_mid (by omega) (by omega)
  go_upto_region 7 with (fail)
  go_still_tail 14, (by kernel_rfl)
  change wpList _ _ _ _ _ w3.drew
  go_wp2
  go_ret
  exact ⟨rfl, _, HZ.out.drewN 1, (HW.out.2.trans (stpC ..)).drewN 1⟩
set_option maxHeartbeats 4000000 in
theorem cut_on {w : World} {P : Nat} {v : Value} {x : Wn} (h : WAt 58 34 w P v x) (hm : x.ls.length ≤ 1000) (hc0 : 0 ≤ x.lost) (hc1 : x.lost ≤ 900000) (f t : Nat) (hf : f < 16) (ht : t < 16) (hl : linkB x.n f t = true) (g cap : Nat) (hv : v = .slice (some ⟨g, 0, none⟩) x.ls.length cap) :
    Calls Try.prog 15 #[.pointer (some ⟨P, 0, none⟩), .int .i64 f, .int .i64 t, .bool true] w fun e w' => e = .returned (.int .i64 0) ∧ ∃ u, WAt 58 34 w' P u { x with out := outSet x.out f t true, ls := keepL f t x.ls, lost := x.lost + ((x.ls.length : Int) - ((keepL f t x.ls).length : Int)) } ∧ Stp (wfp P v) (wfp P u) w w' := by
  have HL := Lib.hid hl
  have HFT := Lib.hid (And.intro hf (And.intro ht (And.intro hm (And.intro hc0 hc1))))
  have hf2 : (f : Int) < 16 := by omega
  have ht2 : (t : Int) < 16 := by omega
  clear hl hf ht hm hc0 hc1
  subst hv
  go_enter Try.func15, Try.ntmps15
  go_upto_region 1 with (fail)
  have HT := Lib.hid (TX.start h f t)
  clear h
  generalize (w.alloc (.cells #[.int .i64 f] 3)).alloc (.cells #[.int .i64 t] 3) = wc at HT ⊢
  generalize hA : w.heap.size = A at HT ⊢
  clear hA
  have c0 : wc.cell? ⟨P, 0, none⟩ = some (.int .i64 x.n) := HT.out.p.c0
  have c1 : wc.cell? ⟨P, 1, none⟩ = some (.slice (some ⟨g, 0, none⟩) x.ls.length cap) := HT.out.p.c1
  have cl : wc.cell? ⟨P, 258, none⟩ = some (.int .i64 x.lost) := HT.out.p.cl
  have cf : ∀ i, wc.frozen? ⟨P, i, none⟩ = false := HT.out.p.free
  have a0 : wc.cell? ⟨A, 0, none⟩ = some (.int .i64 f) := HT.out.ra.cell 0 _ rfl
  have b0 : wc.cell? ⟨A + 1, 0, none⟩ = some (.int .i64 t) := HT.out.rb.cell 0 _ rfl
  have co : wc.cell? ⟨P, 2 + f * 16 + t, none⟩ = some (.bool (x.out f t)) := HT.out.p.co HFT.out.1 HFT.out.2.1
  go_upto_region 3 with (go_at_call 24; (with_reducible refine (link_any c0 f t).mono ?_); rw [HL.out]; rintro e1 w1 ⟨rfl, hw1⟩; obtain rfl := hw1.symm)
  go_still_tail 8, (by kernel_rfl)
  change wpList _ _ _ _ _ wc.drew
  go_upto_region 5 with (fail)
  have HT2 := Lib.hid ((show TX _ (wc.setCell ⟨P, 2 + f * 16 + t, none⟩ (.bool true)).drew P _ _ _ A (A + 1) f t from ((HT.out.setO HFT.out.1 HFT.out.2.1 true).drewN 1)))
  clear HT c0 c1 cl cf a0 b0 co
  generalize (wc.setCell ⟨P, 2 + f * 16 + t, none⟩ (.bool true)).drew = wd at HT2 ⊢
  have c1 : wd.cell? ⟨P, 1, none⟩ = some (.slice (some ⟨g, 0, none⟩) x.ls.length cap) := HT2.out.p.c1
  have cl : wd.cell? ⟨P, 258, none⟩ = some (.int .i64 x.lost) := HT2.out.p.cl
  have cf : ∀ i, wd.frozen? ⟨P, i, none⟩ = false := HT2.out.p.free
  obtain ⟨-, cs, hblk⟩ := Blk.of HT2.out.p.s
  have hnA := HT2.out.nA
  have hnB := HT2.out.nB
  have ho : own (.slice (some ⟨g, 0, none⟩) x.ls.length cap) = [g] := rfl
  rw [ho] at hnA hnB
  simp at hnA hnB
  have HD := Lib.hid (delf_any HT2.out.ra HT2.out.rb hblk HFT.out.2.2.1 hnA.2 hnB.2)
  have hP : P ∉ [g] := HT2.out.p.nP
  have HP := Lib.hid hP
  clear hblk cs hnA hnB ho hP
  go_upto_region 7 with (go_at_call 28; (with_reducible refine HD.out.mono ?_); rintro e2 w2 ⟨rfl, ⟨cs2, hb2⟩, hk2⟩; have cf2 : ∀ i, w2.frozen? ⟨P, i, none⟩ = false := ((HT2.out.p.r).choose_spec.1.kept hk2 HP.out).free; have cp2 : w2.cell? ⟨P, 1, none⟩ = some (.slice (some ⟨g, 0, none⟩) x.ls.length cap) := ((HT2.out.p.r).choose_spec.1.kept hk2 HP.out).cell 1 _ HT2.out.p.r.choose_spec.2.c1)
  have hW := HT2.out.p.setL (v' := .slice (some ⟨g, 0, none⟩) (keepL f t x.ls).length cap) (ls := keepL f t x.ls) hk2 hb2.own (fun b hb => .inl hb)
  have HW := Lib.hid (And.intro hW (HT2.out.u.trans (stpL (v' := .slice (some ⟨g, 0, none⟩) (keepL f t x.ls).length cap) HT2.out.p hk2 (fun b hb => .inl hb) (.slice (some ⟨g, 0, none⟩) (keepL f t x.ls).length cap))))
  have HKL := Lib.hid (keepL_le f t x.ls)
  clear hW c1 cl cf hb2 hk2 cf2 cp2
  generalize w2.setCell ⟨P, 1, none⟩ (.slice (some ⟨g, 0, none⟩) (keepL f t x.ls).length cap) = w3 at HW ⊢
  have c1 : w3.cell? ⟨P, 1, none⟩ = some (.slice (some ⟨g, 0, none⟩) (keepL f t x.ls).length cap) := HW.out.1.c1
  have cl : w3.cell? ⟨P, 258, none⟩ = some (.int .i64 x.lost) := HW.out.1.cl
  have cf : ∀ i, w3.frozen? ⟨P, i, none⟩ = false := HW.out.1.free
  have HZ := Lib.hid (HW.out.1.setC (x.lost + ((x.ls.length : Int) - ((keepL f t x.ls).length : Int))))
  have k1 : wrap64 ((x.ls.length : Int) - ((keepL f t x.ls).length : Int)) = (x.ls.length : Int) - ((keepL f t x.ls).length : Int) := by have := HKL.out; have := HFT.out.2.2; exact wrap64_mid (by omega) (by omega)
  have k2 : wrap64 (x.lost + ((x.ls.length : Int) - ((keepL f t x.ls).length : Int))) = x.lost + ((x.ls.length : Int) - ((keepL f t x.ls).length : Int)) := by have := HKL.out; have := HFT.out.2.2; exact wrap64_mid (by omega) (by omega)
  go_upto_region 7 with (fail)
  go_still_tail 14, (by kernel_rfl)
  change wpList _ _ _ _ _ w3.drew
  go_wp2
  go_ret
  exact ⟨rfl, _, HZ.out.drewN 1, (HW.out.2.trans (stpC ..)).drewN 1⟩
/-- A link is cut, or mended. -/
theorem cut_any {w : World} {P : Nat} {v : Value} {x : Wn} (h : WAt 58 34 w P v x) (hm : x.ls.length ≤ 1000) (hc0 : 0 ≤ x.lost) (hc1 : x.lost ≤ 900000) (hn : x.n ≤ 16) (a b : Int) (o : Bool) :
    Calls Try.prog 15 #[.pointer (some ⟨P, 0, none⟩), .int .i64 a, .int .i64 b, .bool o] w fun e w' => e = .returned (.int .i64 (cutE x.n a b)) ∧ ∃ u, WAt 58 34 w' P u (x.cut a b o) ∧ Stp (wfp P v) (wfp P u) w w' := by
  cases hl : linkB x.n a b
  · have e1 : cutE x.n a b = 1 := by simp [cutE, hl]
    have e2 : x.cut a b o = x := by simp [Wn.cut, hl]
    rw [e1, e2]
    exact cut_no h a b o hl
  · have hh : 0 ≤ a ∧ a < x.n ∧ 0 ≤ b ∧ b < x.n ∧ a ≠ b := by simpa [linkB] using hl
    obtain ⟨f, rfl⟩ := Int.eq_ofNat_of_zero_le hh.1
    obtain ⟨t, rfl⟩ := Int.eq_ofNat_of_zero_le hh.2.2.1
    have hf : f < 16 := by omega
    have ht : t < 16 := by omega
    have e1 : cutE x.n f t = 0 := by simp [cutE, hl]
    rw [e1]
    cases o
    · have e2 : x.cut f t false = { x with out := outSet x.out f t false } := by simp [Wn.cut, hl]
      rw [e2]
      exact cut_off h f t hf ht hl
    · have e2 : x.cut f t true = { x with out := outSet x.out f t true, ls := keepL f t x.ls, lost := x.lost + ((x.ls.length : Int) - ((keepL f t x.ls).length : Int)) } := by simp [Wn.cut, hl]
      rw [e2]
      rcases h.s.form with ⟨hv, hnil⟩ | ⟨g, cap, hv⟩
      · exact cut_nil h hm hc0 hc1 f t hf ht hl hv hnil
      · exact cut_on h hm hc0 hc1 f t hf ht hl g cap hv
def Wn.new (n : Int) : Wn := ⟨n, [], fun _ _ => false, 0⟩
def Zw : Array Value := (#[.int .i64 0, .slice none 0 0] ++ Array.replicate 256 (.bool false)) ++ #[.int .i64 0]
theorem Zw_size : Zw.size = 259 := by simp [Zw]
theorem Zw_1 : Zw[1]? = some (.slice none 0 0) := by
  unfold Zw
  rw [Array.getElem?_append_left (by simp), Array.getElem?_append_left (by simp)]; rfl
theorem Zw_o {k : Nat} (h : k < 256) : Zw[2 + k]? = some (.bool false) := by
  unfold Zw
  rw [Array.getElem?_append_left (by simp; omega), Array.getElem?_append_right (by simp)]
  simp [Array.getElem?_replicate, h]
theorem Zw_l : Zw[258]? = some (.int .i64 0) := by
  unfold Zw
  rw [Array.getElem?_append_right (by simp)]
  simp
theorem Zw_cs (n : Int) : Cs (Zw.setIfInBounds 0 (.int .i64 n)) (.slice none 0 0) (Wn.new n) := by
  have hs := Zw_size
  refine ⟨by simp [hs], ?_, ?_, ?_, ?_⟩
  · rw [get_set, if_pos ⟨rfl, by omega⟩]; rfl
  · rw [get_set, if_neg (by omega)]; exact Zw_1
  · intro f t hf ht
    rw [get_set, if_neg (by omega), Nat.add_assoc]; exact Zw_o (by omega)
  · rw [get_set, if_neg (by omega)]; exact Zw_l
theorem info58 : (Try.prog.info? 58).map (fun i => (i.zero, i.size)) = some (some (.agg Zw), 259) := by kernel_rfl
theorem info49 : (Try.prog.info? 49).map (fun i => (i.zero, i.size)) = some (some (.agg Zw), 259) := by kernel_rfl
theorem zero_of {T : TypeId} {z : Value} {s : Nat} (h : (Try.prog.info? T).map (fun i => (i.zero, i.size)) = some (some z, s)) (w : World) : (zeroValue T).run Try.prog w = .ok z w := by
  cases hi : Try.prog.info? T with
  | none => rw [hi] at h; cases h
  | some i =>
    rw [hi] at h
    simp at h
    simp [zeroValue, typeInfo, hi, h.1]
set_option maxHeartbeats 4000000 in
theorem new_no (n : Int) (w : World) (h : n < 2 ∨ 16 < n) : Calls Try.prog 6 #[.int .i64 n] w fun e w' => e = .returned (.tuple #[.pointer none, .int .i64 1]) ∧ w' = w := by
  rcases h with h | h
  · go_enter Try.func6, Try.ntmps6
    go_wp2
    go_ret2
    exact ⟨rfl, rfl⟩
  · go_enter Try.func6, Try.ntmps6
    go_wp2
    go_ret2
    exact ⟨rfl, rfl⟩
set_option maxHeartbeats 4000000 in
set_option maxRecDepth 100000 in
theorem new_yes (n : Int) (w : World) (h2 : 2 ≤ n) (h16 : n ≤ 16) : Calls Try.prog 6 #[.int .i64 n] w fun e w' => ∃ P, e = .returned (.tuple #[ptr P, .int .i64 0]) ∧ WAt 58 34 w' P (.slice none 0 0) (Wn.new n) ∧ Below w.heap.size w w' ∧ w.heap.size ≤ P := by
  have hzv := fun w => zero_of info58 w
  have hne : ¬ Zw = #[] := fun e => by have := Zw_size; rw [e] at this; cases this
  have HC := Lib.hid (Zw_cs n)
  generalize Zw = Z at hzv hne HC
  go_enter Try.func6, Try.ntmps6
  go_wp2
  go_ret2
  exact ⟨_, rfl, ⟨⟨_, Row.new _ _ _, HC.out⟩, World.ownsRow_nil _ _ _ _, by simp [own_none]⟩, below_new _ _, Nat.le_refl _⟩
set_option maxHeartbeats 4000000 in
theorem rnew_no (n : Int) (w : World) (h : n < 2 ∨ 16 < n) : Calls Try.prog 7 #[.int .i64 n] w fun e w' => e = .returned (.tuple #[.pointer none, .int .i64 1]) ∧ w' = w := by
  rcases h with h | h
  · go_enter Try.func7, Try.ntmps7
    go_wp2
    go_ret2
    exact ⟨rfl, rfl⟩
  · go_enter Try.func7, Try.ntmps7
    go_wp2
    go_ret2
    exact ⟨rfl, rfl⟩
set_option maxHeartbeats 4000000 in
set_option maxRecDepth 100000 in
theorem rnew_yes (n : Int) (w : World) (h2 : 2 ≤ n) (h16 : n ≤ 16) : Calls Try.prog 7 #[.int .i64 n] w fun e w' => ∃ P, e = .returned (.tuple #[ptr P, .int .i64 0]) ∧ WAt 49 36 w' P (.slice none 0 0) (Wn.new n) ∧ Below w.heap.size w w' ∧ w.heap.size ≤ P := by
  have hzv := fun w => zero_of info49 w
  have hne : ¬ Zw = #[] := fun e => by have := Zw_size; rw [e] at this; cases this
  have HC := Lib.hid (Zw_cs n)
  generalize Zw = Z at hzv hne HC
  go_enter Try.func7, Try.ntmps7
  go_wp2
  go_ret2
  exact ⟨_, rfl, ⟨⟨_, Row.new _ _ _, HC.out⟩, World.ownsRow_nil _ _ _ _, by simp [own_none]⟩, below_new _ _, Nat.le_refl _⟩
end Go.Proofs.Ytppjjbhbbnnpgaa
