/- A letter is taken; new links. Conditions: the links lie whole in memory; not many letters are there. -/
import Derived.Test.YtppjjbhbbnnpgaaDbl
namespace Go.Proofs.Ytppjjbhbbnnpgaa
open Go.RowKit G
set_option linter.unusedVariables false
set_option linter.unusedSimpArgs false
attribute [local go_sem] upon_value upon_skip upon_enter runAt_run
def Wn.take (x : Wn) (i : Int) : Wn := if atE x.ls i = 0 then { x with ls := x.ls.eraseIdx i.toNat } else x
theorem kept_cells {F : List Nat} {w0 : World} {g : Nat} (hg : g ∈ F ∨ w0.heap.size ≤ g) : ∀ (vs : List Value) (o : Nat) (w : World), Kept F w0 w → Kept F w0 (w.setCells g o vs)
  | [], o, w, h => h
  | v :: vs, o, w, h => kept_cells hg vs (o + 1) _ (h.set g o hg v)
theorem fin_box {T E : TypeId} {w0 w : World} {P C : Nat} {v0 v : Value} {x : Wn} (hp : WAt T E w P v x) (st : Stp (wfp P v0) (wfp P v) w0 w) (hC : w0.heap.size ≤ C) (hn : C ∉ P :: own v) (o : Nat) (vs : List Value) :
    WAt T E (w.setCells C o vs) P v x ∧ Stp (wfp P v0) (wfp P v) w0 (w.setCells C o vs) :=
  ⟨hp.kept (kept_cells (F := [C]) (.inl (by simp)) vs o w (Kept.refl _ _)) (fun b hb hm => by simp at hm; subst hm; exact hn hb), kept_cells (.inr hC) vs o w st.keep, st.new⟩
set_option maxHeartbeats 4000000 in
theorem take_no {w : World} {P : Nat} {v : Value} {x : Wn} (h : WAt 58 34 w P v x) (hm : x.ls.length ≤ 1000) (i f t : Int) (s : ByteArray) (hy : atL x.ls i = ⟨f, t, s⟩) (hE : atE x.ls i = 1) :
    Calls Try.prog 10 #[.pointer (some ⟨P, 0, none⟩), .int .i64 i] w fun e w' => e = .returned (.tuple #[.agg #[.int .i64 f, .int .i64 t, .string s], .int .i64 1]) ∧ ∃ u, WAt 58 34 w' P u x ∧ Stp (wfp P v) (wfp P u) w w' := by
  have hZ := h.below (below_new w (.cells #[.int .i64 0, .int .i64 0, .string ⟨#[]⟩] 34))
  have hat := at_any hZ hm i
  rw [hy, hE] at hat
  have HAT := Lib.hid hat
  clear hat
  go_enter Try.func10, Try.ntmps10
  go_upto_region 2 with (go_at_call 21; (with_reducible refine HAT.out.mono ?_); rintro e1 w1 ⟨rfl, hb1⟩)
  have HU0 := Lib.hid (show Below w.heap.size w w1 from below_of (below_new _ _) hb1)
  have HC := Lib.hid (And.intro (((Row.new w #[.int .i64 0, .int .i64 0, .string ⟨#[]⟩] 34).below hb1).alloc (.cells #[.int .i64 f, .int .i64 t, .string s] 34)) (And.intro (show w.heap.size ∉ P :: own v from fun hmm => absurd (h.lts _ hmm) (Nat.lt_irrefl _)) (show w.heap.size ≠ w1.heap.size from Nat.ne_of_lt (Nat.lt_of_lt_of_le (by simp) hb1.size))))
  have HT := Lib.hid (TW.start (hZ.below hb1) #[.int .i64 f, .int .i64 t, .string s])
  clear h hb1 hZ HAT
  generalize hW : w1.alloc (.cells #[.int .i64 f, .int .i64 t, .string s] 34) = wc at HT HC ⊢
  generalize w1.heap.size = B at HT HC ⊢
  clear hW
  obtain ⟨C, hCC⟩ : ∃ C, w.heap.size = C := ⟨_, rfl⟩
  rw [hCC] at HC
  have HCC := Lib.hid hCC
  rw [hCC]
  clear hCC
  have c1 : wc.cell? ⟨P, 1, none⟩ = some v := HT.out.p.c1
  have cf : ∀ i, wc.frozen? ⟨P, i, none⟩ = false := HT.out.p.free
  have b0 : wc.cell? ⟨B, 0, none⟩ = some (.int .i64 f) := HT.out.b.cell 0 _ rfl
  have b1 : wc.cell? ⟨B, 1, none⟩ = some (.int .i64 t) := HT.out.b.cell 1 _ rfl
  have b2 : wc.cell? ⟨B, 2, none⟩ = some (.string s) := HT.out.b.cell 2 _ rfl
  have z0 : wc.cell? ⟨C, 0, none⟩ = some (.int .i64 0) := HC.out.1.cell 0 _ rfl
  have z1 : wc.cell? ⟨C, 1, none⟩ = some (.int .i64 0) := HC.out.1.cell 1 _ rfl
  have z2 : wc.cell? ⟨C, 2, none⟩ = some (.string ⟨#[]⟩) := HC.out.1.cell 2 _ rfl
  have zf : ∀ i, wc.frozen? ⟨C, i, none⟩ = false := HC.out.1.free
  have HF := Lib.hid (fin_box HT.out.p ((Stp.same (Kept.of_below HU0.out)).trans HT.out.u) (Nat.le_of_eq HCC.out) HC.out.2.1 0 (ltc ⟨f, t, s⟩))
  go_wp2
  refine bodyPost_ret (v := .tuple #[.agg #[.int .i64 f, .int .i64 t, .string s], .int .i64 1]) (by simp [results, Try.results10, go_sem, *]) rfl ⟨rfl, v, ?_⟩
  exact HF.out
set_option maxHeartbeats 4000000 in
theorem take_ok {w : World} {P : Nat} {v : Value} {x : Wn} (h : WAt 58 34 w P v x) (hm : x.ls.length ≤ 1000) (i f t : Int) (s : ByteArray) (hy : atL x.ls i = ⟨f, t, s⟩) (hE : atE x.ls i = 0) (k : Nat) (hi : i = k) (hk : k < x.ls.length) :
    Calls Try.prog 10 #[.pointer (some ⟨P, 0, none⟩), .int .i64 i] w fun e w' => e = .returned (.tuple #[.agg #[.int .i64 f, .int .i64 t, .string s], .int .i64 0]) ∧ ∃ u, WAt 58 34 w' P u { x with ls := x.ls.eraseIdx k } ∧ Stp (wfp P v) (wfp P u) w w' := by
  subst hi
  obtain ⟨d, hd⟩ : ∃ d, x.ls.length = k + d + 1 := ⟨x.ls.length - k - 1, by omega⟩
  have hwk : wrap64 ((k : Int) + 1) = (k : Int) + 1 := wrap64_mid (by omega) (by omega)
  rcases h.s.form with ⟨-, hnil⟩ | ⟨g, cap, hv⟩
  · rw [hnil] at hk; simp at hk
  subst hv
  have HK := Lib.hid (And.intro hd (And.intro hm hk))
  have hm' := hm
  clear hd hk
  have hZ := h.below (below_new w (.cells #[.int .i64 0, .int .i64 0, .string ⟨#[]⟩] 34))
  have hat := at_any hZ hm k
  rw [hy, hE] at hat
  have HAT := Lib.hid hat
  clear hat
  go_enter Try.func10, Try.ntmps10
  go_upto_region 2 with (go_at_call 21; (with_reducible refine HAT.out.mono ?_); rintro e1 w1 ⟨rfl, hb1⟩)
  have HU0 := Lib.hid (show Below w.heap.size w w1 from below_of (below_new _ _) hb1)
  have HC := Lib.hid (And.intro (((Row.new w #[.int .i64 0, .int .i64 0, .string ⟨#[]⟩] 34).below hb1).alloc (.cells #[.int .i64 f, .int .i64 t, .string s] 34)) (And.intro (show w.heap.size ∉ P :: own (.slice (some ⟨g, 0, none⟩) x.ls.length cap) from fun hmm => absurd (h.lts _ hmm) (Nat.lt_irrefl _)) (show w.heap.size ≠ w1.heap.size from Nat.ne_of_lt (Nat.lt_of_lt_of_le (by simp) hb1.size))))
  have HT := Lib.hid (TW.start (hZ.below hb1) #[.int .i64 f, .int .i64 t, .string s])
  clear h hb1 hZ HAT
  generalize hW : w1.alloc (.cells #[.int .i64 f, .int .i64 t, .string s] 34) = wc at HT HC ⊢
  generalize w1.heap.size = B at HT HC ⊢
  clear hW
  obtain ⟨C, hCC⟩ : ∃ C, w.heap.size = C := ⟨_, rfl⟩
  rw [hCC] at HC
  have HCC := Lib.hid hCC
  rw [hCC]
  clear hCC
  have c1 : wc.cell? ⟨P, 1, none⟩ = some (.slice (some ⟨g, 0, none⟩) x.ls.length cap) := HT.out.p.c1
  have cf : ∀ i, wc.frozen? ⟨P, i, none⟩ = false := HT.out.p.free
  have b0 : wc.cell? ⟨B, 0, none⟩ = some (.int .i64 f) := HT.out.b.cell 0 _ rfl
  have b1 : wc.cell? ⟨B, 1, none⟩ = some (.int .i64 t) := HT.out.b.cell 1 _ rfl
  have b2 : wc.cell? ⟨B, 2, none⟩ = some (.string s) := HT.out.b.cell 2 _ rfl
  obtain ⟨-, cs, hblk⟩ := Blk.of HT.out.p.s
  have hdel := del_any hblk HK.out.1 HK.out.2.1
  rw [← HK.out.1] at hdel
  have HD := Lib.hid hdel
  clear hdel hblk cs hm hm'
  go_upto_region 4 with (go_at_call 27; (with_reducible refine HD.out.mono ?_); rintro e2 w2 ⟨rfl, ⟨cs2, hb2⟩, hk2⟩; have cf2 : ∀ i, w2.frozen? ⟨P, i, none⟩ = false := ((HT.out.p.r).choose_spec.1.kept hk2 (by simp; exact fun e => HT.out.p.nP (by simp [own, Value.ownBlock, e]))).free; have cp2 : w2.cell? ⟨P, 1, none⟩ = some (.slice (some ⟨g, 0, none⟩) x.ls.length cap) := ((HT.out.p.r).choose_spec.1.kept hk2 (by simp; exact fun e => HT.out.p.nP (by simp [own, Value.ownBlock, e]))).cell 1 _ HT.out.p.r.choose_spec.2.c1)
  have hle : (x.ls.eraseIdx k).length = k + d := by rw [List.length_eraseIdx, if_pos HK.out.2.2]; have := HK.out.1; omega
  have hL := hb2.own
  rw [hle] at hL
  have ho : own (.slice (some ⟨g, 0, none⟩) x.ls.length cap) = [g] := rfl
  have ho2 : own (.slice (some ⟨g, 0, none⟩) (k + d) cap) = [g] := rfl
  have hW3 := HT.out.p.setL (v' := .slice (some ⟨g, 0, none⟩) (k + d) cap) (by rw [ho]; exact hk2) hL (fun b hb => .inl hb)
  have hS3 := stpL (v' := .slice (some ⟨g, 0, none⟩) (k + d) cap) HT.out.p (by rw [ho]; exact hk2) (fun b hb => .inl hb) (.slice (some ⟨g, 0, none⟩) (k + d) cap)
  have hBn := HT.out.n
  have hCn := HC.out.2.1
  rw [ho] at hBn hCn
  simp at hBn hCn
  have hb3 := (HT.out.b.kept hk2 (by simp; exact hBn.2)).setOther P 1 (Ne.symm hBn.1) (.slice (some ⟨g, 0, none⟩) (k + d) cap)
  have hc3 := (HC.out.1.kept hk2 (by simp; exact hCn.2)).setOther P 1 (Ne.symm hCn.1) (.slice (some ⟨g, 0, none⟩) (k + d) cap)
  have HF := Lib.hid (fin_box hW3 ((Stp.same (Kept.of_below HU0.out)).trans (HT.out.u.trans hS3)) (Nat.le_of_eq HCC.out) (by rw [ho2]; simp; exact hCn) 0 (ltc ⟨f, t, s⟩))
  have HB3 := Lib.hid hb3
  have HC3 := Lib.hid hc3
  clear hle hL ho ho2 hW3 hS3 hBn hCn hb3 hc3 hb2 hk2 cf2 cp2 c1 cf b0 b1 b2
  generalize w2.setCell ⟨P, 1, none⟩ (.slice (some ⟨g, 0, none⟩) (k + d) cap) = w3 at HF HB3 HC3 ⊢
  have b0 : w3.cell? ⟨B, 0, none⟩ = some (.int .i64 f) := HB3.out.cell 0 _ rfl
  have b1 : w3.cell? ⟨B, 1, none⟩ = some (.int .i64 t) := HB3.out.cell 1 _ rfl
  have b2 : w3.cell? ⟨B, 2, none⟩ = some (.string s) := HB3.out.cell 2 _ rfl
  have z0 : w3.cell? ⟨C, 0, none⟩ = some (.int .i64 0) := HC3.out.cell 0 _ rfl
  have z1 : w3.cell? ⟨C, 1, none⟩ = some (.int .i64 0) := HC3.out.cell 1 _ rfl
  have z2 : w3.cell? ⟨C, 2, none⟩ = some (.string ⟨#[]⟩) := HC3.out.cell 2 _ rfl
  have zf : ∀ i, w3.frozen? ⟨C, i, none⟩ = false := HC3.out.free
  go_wp2
  refine bodyPost_ret (v := .tuple #[.agg #[.int .i64 f, .int .i64 t, .string s], .int .i64 0]) (by simp [results, Try.results10, go_sem, *]) rfl ⟨rfl, _, HF.out⟩
/-- A letter is taken. -/
theorem take_any {w : World} {P : Nat} {v : Value} {x : Wn} (h : WAt 58 34 w P v x) (hm : x.ls.length ≤ 1000) (i : Int) :
    Calls Try.prog 10 #[.pointer (some ⟨P, 0, none⟩), .int .i64 i] w fun e w' => e = .returned (.tuple #[.agg #[.int .i64 (atL x.ls i).f, .int .i64 (atL x.ls i).t, .string (atL x.ls i).s], .int .i64 (atE x.ls i)]) ∧ ∃ u, WAt 58 34 w' P u (x.take i) ∧ Stp (wfp P v) (wfp P u) w w' := by
  obtain ⟨f, t, s, hy⟩ : ∃ f t s, atL x.ls i = ⟨f, t, s⟩ := ⟨_, _, _, rfl⟩
  rcases atE_or x.ls i with hE | hE
  · have hh : 0 ≤ i ∧ i < x.ls.length := by
      unfold atE at hE
      split at hE
      · assumption
      · cases hE
    obtain ⟨k, rfl⟩ := Int.eq_ofNat_of_zero_le hh.1
    have e2 : x.take k = { x with ls := x.ls.eraseIdx k } := by simp [Wn.take, hE]
    rw [e2, hy, hE]
    exact take_ok h hm k f t s hy hE k rfl (by omega)
  · have e2 : x.take i = x := by simp [Wn.take, hE]
    rw [e2, hy, hE]
    exact take_no h hm i f t s hy hE
end Go.Proofs.Ytppjjbhbbnnpgaa
