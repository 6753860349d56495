/- A letter is doubled; one is taken; new links. Conditions: the links lie whole in memory; not many letters are there. -/
import Derived.Test.YtppjjbhbbnnpgaaSend
namespace Go.Proofs.Ytppjjbhbbnnpgaa
open Go.RowKit G
set_option linter.unusedVariables false
set_option linter.unusedSimpArgs false
attribute [local go_sem] upon_value upon_skip upon_enter runAt_run
def Wn.dblE (x : Wn) (i : Int) : Int := if atE x.ls i = 1 then 1 else if 96 ≤ x.ls.length then 2 else 0
def Wn.dbl (x : Wn) (i : Int) : Wn := if x.dblE i = 0 then x.add (atL x.ls i) else x
theorem atE_or (ls : List Lt) (i : Int) : atE ls i = 0 ∨ atE ls i = 1 := by unfold atE; split <;> simp
set_option maxHeartbeats 4000000 in
theorem dbl_no {w : World} {P : Nat} {v : Value} {x : Wn} (h : WAt 58 34 w P v x) (hm : x.ls.length ≤ 1000) (i f t : Int) (s : ByteArray) (hy : atL x.ls i = ⟨f, t, s⟩) (hE : atE x.ls i = 1) :
    Calls Try.prog 13 #[.pointer (some ⟨P, 0, none⟩), .int .i64 i] w fun e w' => e = .returned (.int .i64 1) ∧ ∃ u, WAt 58 34 w' P u x ∧ Stp (wfp P v) (wfp P u) w w' := by
  have hat := at_any h hm i
  rw [hy, hE] at hat
  have HAT := Lib.hid hat
  clear hat
  go_enter Try.func13, Try.ntmps13
  go_upto_region 2 with (go_at_call 21; (with_reducible refine HAT.out.mono ?_); rintro e1 w1 ⟨rfl, hb1⟩)
  have HU0 := Lib.hid (show Stp (wfp P (v)) (wfp P (v)) w w1 from Stp.same (Kept.of_below hb1))
  have HT := Lib.hid (TW.start (h.below hb1) #[.int .i64 f, .int .i64 t, .string s])
  clear h hb1
  generalize w1.alloc (.cells #[.int .i64 f, .int .i64 t, .string s] 34) = wc at HT ⊢
  generalize w1.heap.size = B at HT ⊢
  go_wp2
  go_ret
  exact ⟨rfl, v, HT.out.p, HU0.out.trans HT.out.u⟩
set_option maxHeartbeats 4000000 in
theorem dbl_full {w : World} {P : Nat} {v : Value} {x : Wn} (h : WAt 58 34 w P v x) (hm : x.ls.length ≤ 1000) (i f t : Int) (s : ByteArray) (hy : atL x.ls i = ⟨f, t, s⟩) (hE : atE x.ls i = 0) (hfull : 96 ≤ x.ls.length) :
    Calls Try.prog 13 #[.pointer (some ⟨P, 0, none⟩), .int .i64 i] w fun e w' => e = .returned (.int .i64 2) ∧ ∃ u, WAt 58 34 w' P u x ∧ Stp (wfp P v) (wfp P u) w w' := by
  have HFU := Lib.hid (show (if 96 ≤ x.ls.length then (2 : Int) else 0) = 2 from if_pos hfull)
  clear hfull
  obtain ⟨pa, ca, hv⟩ := h.s.len
  subst hv
  have hat := at_any h hm i
  rw [hy, hE] at hat
  have HAT := Lib.hid hat
  clear hat
  go_enter Try.func13, Try.ntmps13
  go_upto_region 2 with (go_at_call 21; (with_reducible refine HAT.out.mono ?_); rintro e1 w1 ⟨rfl, hb1⟩)
  have HU0 := Lib.hid (show Stp (wfp P (.slice pa x.ls.length ca)) (wfp P (.slice pa x.ls.length ca)) w w1 from Stp.same (Kept.of_below hb1))
  have HT := Lib.hid (TW.start (h.below hb1) #[.int .i64 f, .int .i64 t, .string s])
  clear h hb1
  generalize w1.alloc (.cells #[.int .i64 f, .int .i64 t, .string s] 34) = wc at HT ⊢
  generalize w1.heap.size = B at HT ⊢
  have c1 : wc.cell? ⟨P, 1, none⟩ = some (.slice pa x.ls.length ca) := HT.out.p.c1
  have cf : ∀ i, wc.frozen? ⟨P, i, none⟩ = false := HT.out.p.free
  have b0 : wc.cell? ⟨B, 0, none⟩ = some (.int .i64 f) := HT.out.b.cell 0 _ rfl
  have b1 : wc.cell? ⟨B, 1, none⟩ = some (.int .i64 t) := HT.out.b.cell 1 _ rfl
  have b2 : wc.cell? ⟨B, 2, none⟩ = some (.string s) := HT.out.b.cell 2 _ rfl
  go_wp2_with (go_at_call 25; (with_reducible refine (room_any c1).mono ?_); rw [HFU.out]; rintro e2 w2 ⟨rfl, hw2⟩; obtain rfl := hw2.symm)
  go_ret
  exact ⟨rfl, _, HT.out.p, HU0.out.trans HT.out.u⟩
set_option maxHeartbeats 4000000 in
theorem dbl_ok {w : World} {P : Nat} {v : Value} {x : Wn} (h : WAt 58 34 w P v x) (hm : x.ls.length ≤ 1000) (i f t : Int) (s : ByteArray) (hy : atL x.ls i = ⟨f, t, s⟩) (hE : atE x.ls i = 0) (hfull : ¬ 96 ≤ x.ls.length) :
    Calls Try.prog 13 #[.pointer (some ⟨P, 0, none⟩), .int .i64 i] w fun e w' => e = .returned (.int .i64 0) ∧ ∃ u, WAt 58 34 w' P u (x.add ⟨f, t, s⟩) ∧ Stp (wfp P v) (wfp P u) w w' := by
  obtain ⟨i0, hi0, hz0, hz1, hz2⟩ := info_parts info34
  have HFU := Lib.hid (show (if 96 ≤ x.ls.length then (2 : Int) else 0) = 0 from if_neg hfull)
  have HLEN := Lib.hid (show x.ls.length ≤ 96 by omega)
  clear hfull
  obtain ⟨pa, ca, hv⟩ := h.s.len
  subst hv
  have hat := at_any h hm i
  rw [hy, hE] at hat
  have HAT := Lib.hid hat
  clear hat
  go_enter Try.func13, Try.ntmps13
  go_upto_region 2 with (go_at_call 21; (with_reducible refine HAT.out.mono ?_); rintro e1 w1 ⟨rfl, hb1⟩)
  have HU0 := Lib.hid (show Stp (wfp P (.slice pa x.ls.length ca)) (wfp P (.slice pa x.ls.length ca)) w w1 from Stp.same (Kept.of_below hb1))
  have HT := Lib.hid (TW.start (h.below hb1) #[.int .i64 f, .int .i64 t, .string s])
  clear h hb1
  generalize w1.alloc (.cells #[.int .i64 f, .int .i64 t, .string s] 34) = wc at HT ⊢
  generalize w1.heap.size = B at HT ⊢
  have c1 : wc.cell? ⟨P, 1, none⟩ = some (.slice pa x.ls.length ca) := HT.out.p.c1
  have cf : ∀ i, wc.frozen? ⟨P, i, none⟩ = false := HT.out.p.free
  have b0 : wc.cell? ⟨B, 0, none⟩ = some (.int .i64 f) := HT.out.b.cell 0 _ rfl
  have b1 : wc.cell? ⟨B, 1, none⟩ = some (.int .i64 t) := HT.out.b.cell 1 _ rfl
  have b2 : wc.cell? ⟨B, 2, none⟩ = some (.string s) := HT.out.b.cell 2 _ rfl
  go_upto_region 5 with (go_at_call 25; (with_reducible refine (room_any c1).mono ?_); rw [HFU.out]; rintro e2 w2 ⟨rfl, hw2⟩; obtain rfl := hw2.symm)
  generalize hvv : Value.slice pa x.ls.length ca = v at HT HU0
  have HVV := Lib.hid hvv
  clear hvv
  have HW := Lib.hid (And.intro HT.out.p (And.intro HT.out.b HT.out.n))
  clear c1 cf b0 b1 b2
  refine region_gen (AP 58 34 wc P v x ⟨f, t, s⟩ B) (by kernel_rfl) (by kernel_rfl) (AP.start HW.out.1 HW.out.2.1 HW.out.2.2) ?_
  repeat
    (refine step_gen (by decide) (by rfl) (fun K hK => ?_)
     go_simp
     first
       | (with_reducible apply H1.one
          · intro σ wv hk hd hv
            have Hv := Lib.hid hv
            have zf := hv.free
            obtain ⟨b0, b1, b2⟩ := hv.box
            try (have z_ := hv.cellS hk)
            clear hv
            go_simp
            (first
              | (with_reducible refine ⟨rfl, ?_⟩; first | (with_reducible exact AP.pure Hv.out (by decide)) | (with_reducible exact AP.store Hv.out (hd.get 7 (List.mem_cons_self ..) (by kernel_rfl)) hk)))
          refine hK _ _ _ ?_
          clear hK K)
       | (with_reducible refine H1.any (v = ·) ⟨_, rfl⟩ ?_ ?_
          · intro σ wv hk hd hv
            have c1 := hv.cell1 hk
            go_simp
            exact hv.load
          intro v_ hv_
          subst hv_
          refine hK _ _ _ ?_
          clear hK K)
       | (with_reducible refine H1.any IsSl ⟨_, IsSl.mk 0⟩ ?_ ?_
          · intro σ wv hk hd hv
            have Hv := Lib.hid hv
            clear hv
            go_simp
            exact ⟨IsSl.mk _, Hv.out.alloc hk⟩
          intro v_ hv_
          obtain ⟨Bz⟩ := hv_
          refine hK _ _ _ ?_
          clear hK K)
       | (with_reducible refine H1.any IsSlice ⟨_, .mk none 0 0⟩ ?_ ?_
          · intro σ wv hk hd hv
            have h4 := hd.get 4 (List.mem_cons_of_mem _ (List.mem_cons_self ..)) (by kernel_rfl)
            have h6 := hd.get 6 (List.mem_cons_self ..) (by kernel_rfl)
            obtain ⟨B', eB, hB, hb⟩ := hv.b _ h6
            cases eB
            obtain ⟨u, w', hrun, hu, hg, hnew⟩ := run_append_new (P := Try.prog) wv 0 56 56 34 i0 (.agg #[.int .i64 0, .int .i64 0, .string ⟨#[]⟩]) 3 32 Try.underlying56 hi0 hz0 hz1 hz2 rfl (by decide) v x.ls.length (lts x.ls) (hv.o hk) ⟨Bz, 0, none⟩ 1 1 (ltc ⟨f, t, s⟩) rfl
              (by intro j z hj; rcases j with _ | _ | _ | _ <;> first | (cases hj; exact hb.cell _ _ rfl) | cases hj) (one_ltc _) (by have := HLEN.out; simp only [maxLen]; omega) (by have := HLEN.out; omega) (Nat.zero_le _)
            rw [← lts_snoc] at hu
            have hfin := hv.append h4 h6 hk hg (u := u) (by unfold Ls; rw [List.length_append]; exact hu) hnew
            exact runAt_append rfl rfl rfl hrun ⟨own_slice hu, hfin⟩
          intro v_ hv_
          obtain ⟨up, un, uc⟩ := hv_
          refine hK _ _ _ ?_
          clear hK K)
       | (trace_state; fail))
  refine nil_gen ?_
  intro σ w9 hall ht hv
  obtain ⟨u9, hw9, hs9⟩ := hv.fin (hall 7 (by decide)) (hall 10 (by decide))
  have H9 := Lib.hid (And.intro hw9 hs9)
  clear hv hall ht hw9 hs9 σ
  go_wp2
  go_ret
  exact ⟨rfl, u9, H9.out.1, by rw [HVV.out]; exact HU0.out.trans (HT.out.u.trans H9.out.2)⟩
/-- A letter is doubled. -/
theorem dbl_any {w : World} {P : Nat} {v : Value} {x : Wn} (h : WAt 58 34 w P v x) (hm : x.ls.length ≤ 1000) (i : Int) :
    Calls Try.prog 13 #[.pointer (some ⟨P, 0, none⟩), .int .i64 i] w fun e w' => e = .returned (.int .i64 (x.dblE i)) ∧ ∃ u, WAt 58 34 w' P u (x.dbl i) ∧ Stp (wfp P v) (wfp P u) w w' := by
  obtain ⟨f, t, s, hy⟩ : ∃ f t s, atL x.ls i = ⟨f, t, s⟩ := ⟨_, _, _, rfl⟩
  rcases atE_or x.ls i with hE | hE
  · by_cases hfull : 96 ≤ x.ls.length
    · have e : x.dblE i = 2 := by simp [Wn.dblE, hE, hfull]
      have e2 : x.dbl i = x := by simp [Wn.dbl, e]
      rw [e, e2]
      exact dbl_full h hm i f t s hy hE hfull
    · have e : x.dblE i = 0 := by simp [Wn.dblE, hE, hfull]
      have e2 : x.dbl i = x.add ⟨f, t, s⟩ := by simp [Wn.dbl, e, hy]
      rw [e, e2]
      exact dbl_ok h hm i f t s hy hE hfull
  · have e : x.dblE i = 1 := by simp [Wn.dblE, hE]
    have e2 : x.dbl i = x := by simp [Wn.dbl, e]
    rw [e, e2]
    exact dbl_no h hm i f t s hy hE
set_option maxHeartbeats 4000000 in
theorem rdbl_no {w : World} {P : Nat} {v : Value} {x : Wn} (h : WAt 49 36 w P v x) (hm : x.ls.length ≤ 1000) (i f t : Int) (s : ByteArray) (hy : atL x.ls i = ⟨f, t, s⟩) (hE : atE x.ls i = 1) :
    Calls Try.prog 14 #[.pointer (some ⟨P, 0, none⟩), .int .i64 i] w fun e w' => e = .returned (.int .i64 1) ∧ ∃ u, WAt 49 36 w' P u x ∧ Stp (wfp P v) (wfp P u) w w' := by
  have hat := rat_any h hm i
  rw [hy, hE] at hat
  have HAT := Lib.hid hat
  clear hat
  go_enter Try.func14, Try.ntmps14
  go_upto_region 2 with (go_at_call 22; (with_reducible refine HAT.out.mono ?_); rintro e1 w1 ⟨rfl, hb1⟩)
  have HU0 := Lib.hid (show Stp (wfp P (v)) (wfp P (v)) w w1 from Stp.same (Kept.of_below hb1))
  have HT := Lib.hid (TW.start (h.below hb1) #[.int .i64 f, .int .i64 t, .string s])
  clear h hb1
  generalize w1.alloc (.cells #[.int .i64 f, .int .i64 t, .string s] 36) = wc at HT ⊢
  generalize w1.heap.size = B at HT ⊢
  go_wp2
  go_ret
  exact ⟨rfl, v, HT.out.p, HU0.out.trans HT.out.u⟩
set_option maxHeartbeats 4000000 in
theorem rdbl_full {w : World} {P : Nat} {v : Value} {x : Wn} (h : WAt 49 36 w P v x) (hm : x.ls.length ≤ 1000) (i f t : Int) (s : ByteArray) (hy : atL x.ls i = ⟨f, t, s⟩) (hE : atE x.ls i = 0) (hfull : 96 ≤ x.ls.length) :
    Calls Try.prog 14 #[.pointer (some ⟨P, 0, none⟩), .int .i64 i] w fun e w' => e = .returned (.int .i64 2) ∧ ∃ u, WAt 49 36 w' P u x ∧ Stp (wfp P v) (wfp P u) w w' := by
  have hfu : (96 : Int) ≤ (x.ls.length : Int) := by omega
  clear hfull
  obtain ⟨pa, ca, hv⟩ := h.s.len
  subst hv
  have hat := rat_any h hm i
  rw [hy, hE] at hat
  have HAT := Lib.hid hat
  clear hat
  go_enter Try.func14, Try.ntmps14
  go_upto_region 2 with (go_at_call 22; (with_reducible refine HAT.out.mono ?_); rintro e1 w1 ⟨rfl, hb1⟩)
  have HU0 := Lib.hid (show Stp (wfp P (.slice pa x.ls.length ca)) (wfp P (.slice pa x.ls.length ca)) w w1 from Stp.same (Kept.of_below hb1))
  have HT := Lib.hid (TW.start (h.below hb1) #[.int .i64 f, .int .i64 t, .string s])
  clear h hb1
  generalize w1.alloc (.cells #[.int .i64 f, .int .i64 t, .string s] 36) = wc at HT ⊢
  generalize w1.heap.size = B at HT ⊢
  have c1 : wc.cell? ⟨P, 1, none⟩ = some (.slice pa x.ls.length ca) := HT.out.p.c1
  have cf : ∀ i, wc.frozen? ⟨P, i, none⟩ = false := HT.out.p.free
  have b0 : wc.cell? ⟨B, 0, none⟩ = some (.int .i64 f) := HT.out.b.cell 0 _ rfl
  have b1 : wc.cell? ⟨B, 1, none⟩ = some (.int .i64 t) := HT.out.b.cell 1 _ rfl
  have b2 : wc.cell? ⟨B, 2, none⟩ = some (.string s) := HT.out.b.cell 2 _ rfl
  go_wp2_with (fail)
  go_ret
  exact ⟨rfl, _, HT.out.p, HU0.out.trans HT.out.u⟩
set_option maxHeartbeats 4000000 in
theorem rdbl_ok {w : World} {P : Nat} {v : Value} {x : Wn} (h : WAt 49 36 w P v x) (hm : x.ls.length ≤ 1000) (i f t : Int) (s : ByteArray) (hy : atL x.ls i = ⟨f, t, s⟩) (hE : atE x.ls i = 0) (hfull : ¬ 96 ≤ x.ls.length) :
    Calls Try.prog 14 #[.pointer (some ⟨P, 0, none⟩), .int .i64 i] w fun e w' => e = .returned (.int .i64 0) ∧ ∃ u, WAt 49 36 w' P u (x.add ⟨f, t, s⟩) ∧ Stp (wfp P v) (wfp P u) w w' := by
  obtain ⟨i0, hi0, hz0, hz1, hz2⟩ := info_parts info36
  have hfu : ¬ (96 : Int) ≤ (x.ls.length : Int) := by omega
  have HLEN := Lib.hid (show x.ls.length ≤ 96 by omega)
  clear hfull
  obtain ⟨pa, ca, hv⟩ := h.s.len
  subst hv
  have hat := rat_any h hm i
  rw [hy, hE] at hat
  have HAT := Lib.hid hat
  clear hat
  go_enter Try.func14, Try.ntmps14
  go_upto_region 2 with (go_at_call 22; (with_reducible refine HAT.out.mono ?_); rintro e1 w1 ⟨rfl, hb1⟩)
  have HU0 := Lib.hid (show Stp (wfp P (.slice pa x.ls.length ca)) (wfp P (.slice pa x.ls.length ca)) w w1 from Stp.same (Kept.of_below hb1))
  have HT := Lib.hid (TW.start (h.below hb1) #[.int .i64 f, .int .i64 t, .string s])
  clear h hb1
  generalize w1.alloc (.cells #[.int .i64 f, .int .i64 t, .string s] 36) = wc at HT ⊢
  generalize w1.heap.size = B at HT ⊢
  have c1 : wc.cell? ⟨P, 1, none⟩ = some (.slice pa x.ls.length ca) := HT.out.p.c1
  have cf : ∀ i, wc.frozen? ⟨P, i, none⟩ = false := HT.out.p.free
  have b0 : wc.cell? ⟨B, 0, none⟩ = some (.int .i64 f) := HT.out.b.cell 0 _ rfl
  have b1 : wc.cell? ⟨B, 1, none⟩ = some (.int .i64 t) := HT.out.b.cell 1 _ rfl
  have b2 : wc.cell? ⟨B, 2, none⟩ = some (.string s) := HT.out.b.cell 2 _ rfl
  go_upto_region 6 with (fail)
  generalize hvv : Value.slice pa x.ls.length ca = v at HT HU0
  have HVV := Lib.hid hvv
  clear hvv
  have HW := Lib.hid (And.intro HT.out.p (And.intro HT.out.b HT.out.n))
  clear c1 cf b0 b1 b2
  refine region_gen (AP 49 36 wc P v x ⟨f, t, s⟩ B) (by kernel_rfl) (by kernel_rfl) (AP.start HW.out.1 HW.out.2.1 HW.out.2.2) ?_
  repeat
    (refine step_gen (by decide) (by rfl) (fun K hK => ?_)
     go_simp
     first
       | (with_reducible apply H1.one
          · intro σ wv hk hd hv
            have Hv := Lib.hid hv
            have zf := hv.free
            obtain ⟨b0, b1, b2⟩ := hv.box
            try (have z_ := hv.cellS hk)
            clear hv
            go_simp
            (first
              | (with_reducible refine ⟨rfl, ?_⟩; first | (with_reducible exact AP.pure Hv.out (by decide)) | (with_reducible exact AP.store Hv.out (hd.get 7 (List.mem_cons_self ..) (by kernel_rfl)) hk)))
          refine hK _ _ _ ?_
          clear hK K)
       | (with_reducible refine H1.any (v = ·) ⟨_, rfl⟩ ?_ ?_
          · intro σ wv hk hd hv
            have c1 := hv.cell1 hk
            go_simp
            exact hv.load
          intro v_ hv_
          subst hv_
          refine hK _ _ _ ?_
          clear hK K)
       | (with_reducible refine H1.any IsSl ⟨_, IsSl.mk 0⟩ ?_ ?_
          · intro σ wv hk hd hv
            have Hv := Lib.hid hv
            clear hv
            go_simp
            exact ⟨IsSl.mk _, Hv.out.alloc hk⟩
          intro v_ hv_
          obtain ⟨Bz⟩ := hv_
          refine hK _ _ _ ?_
          clear hK K)
       | (with_reducible refine H1.any IsSlice ⟨_, .mk none 0 0⟩ ?_ ?_
          · intro σ wv hk hd hv
            have h4 := hd.get 4 (List.mem_cons_of_mem _ (List.mem_cons_self ..)) (by kernel_rfl)
            have h6 := hd.get 6 (List.mem_cons_self ..) (by kernel_rfl)
            obtain ⟨B', eB, hB, hb⟩ := hv.b _ h6
            cases eB
            obtain ⟨u, w', hrun, hu, hg, hnew⟩ := run_append_new (P := Try.prog) wv 0 45 45 36 i0 (.agg #[.int .i64 0, .int .i64 0, .string ⟨#[]⟩]) 3 32 Try.underlying45 hi0 hz0 hz1 hz2 rfl (by decide) v x.ls.length (lts x.ls) (hv.o hk) ⟨Bz, 0, none⟩ 1 1 (ltc ⟨f, t, s⟩) rfl
              (by intro j z hj; rcases j with _ | _ | _ | _ <;> first | (cases hj; exact hb.cell _ _ rfl) | cases hj) (one_ltc _) (by have := HLEN.out; simp only [maxLen]; omega) (by have := HLEN.out; omega) (Nat.zero_le _)
            rw [← lts_snoc] at hu
            have hfin := hv.append h4 h6 hk hg (u := u) (by unfold Ls; rw [List.length_append]; exact hu) hnew
            exact runAt_append rfl rfl rfl hrun ⟨own_slice hu, hfin⟩
          intro v_ hv_
          obtain ⟨up, un, uc⟩ := hv_
          refine hK _ _ _ ?_
          clear hK K)
       | (trace_state; fail))
  refine nil_gen ?_
  intro σ w9 hall ht hv
  obtain ⟨u9, hw9, hs9⟩ := hv.fin (hall 7 (by decide)) (hall 10 (by decide))
  have H9 := Lib.hid (And.intro hw9 hs9)
  clear hv hall ht hw9 hs9 σ
  go_wp2
  go_ret
  exact ⟨rfl, u9, H9.out.1, by rw [HVV.out]; exact HU0.out.trans (HT.out.u.trans H9.out.2)⟩
/-- A letter is doubled. -/
theorem rdbl_any {w : World} {P : Nat} {v : Value} {x : Wn} (h : WAt 49 36 w P v x) (hm : x.ls.length ≤ 1000) (i : Int) :
    Calls Try.prog 14 #[.pointer (some ⟨P, 0, none⟩), .int .i64 i] w fun e w' => e = .returned (.int .i64 (x.dblE i)) ∧ ∃ u, WAt 49 36 w' P u (x.dbl i) ∧ Stp (wfp P v) (wfp P u) w w' := by
  obtain ⟨f, t, s, hy⟩ : ∃ f t s, atL x.ls i = ⟨f, t, s⟩ := ⟨_, _, _, rfl⟩
  rcases atE_or x.ls i with hE | hE
  · by_cases hfull : 96 ≤ x.ls.length
    · have e : x.dblE i = 2 := by simp [Wn.dblE, hE, hfull]
      have e2 : x.dbl i = x := by simp [Wn.dbl, e]
      rw [e, e2]
      exact rdbl_full h hm i f t s hy hE hfull
    · have e : x.dblE i = 0 := by simp [Wn.dblE, hE, hfull]
      have e2 : x.dbl i = x.add ⟨f, t, s⟩ := by simp [Wn.dbl, e, hy]
      rw [e, e2]
      exact rdbl_ok h hm i f t s hy hE hfull
  · have e : x.dblE i = 1 := by simp [Wn.dblE, hE]
    have e2 : x.dbl i = x := by simp [Wn.dbl, e]
    rw [e, e2]
    exact rdbl_no h hm i f t s hy hE
end Go.Proofs.Ytppjjbhbbnnpgaa
