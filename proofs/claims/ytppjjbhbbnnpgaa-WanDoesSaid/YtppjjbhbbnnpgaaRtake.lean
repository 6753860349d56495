/- The reference takes a letter: its walk. Conditions: the links lie whole in memory; not many letters are there. -/
import Derived.Test.YtppjjbhbbnnpgaaRtk
namespace Go.Proofs.Ytppjjbhbbnnpgaa
open Go.RowKit G
set_option linter.unusedVariables false
set_option linter.unusedSimpArgs false
attribute [local go_sem] upon_value upon_skip upon_enter runAt_run
set_option maxHeartbeats 4000000 in
theorem rtake_no {w : World} {P : Nat} {v : Value} {x : Wn} (h : WAt 49 36 w P v x) (hm : x.ls.length ≤ 1000) (i f t : Int) (s : ByteArray) (hy : atL x.ls i = ⟨f, t, s⟩) (hE : atE x.ls i = 1) :
    Calls Try.prog 11 #[.pointer (some ⟨P, 0, none⟩), .int .i64 i] w fun e w' => e = .returned (.tuple #[.agg #[.int .i64 f, .int .i64 t, .string s], .int .i64 1]) ∧ ∃ u, WAt 49 36 w' P u x ∧ Stp (wfp P v) (wfp P u) w w' := by
  have hZ := h.below (below_new w (.cells #[.int .i64 0, .int .i64 0, .string ⟨#[]⟩] 36))
  have hat := rat_any hZ hm i
  rw [hy, hE] at hat
  have HAT := Lib.hid hat
  clear hat
  go_enter Try.func11, Try.ntmps11
  go_upto_region 2 with (go_at_call 22; (with_reducible refine HAT.out.mono ?_); rintro e1 w1 ⟨rfl, hb1⟩)
  have HU0 := Lib.hid (show Below w.heap.size w w1 from below_of (below_new _ _) hb1)
  have HC := Lib.hid (And.intro (((Row.new w #[.int .i64 0, .int .i64 0, .string ⟨#[]⟩] 36).below hb1).alloc (.cells #[.int .i64 f, .int .i64 t, .string s] 36)) (And.intro (show w.heap.size ∉ P :: own v from fun hmm => absurd (h.lts _ hmm) (Nat.lt_irrefl _)) (show w.heap.size ≠ w1.heap.size from Nat.ne_of_lt (Nat.lt_of_lt_of_le (by simp) hb1.size))))
  have HT := Lib.hid (TW.start (hZ.below hb1) #[.int .i64 f, .int .i64 t, .string s])
  clear h hb1 hZ HAT
  generalize hW : w1.alloc (.cells #[.int .i64 f, .int .i64 t, .string s] 36) = wc at HT HC ⊢
  generalize w1.heap.size = B at HT HC ⊢
  clear hW
  obtain ⟨C, hCC⟩ : ∃ C, w.heap.size = C := ⟨_, rfl⟩
  rw [hCC] at HC
  have HCC := Lib.hid hCC
  rw [hCC]
  clear hCC
  have c1 : wc.cell? ⟨P, 1, none⟩ = some v := HT.out.p.c1
  have cf : ∀ i, wc.frozen? ⟨P, i, none⟩ = false := HT.out.p.free
  have b0 : wc.cell? ⟨B, 0, none⟩ = some (.int .i64 f) := HT.out.b.cell 0 _ rfl
  have b1 : wc.cell? ⟨B, 1, none⟩ = some (.int .i64 t) := HT.out.b.cell 1 _ rfl
  have b2 : wc.cell? ⟨B, 2, none⟩ = some (.string s) := HT.out.b.cell 2 _ rfl
  have z0 : wc.cell? ⟨C, 0, none⟩ = some (.int .i64 0) := HC.out.1.cell 0 _ rfl
  have z1 : wc.cell? ⟨C, 1, none⟩ = some (.int .i64 0) := HC.out.1.cell 1 _ rfl
  have z2 : wc.cell? ⟨C, 2, none⟩ = some (.string ⟨#[]⟩) := HC.out.1.cell 2 _ rfl
  have zf : ∀ i, wc.frozen? ⟨C, i, none⟩ = false := HC.out.1.free
  have HF := Lib.hid (fin_box HT.out.p ((Stp.same (Kept.of_below HU0.out)).trans HT.out.u) (Nat.le_of_eq HCC.out) HC.out.2.1 0 (ltc ⟨f, t, s⟩))
  go_wp2
  refine bodyPost_ret (v := .tuple #[.agg #[.int .i64 f, .int .i64 t, .string s], .int .i64 1]) (by simp [results, Try.results11, go_sem, *]) rfl ⟨rfl, v, ?_⟩
  exact HF.out
set_option maxHeartbeats 4000000 in
theorem rtake_ok {w : World} {P : Nat} {v : Value} {x : Wn} (h : WAt 49 36 w P v x) (hm : x.ls.length ≤ 1000) (i f t : Int) (s : ByteArray) (hy : atL x.ls i = ⟨f, t, s⟩) (hE : atE x.ls i = 0) (k : Nat) (hi : i = k) (hk : k < x.ls.length) :
    Calls Try.prog 11 #[.pointer (some ⟨P, 0, none⟩), .int .i64 i] w fun e w' => e = .returned (.tuple #[.agg #[.int .i64 f, .int .i64 t, .string s], .int .i64 0]) ∧ ∃ u, WAt 49 36 w' P u { x with ls := x.ls.eraseIdx k } ∧ Stp (wfp P v) (wfp P u) w w' := by
  subst hi
  obtain ⟨d, hd⟩ : ∃ d, x.ls.length = k + d + 1 := ⟨x.ls.length - k - 1, by omega⟩
  have hwk : wrap64 ((k : Int) + 1) = (k : Int) + 1 := wrap64_mid (by omega) (by omega)
  have hwk2 : IntKind.i64.wrap ((k : Int) + 1) = (k : Int) + 1 := by rw [IntWalk.i64_left]; exact hwk
  rcases h.s.form with ⟨-, hnil⟩ | ⟨g, cap, hv⟩
  · rw [hnil] at hk; simp at hk
  subst hv
  have hcap : x.ls.length ≤ cap ∧ cap ≤ maxLen := by
    rcases h.s.2 with ⟨he, -⟩ | ⟨g', cap', cur, he, -, hr, hl, hmx, hs, ht⟩
    · cases he
    · cases he; exact ⟨hl, hmx⟩
  unfold maxLen at hcap
  have HK := Lib.hid (And.intro hd (And.intro hm hk))
  obtain ⟨i0, hi0, hz0, hz1, hz2⟩ := info_parts info36
  obtain ⟨A, hA, hsrc⟩ : ∃ A : Addr, (if cap = k + 1 then some (⟨g, 0, none⟩ : Addr) else some ⟨g, (k + 1) * 3, none⟩) = some A ∧ ∀ wv, Ls 36 wv (.slice (some ⟨g, 0, none⟩) x.ls.length cap) x.ls → ∀ (j : Nat) (u : Value), (lts (x.ls.drop (k + 1)))[j]? = some u → wv.cell? (A.add j) = some u := by
    have hnl : (lts (x.ls.drop (k + 1))).length = d * 3 := by rw [lts_len, List.length_drop]; congr 1; omega
    by_cases hc : cap = k + 1
    · refine ⟨⟨g, 0, none⟩, by simp [hc], fun wv _ j u hu => ?_⟩
      have := (List.getElem?_eq_some_iff.1 hu).1
      rw [hnl] at this
      omega
    · refine ⟨⟨g, (k + 1) * 3, none⟩, by simp [hc], fun wv hl j u hu => ?_⟩
      have hh := World.ownsRow.cells hl (g := g) rfl ((k + 1) * 3 + j) u (by
        have htl : (lts (x.ls.take (k + 1))).length = (k + 1) * 3 := by rw [lts_len, List.length_take]; congr 1; omega
        rw [lts_split x.ls (k + 1), List.getElem?_append_right (by rw [htl]; omega), htl, show (k + 1) * 3 + j - (k + 1) * 3 = j by omega]
        exact hu)
      rw [addr_add, Nat.zero_add] at hh
      rw [addr_add]
      exact hh
  have HSRC := Lib.hid hsrc
  have q0 : k ≤ cap := by omega
  have q1 : k ≤ x.ls.length := by omega
  have q2 : k + 1 ≤ x.ls.length := by omega
  have q3 : (k : Int) + 1 ≤ (x.ls.length : Int) := by omega
  have q4 : (0 : Int) ≤ (k : Int) + 1 := by omega
  have q5 : x.ls.length - (k + 1) = d := by omega
  have q6 : (k : Int) ≤ (cap : Int) := by omega
  have q7 : (k : Int) < (x.ls.length : Int) := by omega
  clear hd hk hsrc hcap
  have hZ := h.below (below_new w (.cells #[.int .i64 0, .int .i64 0, .string ⟨#[]⟩] 36))
  have hat := rat_any hZ hm k
  rw [hy, hE] at hat
  have HAT := Lib.hid hat
  clear hat
  go_enter Try.func11, Try.ntmps11
  go_upto_region 2 with (go_at_call 22; (with_reducible refine HAT.out.mono ?_); rintro e1 w1 ⟨rfl, hb1⟩)
  have HU0 := Lib.hid (show Below w.heap.size w w1 from below_of (below_new _ _) hb1)
  have HC := Lib.hid (And.intro (((Row.new w #[.int .i64 0, .int .i64 0, .string ⟨#[]⟩] 36).below hb1).alloc (.cells #[.int .i64 f, .int .i64 t, .string s] 36)) (And.intro (show w.heap.size ∉ P :: own (.slice (some ⟨g, 0, none⟩) x.ls.length cap) from fun hmm => absurd (h.lts _ hmm) (Nat.lt_irrefl _)) (show w.heap.size ≠ w1.heap.size from Nat.ne_of_lt (Nat.lt_of_lt_of_le (by simp) hb1.size))))
  have HT := Lib.hid (TW.start (hZ.below hb1) #[.int .i64 f, .int .i64 t, .string s])
  clear h hb1 hZ HAT
  generalize hW : w1.alloc (.cells #[.int .i64 f, .int .i64 t, .string s] 36) = wc at HT HC ⊢
  generalize w1.heap.size = B at HT HC ⊢
  clear hW
  obtain ⟨C, hCC⟩ : ∃ C, w.heap.size = C := ⟨_, rfl⟩
  rw [hCC] at HC
  have HCC := Lib.hid hCC
  rw [hCC]
  clear hCC
  have c1 : wc.cell? ⟨P, 1, none⟩ = some (.slice (some ⟨g, 0, none⟩) x.ls.length cap) := HT.out.p.c1
  have cf : ∀ i, wc.frozen? ⟨P, i, none⟩ = false := HT.out.p.free
  have b0 : wc.cell? ⟨B, 0, none⟩ = some (.int .i64 f) := HT.out.b.cell 0 _ rfl
  have b1 : wc.cell? ⟨B, 1, none⟩ = some (.int .i64 t) := HT.out.b.cell 1 _ rfl
  have b2 : wc.cell? ⟨B, 2, none⟩ = some (.string s) := HT.out.b.cell 2 _ rfl
  clear hm
  go_upto_region 3 with (fail)
  clear c1 cf b0 b1 b2
  refine region_gen (T2 wc P (.slice (some ⟨g, 0, none⟩) x.ls.length cap) x k) (by kernel_rfl) (by kernel_rfl) (T2.start HT.out.p) ?_
  (refine step_gen (by decide) (by rfl) (fun K hK => ?_)
   go_simp
   first
       | (with_reducible apply H1.one
          · intro σ wv hk hd hv
            have Hv := Lib.hid hv
            have zf := hv.free
            try (have z_ := hv.cell1 hk)
            clear hv
            go_simp
            (with_reducible refine ⟨rfl, ?_⟩)
            (first | (with_reducible exact T2.pure Hv.out (by decide)) | (with_reducible exact T2.store Hv.out (hd.get 16 (List.mem_cons_self ..) (by kernel_rfl)) hk))
          refine hK _ _ _ ?_
          clear hK K))
  (refine step_gen (by decide) (by rfl) (fun K hK => ?_)
   go_simp
   first
       | (with_reducible refine H1.any IsE ⟨_, IsE.mk 0⟩ ?_ ?_
          · intro σ wv hk hd hv
            have Hv := Lib.hid hv
            clear hv
            go_simp
            exact ⟨IsE.mk _, Hv.out.alloc hk⟩
          intro v_ hv_
          obtain ⟨Bz⟩ := hv_
          refine hK _ _ _ ?_
          clear hK K))
  (refine step_gen (by decide) (by rfl) (fun K hK => ?_)
   go_simp
   first
       | (with_reducible apply H1.one
          · intro σ wv hk hd hv
            have Hv := Lib.hid hv
            have zf := hv.free
            try (have z_ := hv.cell1 hk)
            clear hv
            go_simp
            (with_reducible refine ⟨rfl, ?_⟩)
            (first | (with_reducible exact T2.pure Hv.out (by decide)) | (with_reducible exact T2.store Hv.out (hd.get 16 (List.mem_cons_self ..) (by kernel_rfl)) hk))
          refine hK _ _ _ ?_
          clear hK K))
  (refine step_gen (by decide) (by rfl) (fun K hK => ?_)
   go_simp
   first
       | (with_reducible apply H1.one
          · intro σ wv hk hd hv
            have Hv := Lib.hid hv
            have zf := hv.free
            try (have z_ := hv.cell1 hk)
            clear hv
            go_simp
            (with_reducible refine ⟨rfl, ?_⟩)
            (first | (with_reducible exact T2.pure Hv.out (by decide)) | (with_reducible exact T2.store Hv.out (hd.get 16 (List.mem_cons_self ..) (by kernel_rfl)) hk))
          refine hK _ _ _ ?_
          clear hK K))
  (refine step_gen (by decide) (by rfl) (fun K hK => ?_)
   go_simp
   first
       | (with_reducible apply H1.one
          · intro σ wv hk hd hv
            have Hv := Lib.hid hv
            have zf := hv.free
            try (have z_ := hv.cell1 hk)
            clear hv
            go_simp
            (with_reducible refine ⟨rfl, ?_⟩)
            (first | (with_reducible exact T2.pure Hv.out (by decide)) | (with_reducible exact T2.store Hv.out (hd.get 16 (List.mem_cons_self ..) (by kernel_rfl)) hk))
          refine hK _ _ _ ?_
          clear hK K))
  (refine step_gen (by decide) (by rfl) (fun K hK => ?_)
   go_simp
   first
       | (with_reducible refine H1.any ((.slice (some ⟨g, 0, none⟩) x.ls.length cap) = ·) ⟨_, rfl⟩ ?_ ?_
          · intro σ wv hk hd hv
            have c1 := hv.cell5 hk
            go_simp
            exact hv.p5
          intro v_ hv_
          subst hv_
          refine hK _ _ _ ?_
          clear hK K))
  (refine step_gen (by decide) (by rfl) (fun K hK => ?_)
   go_simp
   first
       | (with_reducible apply H1.one
          · intro σ wv hk hd hv
            have Hv := Lib.hid hv
            have zf := hv.free
            try (have z_ := hv.cell1 hk)
            clear hv
            go_simp
            (with_reducible refine ⟨rfl, ?_⟩)
            (first | (with_reducible exact T2.pure Hv.out (by decide)) | (with_reducible exact T2.store Hv.out (hd.get 16 (List.mem_cons_self ..) (by kernel_rfl)) hk))
          refine hK _ _ _ ?_
          clear hK K))
  (refine step_gen (by decide) (by rfl) (fun K hK => ?_)
   go_simp
   first
       | (with_reducible refine H1.any (Value.slice (some ⟨g, 0, none⟩) k cap = ·) ⟨_, rfl⟩ ?_ ?_
          · intro σ wv hk hd hv
            skip
            go_simp
            exact hv.p7 (hd.get 5 (List.mem_cons_self ..) (by kernel_rfl))
          intro v_ hv_
          subst hv_
          refine hK _ _ _ ?_
          clear hK K))
  (refine step_gen (by decide) (by rfl) (fun K hK => ?_)
   go_simp
   first
       | (with_reducible refine H1.any IsSlice ⟨_, .mk none 0 0⟩ ?_ ?_
          · intro σ wv hk hd hv
            have h7 := hd.get 7 (List.mem_cons_self ..) (by kernel_rfl)
            have h1 := hd.get 1 (List.mem_cons_of_mem _ (List.mem_cons_of_mem _ (List.mem_cons_self ..))) (by kernel_rfl)
            obtain ⟨B', eB, hB, hb⟩ := hv.b hk _ h1
            cases eB
            obtain ⟨u, w', hrun, hu, hg, hnew⟩ := run_append_new (P := Try.prog) wv 0 45 45 36 i0 (.agg #[.int .i64 0, .int .i64 0, .string ⟨#[]⟩]) 3 32 Try.underlying45 hi0 hz0 hz1 hz2 rfl (by decide) (.slice (some ⟨Bz, 0, none⟩) 0 0) 0 [] ⟨rfl, .inr ⟨Bz, 0, #[], rfl, Nat.zero_le _, hb, Nat.le_refl _, Nat.zero_le _, rfl, rfl⟩⟩ ⟨g, 0, none⟩ k cap (lts (x.ls.take k))
              (by rw [lts_len, List.length_take]; congr 1; have := HK.out.1; omega) (fun j z hj => World.ownsRow.cells hv.l (g := g) rfl j z (by rw [lts_split x.ls k, List.getElem?_append_left (List.getElem?_eq_some_iff.1 hj).1]; exact hj)) (one_lts _) (by have := HK.out; simp only [maxLen]; omega) (by have := HK.out; omega) (Nat.zero_le _)
            have hfin := hv.append1 h1 h7 hk hB hg (u := u) (by unfold Ls; rw [show (x.ls.take k).length = 0 + k by rw [List.length_take]; have := HK.out.1; omega]; simpa using hu) hnew
            exact runAt_append rfl rfl rfl hrun ⟨own_slice hu, hfin⟩
          intro v_ hv_
          obtain ⟨up, un, uc⟩ := hv_
          refine hK _ _ _ ?_
          clear hK K))
  (refine step_gen (by decide) (by rfl) (fun K hK => ?_)
   go_simp
   first
       | (with_reducible apply H1.one
          · intro σ wv hk hd hv
            have Hv := Lib.hid hv
            have zf := hv.free
            try (have z_ := hv.cell1 hk)
            clear hv
            go_simp
            (with_reducible refine ⟨rfl, ?_⟩)
            (first | (with_reducible exact T2.pure Hv.out (by decide)) | (with_reducible exact T2.store Hv.out (hd.get 16 (List.mem_cons_self ..) (by kernel_rfl)) hk))
          refine hK _ _ _ ?_
          clear hK K))
  (refine step_gen (by decide) (by rfl) (fun K hK => ?_)
   go_simp
   first
       | (with_reducible apply H1.one
          · intro σ wv hk hd hv
            have Hv := Lib.hid hv
            have zf := hv.free
            try (have z_ := hv.cell1 hk)
            clear hv
            go_simp
            (with_reducible refine ⟨rfl, ?_⟩)
            (first | (with_reducible exact T2.pure Hv.out (by decide)) | (with_reducible exact T2.store Hv.out (hd.get 16 (List.mem_cons_self ..) (by kernel_rfl)) hk))
          refine hK _ _ _ ?_
          clear hK K))
  (refine step_gen (by decide) (by rfl) (fun K hK => ?_)
   go_simp
   first
       | (with_reducible apply H1.one
          · intro σ wv hk hd hv
            have Hv := Lib.hid hv
            have zf := hv.free
            try (have z_ := hv.cell1 hk)
            clear hv
            go_simp
            (with_reducible refine ⟨rfl, ?_⟩)
            (first | (with_reducible exact T2.pure Hv.out (by decide)) | (with_reducible exact T2.store Hv.out (hd.get 16 (List.mem_cons_self ..) (by kernel_rfl)) hk))
          refine hK _ _ _ ?_
          clear hK K))
  (refine step_gen (by decide) (by rfl) (fun K hK => ?_)
   go_simp
   first
       | (with_reducible refine H1.any ((.slice (some ⟨g, 0, none⟩) x.ls.length cap) = ·) ⟨_, rfl⟩ ?_ ?_
          · intro σ wv hk hd hv
            have c1 := hv.cell12 hk
            go_simp
            exact hv.p12
          intro v_ hv_
          subst hv_
          refine hK _ _ _ ?_
          clear hK K))
  (refine step_gen (by decide) (by rfl) (fun K hK => ?_)
   go_simp
   first
       | (with_reducible apply H1.one
          · intro σ wv hk hd hv
            have Hv := Lib.hid hv
            have zf := hv.free
            try (have z_ := hv.cell1 hk)
            clear hv
            go_simp
            (with_reducible refine ⟨rfl, ?_⟩)
            (first | (with_reducible exact T2.pure Hv.out (by decide)) | (with_reducible exact T2.store Hv.out (hd.get 16 (List.mem_cons_self ..) (by kernel_rfl)) hk))
          refine hK _ _ _ ?_
          clear hK K))
  (refine step_gen (by decide) (by rfl) (fun K hK => ?_)
   go_simp
   first
       | (with_reducible apply H1.one
          · intro σ wv hk hd hv
            have Hv := Lib.hid hv
            have zf := hv.free
            try (have z_ := hv.cell1 hk)
            clear hv
            go_simp
            (with_reducible refine ⟨rfl, ?_⟩)
            (first | (with_reducible exact T2.pure Hv.out (by decide)) | (with_reducible exact T2.store Hv.out (hd.get 16 (List.mem_cons_self ..) (by kernel_rfl)) hk))
          refine hK _ _ _ ?_
          clear hK K))
  (refine step_gen (by decide) (by rfl) (fun K hK => ?_)
   go_simp
   first
       | (with_reducible refine H1.any (Value.slice (some A) d (cap - (k + 1)) = ·) ⟨_, rfl⟩ ?_ ?_
          · intro σ wv hk hd hv
            skip
            go_simp
            exact hv.p15 (hd.get 12 (List.mem_cons_self ..) (by kernel_rfl))
          intro v_ hv_
          subst hv_
          refine hK _ _ _ ?_
          clear hK K))
  (refine step_gen (by decide) (by rfl) (fun K hK => ?_)
   go_simp
   first
       | (with_reducible refine H1.any IsSlice ⟨_, .mk none 0 0⟩ ?_ ?_
          · intro σ wv hk hd hv
            have h15 := hd.get 15 (List.mem_cons_self ..) (by kernel_rfl)
            have h8 := hd.get 8 (List.mem_cons_of_mem _ (List.mem_cons_of_mem _ (List.mem_cons_self ..))) (by kernel_rfl)
            obtain ⟨u, w', hrun, hu, hg, hnew⟩ := run_append_new (P := Try.prog) wv 0 45 45 36 i0 (.agg #[.int .i64 0, .int .i64 0, .string ⟨#[]⟩]) 3 32 Try.underlying45 hi0 hz0 hz1 hz2 rfl (by decide) (.slice up un uc) (x.ls.take k).length (lts (x.ls.take k)) (hv.a hk _ h8).1 A d (cap - (k + 1)) (lts (x.ls.drop (k + 1)))
              (by rw [lts_len, List.length_drop, q5]) (fun j z hj => HSRC.out wv hv.l j z hj) (one_lts _) (by have := HK.out; rw [List.length_take]; simp only [maxLen]; omega) (by have := HK.out; rw [List.length_take]; omega) (Nat.zero_le _)
            have hfin := hv.append2 h8 h15 hk hg (u := u) (by unfold Ls; rw [lts_erase, show (x.ls.eraseIdx k).length = (x.ls.take k).length + d by rw [List.length_eraseIdx, if_pos HK.out.2.2, List.length_take]; have := HK.out.1; omega]; exact hu) hnew
            exact runAt_append rfl rfl rfl hrun ⟨own_slice hu, hfin⟩
          intro v_ hv_
          obtain ⟨up2, un2, uc2⟩ := hv_
          refine hK _ _ _ ?_
          clear hK K))
  (refine step_gen (by decide) (by rfl) (fun K hK => ?_)
   go_simp
   first
       | (with_reducible apply H1.one
          · intro σ wv hk hd hv
            have Hv := Lib.hid hv
            have zf := hv.free
            try (have z_ := hv.cell1 hk)
            clear hv
            go_simp
            (with_reducible refine ⟨rfl, ?_⟩)
            (first | (with_reducible exact T2.pure Hv.out (by decide)) | (with_reducible exact T2.store Hv.out (hd.get 16 (List.mem_cons_self ..) (by kernel_rfl)) hk))
          refine hK _ _ _ ?_
          clear hK K))
  (refine step_gen (by decide) (by rfl) (fun K hK => ?_)
   go_simp
   first
       | (with_reducible apply H1.one
          · intro σ wv hk hd hv
            have Hv := Lib.hid hv
            have zf := hv.free
            try (have z_ := hv.cell1 hk)
            clear hv
            go_simp
            (with_reducible refine ⟨rfl, ?_⟩)
            (first | (with_reducible exact T2.pure Hv.out (by decide)) | (with_reducible exact T2.store Hv.out (hd.get 16 (List.mem_cons_self ..) (by kernel_rfl)) hk))
          refine hK _ _ _ ?_
          clear hK K))
  (refine step_gen (by decide) (by rfl) (fun K hK => ?_)
   go_simp
   first
       | (with_reducible apply H1.one
          · intro σ wv hk hd hv
            have Hv := Lib.hid hv
            have zf := hv.free
            try (have z_ := hv.cell1 hk)
            clear hv
            go_simp
            (with_reducible refine ⟨rfl, ?_⟩)
            (first | (with_reducible exact T2.pure Hv.out (by decide)) | (with_reducible exact T2.store Hv.out (hd.get 16 (List.mem_cons_self ..) (by kernel_rfl)) hk))
          refine hK _ _ _ ?_
          clear hK K))
  refine nil_gen ?_
  intro σ w3 hall ht hv
  obtain ⟨u9, hw9, hs9⟩ := hv.fin (hall 19 (by decide))
  have hBn := HT.out.n
  have hCn := HC.out.2.1
  have hb3 := HT.out.b.kept hv.keep (by simp; exact fun e => hBn (by rw [e]; exact List.mem_cons_self ..))
  have hc3 := HC.out.1.kept hv.keep (by simp; exact fun e => hCn (by rw [e]; exact List.mem_cons_self ..))
  have hCu : C ∉ P :: own u9 := fun hmm => by
    rcases hs9.new C hmm with h1 | h1
    · exact hCn h1
    · have := HC.out.1.lt; omega
  have HF := Lib.hid (fin_box hw9 ((Stp.same (Kept.of_below HU0.out)).trans (HT.out.u.trans hs9)) (Nat.le_of_eq HCC.out) hCu 0 (ltc ⟨f, t, s⟩))
  have HB3 := Lib.hid hb3
  have HC3 := Lib.hid hc3
  clear hv hall ht hw9 hs9 hBn hCn hb3 hc3 hCu σ
  have b0 : w3.cell? ⟨B, 0, none⟩ = some (.int .i64 f) := HB3.out.cell 0 _ rfl
  have b1 : w3.cell? ⟨B, 1, none⟩ = some (.int .i64 t) := HB3.out.cell 1 _ rfl
  have b2 : w3.cell? ⟨B, 2, none⟩ = some (.string s) := HB3.out.cell 2 _ rfl
  have z0 : w3.cell? ⟨C, 0, none⟩ = some (.int .i64 0) := HC3.out.cell 0 _ rfl
  have z1 : w3.cell? ⟨C, 1, none⟩ = some (.int .i64 0) := HC3.out.cell 1 _ rfl
  have z2 : w3.cell? ⟨C, 2, none⟩ = some (.string ⟨#[]⟩) := HC3.out.cell 2 _ rfl
  have zf : ∀ i, w3.frozen? ⟨C, i, none⟩ = false := HC3.out.free
  go_wp2
  refine bodyPost_ret (v := .tuple #[.agg #[.int .i64 f, .int .i64 t, .string s], .int .i64 0]) (by simp [results, Try.results11, go_sem, *]) rfl ⟨rfl, _, HF.out⟩
/-- A letter is taken. -/
theorem rtake_any {w : World} {P : Nat} {v : Value} {x : Wn} (h : WAt 49 36 w P v x) (hm : x.ls.length ≤ 1000) (i : Int) :
    Calls Try.prog 11 #[.pointer (some ⟨P, 0, none⟩), .int .i64 i] w fun e w' => e = .returned (.tuple #[.agg #[.int .i64 (atL x.ls i).f, .int .i64 (atL x.ls i).t, .string (atL x.ls i).s], .int .i64 (atE x.ls i)]) ∧ ∃ u, WAt 49 36 w' P u (x.take i) ∧ Stp (wfp P v) (wfp P u) w w' := by
  obtain ⟨f, t, s, hy⟩ : ∃ f t s, atL x.ls i = ⟨f, t, s⟩ := ⟨_, _, _, rfl⟩
  rcases atE_or x.ls i with hE | hE
  · have hh : 0 ≤ i ∧ i < x.ls.length := by
      unfold atE at hE
      split at hE
      · assumption
      · cases hE
    obtain ⟨k, rfl⟩ := Int.eq_ofNat_of_zero_le hh.1
    have e2 : x.take k = { x with ls := x.ls.eraseIdx k } := by simp [Wn.take, hE]
    rw [e2, hy, hE]
    exact rtake_ok h hm k f t s hy hE k rfl (by omega)
  · have e2 : x.take i = x := by simp [Wn.take, hE]
    rw [e2, hy, hE]
    exact rtake_no h hm i f t s hy hE
end Go.Proofs.Ytppjjbhbbnnpgaa
