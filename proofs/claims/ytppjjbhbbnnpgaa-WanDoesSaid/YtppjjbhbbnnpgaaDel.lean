/- slices.Delete and slices.DeleteFunc at lists of letters. Conditions: the list lies whole in memory. -/
import Derived.Test.YtppjjbhbbnnpgaaWn
namespace Go.Proofs.Ytppjjbhbbnnpgaa
open Go.RowKit G
set_option linter.unusedVariables false
set_option linter.unusedSimpArgs false
attribute [local go_sem] upon_value upon_skip upon_enter runAt_run
theorem run_clear_any {P : Program} (w : World) (t e ty : TypeId) (z : Value) (zs : List Value) (ht : P.underlying t = some (.slice e)) (hv : ∀ w, (zeroValue e).run P w = .ok z w) (b o n c : Nat) (hn : 0 < n)
    (hz : (Builtin.zeroCells z.cells n).toList = zs) (h1 : ∀ v ∈ zs, v.oneCell' = true) (hc : ∀ j, j < zs.length → (w.cell? ⟨b, o + j, none⟩).isSome = true) (hf : ∀ j, j < zs.length → w.frozen? ⟨b, o + j, none⟩ = false) :
    (Builtin.clear_ #[t] ty #[.slice (some ⟨b, o, none⟩) n c]).run P w = .ok (.tuple #[]) (w.setCells b o zs) := by
  have hst := run_storeCells_cells (P := P) b o zs 0 w (by simpa using hc) (by simpa using hf) h1
  simp only [Nat.add_zero] at hst
  obtain ⟨m, rfl⟩ : ∃ m, n = m + 1 := ⟨n - 1, by omega⟩
  simp [Builtin.clear_, run_underlying ht, hv, hz, hst]
/-- Storing a row of cells: the block stays one, of the same size; what lies ahead of them stays. -/
theorem row_setCells {g T : Nat} : ∀ (vs : List Value) (o : Nat) (w : World) (cs : Array Value), Row w g cs T → ∃ cs', Row (w.setCells g o vs) g cs' T ∧ cs'.size = cs.size ∧ (∀ j, j < o → cs'[j]? = cs[j]?) ∧ (∀ j, o + vs.length ≤ j → cs'[j]? = cs[j]?) ∧
    (o + vs.length ≤ cs.size → ∀ (j : Nat) (u : Value), vs[j]? = some u → cs'[o + j]? = some u)
  | [], o, w, cs, h => ⟨cs, h, rfl, fun _ _ => rfl, fun _ _ => rfl, fun _ _ _ h => by simp at h⟩
  | v :: vs, o, w, cs, h => by
    obtain ⟨cs', h1, h2, h3, h4, h5⟩ := row_setCells vs (o + 1) (w.setCell ⟨g, o, none⟩ v) _ (h.set o v)
    refine ⟨cs', h1, by rw [h2]; simp, fun j hj => ?_, fun j hj => ?_, fun hs j u hu => ?_⟩
    · rw [h3 j (by omega), get_set, if_neg (by omega)]
    · rw [h4 j (by simp at hj; omega), get_set, if_neg (by simp at hj; omega)]
    · cases j with
      | zero =>
        simp at hu; subst hu
        rw [Nat.add_zero, h3 o (by omega), get_set, if_pos ⟨rfl, by simp at hs; omega⟩]
      | succ j =>
        have := h5 (by simp at hs ⊢; omega) j u (by simpa using hu)
        rw [show o + 1 + j = o + (j + 1) by omega] at this
        exact this
theorem kept_setCells {F : List Nat} {w0 : World} {g : Nat} (hg : g ∈ F) : ∀ (vs : List Value) (o : Nat) (w : World), Kept F w0 w → Kept F w0 (w.setCells g o vs)
  | [], o, w, h => h
  | v :: vs, o, w, h => kept_setCells hg vs (o + 1) _ (h.set g o (.inl hg) v)
/-- A list of letters in a block that is known whole. -/
structure Blk (w : World) (g cap : Nat) (ls : List Lt) (cs : Array Value) : Prop where
  r : Row w g cs 34
  size : cs.size = cap * 3
  len : ls.length ≤ cap
  max : cap ≤ maxLen
  at_ : ∀ (j : Nat) (u : Value), (lts ls)[j]? = some u → cs[j]? = some u
theorem Blk.of {w : World} {g n cap : Nat} {ls : List Lt} (h : Ls 34 w (.slice (some ⟨g, 0, none⟩) n cap) ls) : n = ls.length ∧ ∃ cs, Blk w g cap ls cs := by
  rcases h.2 with ⟨he, -⟩ | ⟨g', cap', cur, he, -, hr, hl, hm, hs, ht⟩
  · cases he
  · cases he
    refine ⟨rfl, cur, hr, hs, hl, hm, fun j u hu => ?_⟩
    have := (List.getElem?_eq_some_iff.1 hu).1
    rw [lts_len] at this
    rw [← ht, List.getElem?_take, if_pos this] at hu
    simpa using hu
theorem Blk.own {w : World} {g cap : Nat} {ls : List Lt} {cs : Array Value} (h : Blk w g cap ls cs) : Ls 34 w (.slice (some ⟨g, 0, none⟩) ls.length cap) ls := by
  refine ⟨lts_len ls, .inr ⟨g, cap, cs, rfl, Nat.zero_le _, h.r, h.len, h.max, h.size, ?_⟩⟩
  apply List.ext_getElem?
  intro j
  rw [List.getElem?_take]
  by_cases hj : j < ls.length * 3
  · rw [if_pos hj]
    have hl : j < (lts ls).length := by rw [lts_len]; exact hj
    rw [List.getElem?_eq_getElem hl]
    have := h.at_ j _ (List.getElem?_eq_getElem hl)
    simpa using this
  · rw [if_neg hj, List.getElem?_eq_none (by rw [lts_len]; omega)]
theorem info34 : (Try.prog.info? 34).map (fun i => (i.zero, i.size, i.bytes)) = some (some (.agg #[.int .i64 0, .int .i64 0, .string ⟨#[]⟩]), 3, 32) := by kernel_rfl
theorem info36 : (Try.prog.info? 36).map (fun i => (i.zero, i.size, i.bytes)) = some (some (.agg #[.int .i64 0, .int .i64 0, .string ⟨#[]⟩]), 3, 32) := by kernel_rfl
theorem one_ltc (y : Lt) : ∀ u ∈ ltc y, u.oneCell' = true := by
  intro u hu
  simp [ltc] at hu
  rcases hu with rfl | rfl | rfl <;> rfl
theorem one_lts (ls : List Lt) : ∀ u ∈ lts ls, u.oneCell' = true := by
  intro u hu
  unfold lts at hu
  rw [List.mem_flatMap] at hu
  obtain ⟨y, _, hy⟩ := hu
  exact one_ltc y u hy
theorem kept_setRow {F : List Nat} {w0 w : World} {g : Nat} (hg : g ∈ F) (h : Kept F w0 w) (cs : Array Value) : Kept F w0 (w.setRow g cs) :=
  ⟨h.os, h.tape, h.output, by rw [size_setRow]; exact h.size, fun k hk hn => by
    have hne : g ≠ k := fun e => hn (e ▸ hg)
    show (w.heap.modify g _)[k]? = _
    rw [Array.getElem?_modify, if_neg hne]
    exact h.block k hk hn⟩
theorem lts_split (ls : List Lt) (i : Nat) : lts ls = lts (ls.take i) ++ lts (ls.drop i) := by rw [← lts_app, List.take_append_drop]
theorem lts_erase (ls : List Lt) (i : Nat) : lts (ls.eraseIdx i) = lts (ls.take i) ++ lts (ls.drop (i + 1)) := by rw [← lts_app, ← List.eraseIdx_eq_take_drop_succ]
theorem zero3 : (Builtin.zeroCells (Value.agg #[.int .i64 0, .int .i64 0, .string ⟨#[]⟩]).cells 1).toList = ltc lt0 := by simp [Builtin.zeroCells, Value.cells, ltc, lt0, List.range_succ, Array.range]
/-- The array behind an append of the rest. -/
theorem cut_row {w : World} {g cap i d : Nat} {ls : List Lt} {cs : Array Value} (h : Blk w g cap ls cs) (hn : ls.length = i + d + 1) :
    ((cs.toList.take (i * 3) ++ lts (ls.drop (i + 1)) ++ cs.toList.drop (i * 3 + (lts (ls.drop (i + 1))).length)).toArray).size = cap * 3 ∧
    ∀ (j : Nat) (u : Value), (lts (ls.eraseIdx i))[j]? = some u → ((cs.toList.take (i * 3) ++ lts (ls.drop (i + 1)) ++ cs.toList.drop (i * 3 + (lts (ls.drop (i + 1))).length)).toArray)[j]? = some u := by
  have hl := h.len
  have hs := h.size
  have hs2 : cs.toList.length = cap * 3 := by simpa using hs
  have hnl : (lts (ls.drop (i + 1))).length = d * 3 := by rw [lts_len, List.length_drop]; congr 1; omega
  have htl : (lts (ls.take i)).length = i * 3 := by rw [lts_len, List.length_take]; congr 1; omega
  refine ⟨by simp [hs]; rw [hnl]; omega, fun j u hu => ?_⟩
  rw [lts_erase] at hu
  rw [List.getElem?_toArray, List.append_assoc]
  have ht : (cs.toList.take (i * 3)).length = i * 3 := by rw [List.length_take, hs2]; omega
  by_cases hj : j < i * 3
  · rw [List.getElem?_append_left (by rw [htl]; exact hj)] at hu
    rw [List.getElem?_append_left (by rw [ht]; exact hj), List.getElem?_take, if_pos hj]
    have := h.at_ j u (by rw [lts_split ls i, List.getElem?_append_left (by rw [htl]; exact hj)]; exact hu)
    simpa using this
  · rw [List.getElem?_append_right (by rw [htl]; omega), htl] at hu
    have hlt := (List.getElem?_eq_some_iff.1 hu).1
    rw [List.getElem?_append_right (by rw [ht]; omega), ht, List.getElem?_append_left hlt]
    exact hu
set_option maxHeartbeats 4000000 in
theorem del_any {w : World} {g cap i d : Nat} {ls : List Lt} {cs : Array Value} (h : Blk w g cap ls cs) (hn : ls.length = i + d + 1) (hm : ls.length ≤ 1000) :
    Calls Try.prog 27 #[.slice (some ⟨g, 0, none⟩) (i + d + 1) cap, .int .i64 i, .int .i64 (i + 1)] w fun e w' => e = .returned (.slice (some ⟨g, 0, none⟩) (i + d) cap) ∧ (∃ cs', Blk w' g cap (ls.eraseIdx i) cs') ∧ Kept [g] w w' := by
  have hl := h.len
  have hmx := h.max
  unfold maxLen at hmx
  obtain ⟨i0, hi0, hz0, hz1, hz2⟩ := info_parts info34
  obtain ⟨hcs, hca⟩ := cut_row h hn
  have hnl : (lts (ls.drop (i + 1))).length = d * 3 := by rw [lts_len, List.length_drop]; congr 1; omega
  obtain ⟨A, hA, hsrc⟩ : ∃ A : Addr, (if cap = i + 1 then some (⟨g, 0, none⟩ : Addr) else some ⟨g, (i + 1) * 3, none⟩) = some A ∧ Hid (∀ (j : Nat) (u : Value), (lts (ls.drop (i + 1)))[j]? = some u → w.cell? (A.add j) = some u) := by
    by_cases hc : cap = i + 1
    · refine ⟨⟨g, 0, none⟩, by simp [hc], Lib.hid fun j u hu => ?_⟩
      have := (List.getElem?_eq_some_iff.1 hu).1
      rw [hnl] at this
      omega
    · refine ⟨⟨g, (i + 1) * 3, none⟩, by simp [hc], Lib.hid fun j u hu => ?_⟩
      rw [addr_add]
      refine h.r.cell _ _ (h.at_ _ _ ?_)
      have htl : (lts (ls.take (i + 1))).length = (i + 1) * 3 := by rw [lts_len, List.length_take]; congr 1; omega
      rw [lts_split ls (i + 1), List.getElem?_append_right (by rw [htl]; omega), htl, show (i + 1) * 3 + j - (i + 1) * 3 = j by omega]
      exact hu
  have hic : i ≤ cap := by omega
  have hin : i + 1 ≤ i + d + 1 := by omega
  have hck : ¬ cap = i + d := by omega
  have hkc : i + d + 1 ≤ cap := by omega
  have hsz := h.size
  have hroom : i * i0.size + (lts (ls.drop (i + 1))).length ≤ cs.size := by rw [hnl, hz1, hsz]; omega
  have hl2 : (lts (ls.drop (i + 1))).length = d * i0.size := by rw [hnl, hz1]
  have HH := Lib.hid (And.intro h (And.intro hcs (And.intro hca (And.intro hroom hl2))))
  have HN := Lib.hid hn
  clear h hcs hca hroom hl2 hnl hsz hn
  have hn2 : i + d + 1 ≤ 1000 := by have := HN.out; omega
  clear hm
  have e1 : ¬ (i : Int) = i + 1 := by omega
  have hd1 : i + d + 1 - (i + 1) = d := by omega
  have q1 : 0 ≤ (i : Int) + 1 := by omega
  have q2 : (i : Int) ≤ (i : Int) + (d : Int) := by omega
  have q3 : (i : Int) + (d : Int) + 1 ≤ (cap : Int) := by omega
  have q4 : 0 ≤ (i : Int) + (d : Int) := by omega
  have q5 : (i : Int) + (d : Int) ≤ (cap : Int) := by omega
  go_enter Try.func27, Try.ntmps27
  go_upto_region 5 with (fail)
  refine region_gen (Cl 6 w (fun _ => True) (fun _ wv => (∃ cs1, Row wv g cs1 34 ∧ cs1.size = cap * 3 ∧ ∀ (j : Nat) (u : Value), (lts (ls.eraseIdx i))[j]? = some u → cs1[j]? = some u) ∧ Kept [g] w wv)) (by kernel_rfl) (by kernel_rfl) (Cl.start trivial) ?_
  repeat
    (refine step_gen (by decide) (by rfl) (fun K hK => ?_)
     go_simp
     first
       | (with_reducible apply H1.one
          · intro σ wv hk hd hv
            have Hv := Lib.hid hv
            clear hv
            go_simp
            (first
              | (with_reducible refine ⟨rfl, ?_⟩; exact Cl.pure Hv.out (by decide)))
          refine hK _ _ _ ?_
          clear hK K)
       | (with_reducible apply H1.one
          · intro σ wv hk hd hv
            obtain ⟨m_, rfl⟩ := hv.a hk
            have hrun := run_append_room (P := Try.prog) (w.drewN m_) 56 56 34 i0 Try.underlying56 hi0 g i cap cs (HH.out.1.r.drewN m_) A d (cap - (i + 1)) (lts (ls.drop (i + 1))) HH.out.2.2.2.2 (hsrc.out) (one_lts _) (by omega) HH.out.2.2.2.1
            refine runAt_append rfl rfl rfl hrun ⟨rfl, Cl.call trivial ⟨⟨_, setRow_heap _ _ _ _ _ _ (HH.out.1.r.drewN m_), ?_⟩, kept_setRow (by simp) ((Kept.refl _ _).drewN m_) _⟩⟩
            rw [hz1]
            exact ⟨HH.out.2.1, HH.out.2.2.1⟩
          refine hK _ _ _ ?_
          clear hK K)
       | (trace_state; fail))
  refine nil_gen ?_
  intro σ w2 hall ht hv
  have hn6 := hall 6 (by decide)
  cases e6 : σ 6 with
  | none => rw [e6] at hn6; cases hn6
  | some y =>
  obtain ⟨⟨cs1, r1, s1, a1⟩, k1⟩ := hv.b y e6
  clear hv hall ht hn6 e6 y σ
  have hcl : ∀ ty, (Builtin.clear_ #[56] ty #[.slice (some ⟨g, (i + d) * 3, none⟩) 1 (cap - (i + d))]).run Try.prog w2 = .ok (.tuple #[]) (w2.setCells g ((i + d) * 3) (ltc lt0)) := by
    intro ty
    refine run_clear_any w2 56 34 ty (.agg #[.int .i64 0, .int .i64 0, .string ⟨#[]⟩]) (ltc lt0) Try.underlying56 ?_ g ((i + d) * 3) 1 (cap - (i + d)) (by omega) zero3 (one_ltc _) ?_ ?_
    · intro w'
      simp [zeroValue, typeInfo, hi0, hz0]
    · intro j hj
      simp [ltc] at hj
      rw [r1.cell ((i + d) * 3 + j) _ (Array.getElem?_eq_getElem (by omega))]
      rfl
    · exact fun j _ => r1.free _
  obtain ⟨cs2, r2, s2, lo2, -, -⟩ := row_setCells (ltc lt0) ((i + d) * 3) w2 cs1 r1
  have k2 : Kept [g] w (w2.setCells g ((i + d) * 3) (ltc lt0)) := kept_setCells (by simp) _ _ _ k1
  have hle : (ls.eraseIdx i).length = i + d := by rw [List.length_eraseIdx, if_pos (by have := HN.out; omega)]; have := HN.out; omega
  have hB : Blk (w2.setCells g ((i + d) * 3) (ltc lt0)) g cap (ls.eraseIdx i) cs2 := ⟨r2, by rw [s2]; exact s1, by rw [hle]; omega, HH.out.1.max, fun j u hu => by
    have hj := (List.getElem?_eq_some_iff.1 hu).1
    rw [lts_len, hle] at hj
    rw [lo2 j hj]
    exact a1 j u hu⟩
  have HF := Lib.hid (And.intro hB k2)
  clear r2 s2 lo2 k2 hle hB r1 s1 a1 k1
  go_wp2
  go_ret
  exact ⟨rfl, ⟨_, HF.out.1⟩, HF.out.2⟩
end Go.Proofs.Ytppjjbhbbnnpgaa
