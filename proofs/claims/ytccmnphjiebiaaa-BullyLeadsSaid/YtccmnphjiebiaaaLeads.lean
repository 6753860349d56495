/- BullyLeads' own function returns true, whatever acts come, whoever is up then. Condition: the lists lie whole in memory. -/
import Derived.Test.YtccmnphjiebiaaaLb2
import Derived.Deep.CutBlock
namespace Go.Proofs.Ytccmnphjiebiaaa
open Go.RowKit G
set_option linter.unusedVariables false
set_option linter.unusedSimpArgs false
attribute [local go_sem] upon_value upon_skip upon_enter runAt_run
theorem wp_append_run {P : Program} {o : Oper} {a : Act} {K : Act → World → Prop} {Q : Exit → Act → World → Prop} {w w' : World} {s x : Operand} {t : TypeId} {v y u : Value} (ho : o.op = .call { callee := .builtin .append, args := #[s, x], argTypes := #[t, t] })
    (hs : a.eval s = v) (hx : a.eval x = y) (hr : (Builtin.append_ #[t, t] o.type #[v, y]).run P w = .ok u w') (h : K (a.put o.dst u) w') : o.wp P a w K Q := by
  unfold Oper.wp execOp
  simp only [ho, resolve, invoke, builtin, Sem.run_bind, Sem.run_pure, Result.andThen_ok, List.map_toArray, List.map_cons, List.map_nil, hs, hx, hr]
  exact h
theorem wpList_append_run {P : Program} {ops : Array Oper} {rest : List Oper} {o : Oper} {a : Act} {Q : Exit → Act → World → Prop} {w w' : World} {s x : Operand} {t : TypeId} {v y u : Value} (hgd : o.guard = none) (ho : o.op = .call { callee := .builtin .append, args := #[s, x], argTypes := #[t, t] })
    (hs : a.eval s = v) (hx : a.eval x = y) (hr : (Builtin.append_ #[t, t] o.type #[v, y]).run P w = .ok u w') (h : wpList P ops Q rest (a.put o.dst u) w') : wpList P ops Q (o :: rest) a w :=
  wpList_plain hgd fun _ hK => wp_append_run ho hs hx hr (hK _ _ h)
theorem rem_natL (a : Int) (m : Nat) (hm : 0 < m) (hm' : m ≤ 100000) : ∃ r : Nat, wrap64 ((IntKind.u64.wrap a).tmod m) = (r : Int) ∧ r < m := by
  have h0 : 0 ≤ IntKind.u64.wrap a := by rw [IntKind.wrap_u64]; omega
  obtain ⟨u, hu⟩ := Int.eq_ofNat_of_zero_le h0
  rw [hu]
  refine ⟨u % m, ?_, Nat.mod_lt _ hm⟩
  have := Nat.mod_lt u hm
  have e : ((u : Int).tmod m) = ((u % m : Nat) : Int) := rfl
  rw [e]
  unfold wrap64; omega
theorem rem4 (a : Int) (n : Nat) (hn : 0 < n) (h5 : n ≤ 5) : ∃ r : Nat, wrap64 ((IntKind.u64.wrap a).tmod (4 * (n : Int))) = (r : Int) ∧ r < 4 * n := by
  obtain ⟨r, e, h⟩ := rem_natL a (4 * n) (by omega) (by omega)
  refine ⟨r, ?_, h⟩
  rw [← e]
  congr 2
theorem remI (a : Int) (m : Nat) (hm : 0 < m) (hm' : m ≤ 100000) : ∃ r : Nat, IntKind.i64.wrap ((IntKind.u64.wrap a).tmod m) = (r : Int) ∧ r < m := by
  have h0 : 0 ≤ IntKind.u64.wrap a := by rw [IntKind.wrap_u64]; omega
  obtain ⟨u, hu⟩ := Int.eq_ofNat_of_zero_le h0
  rw [hu]
  refine ⟨u % m, ?_, Nat.mod_lt _ hm⟩
  have := Nat.mod_lt u hm
  have e : ((u : Int).tmod m) = ((u % m : Nat) : Int) := rfl
  rw [e, IntKind.wrap_i64]
  omega
theorem Ph1.upto {n i j : Nat} {t : Tw} (h : Ph1 n i t) (hj : i ≤ j) : Ph1 n j t := ⟨h.g, h.r, h.p.more hj (Nat.le_refl _), by have := h.T; omega, by have := h.l; omega⟩
theorem TB.first2 {W w : World} {n Pt Bb cb Ab Nb g off c : Nat} {U : Nat → Bool} {N : Nat → NL} {t : Tw} (h : TB W w n Pt Bb cb Ab Nb U (.slice (some ⟨g, off, none⟩) t.l.length c) N t) (hp : 0 < t.l.length) :
    ∃ lv', Value.slice (if c = 1 then some ⟨g, off, none⟩ else some ⟨g, off + 4, none⟩) (t.l.length - 1) (c - 1) = lv' ∧ TB W (w.setCell ⟨Pt, 1, none⟩ lv') n Pt Bb cb Ab Nb U lv' N { t with l := t.l.tail } := by
  by_cases hc : c = 1
  · refine ⟨_, rfl, ?_⟩
    rw [if_pos hc]
    have hle : t.l.length ≤ c ∧ g < w.heap.size := by
      rcases h.q.l with ⟨e, -⟩ | ⟨g', off', cap', e, hg, hl, -⟩
      · cases e
      · cases e; exact ⟨hl, hg⟩
    have h1 : t.l.length = 1 := by omega
    have ht : t.l.tail = [] := by
      apply List.eq_nil_of_length_eq_zero
      rw [List.length_tail]; omega
    obtain ⟨q1, st1⟩ := h.q.setL (.slice (some ⟨g, off, none⟩) (t.l.length - 1) (c - 1))
    have hsz : g < (w.setCell ⟨Pt, 1, none⟩ (.slice (some ⟨g, off, none⟩) (t.l.length - 1) (c - 1))).heap.size := by rw [size_set]; exact hle.2
    have hl : RowA (w.setCell ⟨Pt, 1, none⟩ (.slice (some ⟨g, off, none⟩) (t.l.length - 1) (c - 1))) (.slice (some ⟨g, off, none⟩) (t.l.length - 1) (c - 1)) t.l.tail := by
      rw [ht]
      refine .inr ⟨g, off, c - 1, by simp [h1], hsz, by simp, fun j u hu => by simp [wds] at hu, fun j hj => by omega⟩
    obtain ⟨q2, st2⟩ := q1.words (z := .slice (some ⟨g, off, none⟩) (t.l.length - 1) (c - 1)) (Kept.refl _ _) hl (fun b hb => .inl (by simpa [own, Value.ownBlock] using hb))
    exact h.step q2 (st1.trans st2) (fun _ => rfl)
  · refine ⟨_, rfl, ?_⟩
    rw [if_neg hc]
    exact h.first hp
theorem dlv_pa {n i : Nat} {U : Nat → Bool} (hn : n ≤ 5) : ∀ (f : Nat) (t : Tw), G n U t [] → Rb n t → PA i 0 n t → t.T + f * n ≤ 1000000 → PA i 0 n (dlv n U f t)
  | 0, t, _, _, hp, _ => hp
  | f + 1, t, hg, hb, hp, hT => by
    unfold dlv
    have hmul : ((f + 1 : Nat) : Int) * n = f * n + n := by rw [Int.natCast_add, Int.add_mul]; simp
    have hpos : (0 : Int) ≤ (f : Int) * n := Int.mul_nonneg (by omega) (by omega)
    rw [hmul] at hT
    split
    · exact hp
    · obtain ⟨a, b, c⟩ := dlv1_g hg (by omega)
      have h1 := (puts_at hn (by omega) hg hb hp t.l.length).2.1
      rw [List.take_length] at h1
      exact dlv_pa hn f _ a (dlv1_rb hg (by omega) hb) ((h1.gath (U := U)).rest (dlv1_rb hg (by omega) hb)) (by omega)
theorem rounds_pa {n i : Nat} {U : Nat → Bool} {t : Tw} (h : G n U t []) (r : Rs n t) (hn : n ≤ 5) (hT : t.T ≤ 100000) (hp : PA i 0 n t) : ∀ j, j ≤ 60 → PA (i + j) 0 n (rounds n U j t)
  | 0, _ => hp
  | j + 1, hj => by
    obtain ⟨a, b, c⟩ := rounds_base h r hn hT j (by omega)
    have ih := rounds_pa h r hn hT hp j (by omega)
    have hgt := a.tickU b (by omega)
    have hpt := ih.tickU (U := U)
    have hTT : (tickU n U (rounds n U j t)).T = (rounds n U j t).T := rfl
    obtain ⟨hg2, -, hT1, hT2⟩ := gath_ind (Inv := fun _ _ => True) (fun _ _ _ _ _ _ _ => trivial) hgt trivial (by rw [hTT]; omega)
    have hrb2 : Rb n (gath n U (tickU n U (rounds n U j t))) := gath_rb hgt (by rw [hTT]; omega) (fun k hk hU => by rw [tickU_not hU]; exact ⟨b.w k hk, b.r k hk⟩)
    exact dlv_pa hn 20 _ hg2 hrb2 ((hpt.gath (U := U)).rest hrb2) (by omega)
theorem tmod_nat (r n : Nat) (hn : 0 < n) : ∃ kk : Nat, kk < n ∧ (r : Int).tmod (n : Int) = (kk : Int) := ⟨r % n, Nat.mod_lt _ hn, rfl⟩
set_option maxHeartbeats 16000000 in
set_option maxRecDepth 100000 in
theorem leads_any (n0 : Int) (ua : Option Addr) (ul uc : Nat) (ub : Nat → Bool) (aa : Option Addr) (al ac : Nat) (acts : Nat → Int) (w : World) (hu : BIn w ua ul ub) (ha : IIn w aa al acts) :
    Calls Try.prog 5 #[.int .i64 n0, .slice ua ul uc, .slice aa al ac] w fun e w' => e = .returned (.bool true) ∧ Below w.heap.size w w' := by
  have hml := hu.1
  have hma := ha.1
  unfold maxLen at hml hma
  have HU := Lib.hid hu
  have HA := Lib.hid ha
  clear hu ha
  go_enter Try.func5, Try.ntmps5
  go_upto_region 3 with (go_at_call 24; (with_reducible refine (works_any _).mono ?_); rintro e' w1 ⟨rfl, hb1⟩)
  go_cut [0] from 28 to 34 (fun v0 wc => (∃ n : Nat, v0 = .int .i64 n ∧ 1 ≤ n ∧ n ≤ 5) ∧ Below w.heap.size w wc)
  case first =>
    go_wp2_with fail
    go_meet
    case rel =>
      obtain ⟨r1, e1, l1⟩ := rem_natL n0 5 (by omega) (by omega)
      simp only [show ((5 : Nat) : Int) = 5 from rfl] at e1
      exact ⟨⟨r1 + 1, by rw [e1]; congr 1; unfold wrap64; omega, by omega, by omega⟩, hb1⟩
  case rest =>
  clear hb1
  obtain ⟨⟨n, rfl, n1, n5⟩, hb1⟩ := hcut
  have hmk := run_make_row' (P := Try.prog) 57 4 (.bool false) 1 Try.underlying57 info4 rfl .i64 .i64 n (by omega) (by omega)
  go_upto_region 5 with (fail)
  have HR0 := Lib.hid (Row.new wc #[.slice none 0 0, .slice none 0 0, .int .i64 0] 62)
  have HB0 := Lib.hid (below_of hb1 (below_new wc (.cells #[.slice none 0 0, .slice none 0 0, .int .i64 0] 62)))
  have HB1 := Lib.hid hb1
  clear hb1
  generalize hW4 : wc.alloc (.cells #[.slice none 0 0, .slice none 0 0, .int .i64 0] 62) = w4 at HR0 HB0 ⊢
  clear hW4
  generalize hPt : wc.heap.size = Pt at HR0 ⊢
  have HPt := Lib.hid (show w.heap.size ≤ Pt by rw [← hPt]; exact HB1.out.size)
  clear hPt HB1
  refine region_gen (M2 w4 n) (by kernel_rfl) (by kernel_rfl) (M2.start _ _) ?_
  repeat
    (refine step_gen (by decide) (by rfl) (fun K_ hK => ?_)
     go_simp
     first
       | (with_reducible apply H1.one
          · intro σ wv hk_ hd hv
            have Hv := Lib.hid hv
            clear hv
            go_simp
            (with_reducible refine ⟨rfl, ?_⟩; exact M2.pure Hv.out (by decide) (by decide))
          refine hK _ _ _ ?_
          clear hK K_)
       | (with_reducible refine H1.any (IsMk n) ⟨_, .mk 0⟩ ?_ ?_
          · intro σ wv hk_ hd hv
            have Hv := Lib.hid hv
            clear hv
            go_simp
            exact ⟨.mk _, M2.alloc Hv.out (by decide) hk_⟩
          intro v_ hv_
          obtain ⟨B_⟩ := hv_
          refine hK _ _ _ ?_
          clear hK K_))
  refine nil_gen ?_
  intro σ w5 hall ht hv
  have e3_ := ht _ (List.mem_cons_self ..)
  have e1_ := ht _ (List.mem_cons_of_mem _ (List.mem_cons_self ..))
  simp only at e1_ e3_
  obtain ⟨Ab, eA, hA1, hA2⟩ := hv.v 1 _ (.inl rfl) e1_
  obtain ⟨Nb, eN, hN1, hN2⟩ := hv.v 3 _ (.inr rfl) e3_
  simp only [Value.slice.injEq, Option.some.injEq, Addr.mk.injEq, and_true] at eA eN
  have eA' := eA.symm
  subst eA'
  have eN' := eN.symm
  subst eN'
  have hAN := hv.d Ab Nb e1_ e3_
  have HR1 := Lib.hid (HR0.out.below hv.b)
  have HB2 := Lib.hid (HB0.out.trans (hv.b.mono HB0.out.size))
  have hPA : Pt < w4.heap.size := HR0.out.lt
  have hW4 : w.heap.size ≤ w4.heap.size := HB0.out.size
  obtain ⟨U, hUe⟩ : ∃ U : Nat → Bool, U = fun j => decide (j < ul) && ub j := ⟨_, rfl⟩
  have hSU : SU w w5 n 0 0 0 0 Pt Ab Nb U (.slice none 0 0) (fun _ => ⟨0, 0, 0, .slice none 0 0⟩) := by
    have hft : ∀ c, c ∈ ft 0 Pt (.slice none 0 0) (fun _ => (⟨0, 0, 0, .slice none 0 0⟩ : NL)) → c = Pt := fun c hc => by
      rcases ft_mem.1 hc with h | h | ⟨k, hk, -⟩
      · exact h
      · rw [own_none] at h; cases h
      · omega
    refine ⟨⟨HR1.out, fun k hk => by omega, RowA.nil _, fun a b ha => by omega, fun k hk => by omega, by rw [own_none]; simp⟩, ⟨rfl, .inl ⟨rfl, rfl⟩⟩, fun c hc => (by rw [own_none] at hc; cases hc), ⟨_, hA2, made_bools n, fun j hj => by omega⟩, ⟨_, hN2, made_bools n, fun j hj => by omega⟩, fun hm => ?_, fun hm => ?_, hAN, by omega, by omega, HB2.out, fun c hc => (by have := hft c hc; subst this; exact HPt.out)⟩
    · have := hft _ hm; omega
    · have := hft _ hm; omega
  have HUE := Lib.hid hUe
  clear hv hall ht e1_ e3_ hA1 hA2 hN1 hN2 hAN HR0 HR1 HB0 HB2 hPA hW4 hmk hUe σ
  go_wp2
  go_loopw [10, 11] (fun vs vi wr => ∃ (k : Nat) (s : Bool), k ≤ n ∧ vi = .int .i64 k ∧ vs = .bool s ∧ (s = true ↔ ∃ j, j < k ∧ U j = true) ∧ ∃ bv N, SU w wr n k k k k Pt Ab Nb U bv N) (fun _ vi _ => n - (intOf vi).toNat)
  case atStart => exact ⟨0, false, Nat.zero_le _, rfl, rfl, ⟨fun h => (by cases h), fun ⟨j, hj, _⟩ => by omega⟩, _, _, hSU⟩
  case round =>
    obtain ⟨k, s, hk, rfl, rfl, hs, bv, N, hsu⟩ := hrel
    clear hSU
    by_cases hkn : k < n
    · as_aux_lemma =>
      have hknI : (k : Int) < (n : Int) := by omega
      have hnB : nodeB n k 2 2 = true := by simp [nodeB]; omega
      have HSU := Lib.hid hsu
      have HS := Lib.hid hs
      clear hsu hs
      go_upto_region 13 with (go_at_call 6; (with_reducible refine (born_yes n k 2 2 _ hnB).mono ?_); rintro e' w1 ⟨P, D, S, rfl, hp, hb, hf⟩)
      have HS1 := Lib.hid ((HSU.out.born (x := ⟨P, D, S, .slice none 0 0⟩) (Nat.le_refl _) hp hb hf).below (below_new w1 (.cells #[ptr P] 23)))
      have HC1 := Lib.hid (Row.new w1 #[ptr P] 23)
      have y0 : w1.cell? ⟨Pt, 0, none⟩ = some bv := (HSU.out.below hb).q.r.cell 0 _ rfl
      have HX := Lib.hid hb
      clear hp hb hf HSU
      obtain ⟨i23, hi, hz, hsz, hby⟩ := info_parts info23
      obtain ⟨v', w3, hrun, hown, hgr, hnew⟩ := run_append_new (P := Try.prog) (w1.alloc (.cells #[ptr P] 23)) 0 60 60 23 i23 (.pointer none) 1 8 Try.underlying60 hi hz hsz hby rfl (by decide) bv k _ HS1.out.o ⟨w1.heap.size, 0, none⟩ 1 1 [ptr P] rfl (fun j u hu => by
        rcases j with _ | j
        · cases hu; exact HC1.out.cell 0 _ rfl
        · cases hu) (fun u hu => by simp at hu; subst hu; rfl) (by unfold maxLen; omega) (by omega) (Nat.zero_le _)
      have HS2 := Lib.hid (HS1.out.app hgr (by rw [nnew_same]; exact hown) hnew)
      have hsl := own_slice hown
      have HRUN := Lib.hid hrun
      have hfz : ∀ i, w3.frozen? ⟨Pt, i, none⟩ = false := fun i => by
        have := (HS2.out.q.r.free i)
        simpa using this
      have y3 : w3.cell? ⟨Pt, 0, none⟩ = some bv := (HS1.out.q.r.grownV hgr (fun hm => (HS1.out.ob _ hm).1 (ft_mem.2 (.inl rfl)))).cell 0 _ rfl
      clear hrun hown hgr hnew HC1 hi hz hsz hby HS1
      obtain ⟨pv, nv, cv⟩ := hsl
      go_upto_region 14 with (first | (at_builtin; refine wpList_append_run rfl rfl rfl rfl HRUN.out ?_) | go_in)
      obtain ⟨cA, hA, hAs, -⟩ := HS2.out.a
      have hfa := hA.free
      obtain ⟨uA, hca⟩ : ∃ u, (w3.setCell ⟨Pt, 0, none⟩ (.slice pv nv cv)).cell? ⟨Ab, k, none⟩ = some u := ⟨_, hA.cell k _ (Array.getElem?_eq_getElem (show k < cA.size by rw [hAs]; exact hkn))⟩
      have HS3 := Lib.hid (HS2.out.setA hkn)
      clear hA hAs cA HRUN HS2 hfz y0 y3
      generalize w3.setCell ⟨Pt, 0, none⟩ (.slice pv nv cv) = w4 at HS3 hfa hca ⊢
      go_upto_region 15 with (fail)
      clear hfa hca uA
      generalize w4.setCell ⟨Ab, k, none⟩ (.bool true) = w5 at HS3 ⊢
      obtain ⟨cN, hN, hNs, -⟩ := HS3.out.u
      have hfn := hN.free
      obtain ⟨uN, hcn⟩ : ∃ u, w5.cell? ⟨Nb, k, none⟩ = some u := ⟨_, hN.cell k _ (Array.getElem?_eq_getElem (show k < cN.size by rw [hNs]; exact hkn))⟩
      clear hN hNs cN
      by_cases hkl : k < ul
      · have hklI : (k : Int) < (ul : Int) := by omega
        obtain ⟨b0, o0, rfl, hbl, hz⟩ := HU.out.at hkl
        have hub := hz _ HS3.out.b
        have hUk : U k = ub k := by rw [HUE.out]; simp [hkl]
        rw [← hUk] at hub
        clear hz hbl
        obtain ⟨bU, hbU⟩ : ∃ b, U k = b := ⟨_, rfl⟩
        rw [hbU] at hub
        have HS4 := Lib.hid (HS3.out.setU hkn hbU)
        have HBU := Lib.hid hbU
        clear hbU hUk HS3
        go_upto_region 16 with (fail)
        generalize w5.setCell ⟨Nb, k, none⟩ (.bool bU) = w6 at HS4 ⊢
        clear hub hfn hcn uN
        obtain ⟨cN, hN, -, hNc⟩ := HS4.out.u
        have hnk : w6.cell? ⟨Nb, k, none⟩ = some (.bool bU) := by rw [← HBU.out]; exact hN.cell k _ (hNc k (by omega))
        clear hN hNc cN
        cases s
        · go_wp2
          go_roundw
          case rel =>
            refine ⟨k + 1, bU, by omega, by go_num, rfl, ?_, _, _, HS4.out⟩
            constructor
            · intro h; exact ⟨k, by omega, by rw [HBU.out]; exact h⟩
            · rintro ⟨j, hj, hu⟩
              by_cases e : j = k
              · subst e; rw [HBU.out] at hu; exact hu
              · have := HS.out.2 ⟨j, by omega, hu⟩; cases this
          case measure => simp [intOf]; omega
        · go_wp2
          go_roundw
          case rel =>
            refine ⟨k + 1, true, by omega, by go_num, rfl, ⟨fun _ => ?_, fun _ => rfl⟩, _, _, HS4.out⟩
            obtain ⟨j, hj, hu⟩ := HS.out.1 rfl
            exact ⟨j, by omega, hu⟩
          case measure => simp [intOf]; omega
      · have hklI : ¬ (k : Int) < (ul : Int) := by omega
        have hbU : U k = false := by rw [HUE.out]; simp [hkl]
        have HS4 := Lib.hid (HS3.out.setU hkn hbU)
        obtain ⟨bU, hb2⟩ : ∃ b, U k = b := ⟨_, rfl⟩
        have HBU := Lib.hid hb2
        rw [hb2] at hbU
        subst hbU
        clear HS3 hb2
        go_upto_region 16 with (fail)
        generalize w5.setCell ⟨Nb, k, none⟩ (.bool false) = w6 at HS4 ⊢
        clear hfn hcn uN
        obtain ⟨cN, hN, -, hNc⟩ := HS4.out.u
        have hnk : w6.cell? ⟨Nb, k, none⟩ = some (.bool false) := by rw [← HBU.out]; exact hN.cell k _ (hNc k (by omega))
        clear hN hNc cN
        cases s
        · go_wp2
          go_roundw
          case rel =>
            refine ⟨k + 1, false, by omega, by go_num, rfl, ?_, _, _, HS4.out⟩
            constructor
            · intro h; exact ⟨k, by omega, by rw [HBU.out]; exact h⟩
            · rintro ⟨j, hj, hu⟩
              by_cases e : j = k
              · subst e; rw [HBU.out] at hu; exact hu
              · have := HS.out.2 ⟨j, by omega, hu⟩; cases this
          case measure => simp [intOf]; omega
        · go_wp2
          go_roundw
          case rel =>
            refine ⟨k + 1, true, by omega, by go_num, rfl, ⟨fun _ => ?_, fun _ => rfl⟩, _, _, HS4.out⟩
            obtain ⟨j, hj, hu⟩ := HS.out.1 rfl
            exact ⟨j, by omega, hu⟩
          case measure => simp [intOf]; omega
    · obtain rfl : n = k := by omega
      as_aux_lemma =>
      go_upto_if 92 with (fail)
      go_cut [] from 90 to 94 (fun wc => ∃ V Bb cb N, (∃ k, k < n ∧ V k = true) ∧ TB w wc n Pt Bb cb Ab Nb V (.slice none 0 0) N (tw0 n))
      case first =>
        cases s
        · obtain ⟨cN, hN, hNs, -⟩ := hsu.u
          have hfn := hN.free
          obtain ⟨uN, hcn⟩ : ∃ u, wr.cell? ⟨Nb, 0, none⟩ = some u := ⟨_, hN.cell 0 _ (Array.getElem?_eq_getElem (show 0 < cN.size by omega))⟩
          have HS1 := Lib.hid (hsu.first (by omega))
          have hc1 : decide ((0 : Int) < (n : Int)) = true := by simp; omega
          clear hN hNs cN hsu hs
          go_wp2
          go_meet
          case rel =>
            obtain ⟨Bb, cb, -, hq⟩ := HS1.out.done (by omega)
            exact ⟨_, Bb, cb, _, ⟨0, by omega, by simp⟩, hq⟩
        · have HS1 := Lib.hid hsu
          have HSS := Lib.hid (hs.1 rfl)
          clear hsu hs
          go_wp2
          go_meet
          case rel =>
            obtain ⟨Bb, cb, -, hq⟩ := HS1.out.done (by omega)
            exact ⟨_, Bb, cb, _, HSS.out, hq⟩
      case rest =>
      clear hsu hs
      obtain ⟨V, Bb, cb, N0, hVex, htb⟩ := hcut
      have HV := Lib.hid hVex
      have HPH0 := Lib.hid (show Ph1 n 0 (tw0 n) from by
        obtain ⟨a, b, c⟩ := tw0_g n5 (fun _ => true)
        exact ⟨a, b, c, Int.le_refl _, Nat.le_refl _⟩)
      have nn0 : ¬ (n : Int) = 0 := by omega
      have nn1 : ¬ n = 0 := by omega
      have HTB := Lib.hid htb
      clear htb hVex
      go_upto_block 2 with (fail)
      go_cut [] from 95 to 199 (fun wc => ∃ lv N t, TB w wc n Pt Bb cb Ab Nb V lv N t ∧ Ph1 n 100 t)
      case first =>
       as_aux_lemma =>
        go_wp2
        go_loopw [14] (fun vi wr => ∃ k : Nat, k ≤ al ∧ k ≤ 100 ∧ vi = .int .i64 k ∧ ∃ lv N t, TB w wr n Pt Bb cb Ab Nb V lv N t ∧ Ph1 n k t) (fun vi _ => 100 - (intOf vi).toNat)
        case atStart => exact ⟨0, Nat.zero_le _, Nat.zero_le _, rfl, _, _, _, HTB.out, HPH0.out⟩
        case round =>
          obtain ⟨k, hk, hk2, rfl, lv, N, t, htb, hph⟩ := hrel
          clear HTB HPH0
          by_cases hin : k < al ∧ k < 100
          · as_aux_lemma =>
            obtain ⟨hlt, h100⟩ := hin
            have hl1 : (k : Int) < (al : Int) := by omega
            have hd100 : decide ((k : Int) < 100) = true := by simp; omega
            obtain ⟨b0, o0, rfl, hbl, hz⟩ := HA.out.at hlt
            have HZ := Lib.hid hz
            have hzc := hz _ htb.b
            clear hz
            obtain ⟨ai, hai⟩ : ∃ z, acts k = z := ⟨_, rfl⟩
            rw [hai] at hzc
            have HAI := Lib.hid hai
            obtain ⟨r, er, hr⟩ : ∃ r : Nat, wrap64 ((IntKind.u64.wrap ai).tmod (4 * (n : Int))) = (r : Int) ∧ r < 4 * n := rem4 ai n (by omega) n5
            have HB := Lib.hid htb
            have HPH := Lib.hid hph
            clear htb hph hai
            by_cases c2 : r < 2 * n
            · as_aux_lemma =>
              have c2i : (r : Int) < 2 * (n : Int) := by omega
              clear c2
              go_upto_region 24 with (fail)
              obtain ⟨kk, hkk, hkr⟩ : ∃ kk : Nat, kk < n ∧ (r : Int).tmod (n : Int) = (kk : Int) := tmod_nat r n (by omega)
              have hwk : wrap64 (kk : Int) = (kk : Int) := wrap64_mid (by omega) (by omega)
              have hkn : (kk : Int) < (n : Int) := Int.ofNat_lt.2 hkk
              have HB4 := HB
              have y0 := HB.out.q.r.cell 0 _ rfl
              have yp := HB.out.p.c kk hkk
              refine region_gen (Cl 9 wr (fun wv => wv.cell? ⟨Pt, 0, none⟩ = some (.slice (some ⟨Bb, 0, none⟩) n cb) ∧ wv.cell? ⟨Bb, kk, none⟩ = some (ptr (N kk).P)) (fun _ wv => ∃ u, TB w wv n Pt Bb cb Ab Nb V lv (nset N kk u) (t.set kk ((t.b kk).tick n)))) (by kernel_rfl) (by kernel_rfl) (Cl.start ⟨y0, yp⟩) ?_
              refine step_gen (by decide) (by rfl) (fun K_ hK => ?_)
              go_simp
              with_reducible apply H1.one
              · intro σ wv hk_ hd hv
                obtain ⟨r0, r1⟩ := hv.i
                have Hv := Lib.hid hv
                clear hv
                go_simp
                (with_reducible refine ⟨rfl, ?_⟩; exact Cl.pure Hv.out (by decide))
              refine hK _ _ _ ?_
              clear hK K_
              refine step_gen (by decide) (by rfl) (fun K_ hK => ?_)
              go_simp
              with_reducible apply H1.one
              · intro σ wv hk_ hd hv
                obtain ⟨r0, r1⟩ := hv.i
                have Hv := Lib.hid hv
                clear hv
                go_simp
                (with_reducible refine ⟨rfl, ?_⟩; exact Cl.pure Hv.out (by decide))
              refine hK _ _ _ ?_
              clear hK K_
              refine step_gen (by decide) (by rfl) (fun K_ hK => ?_)
              go_simp
              with_reducible apply H1.one
              · intro σ wv hk_ hd hv
                obtain ⟨r0, r1⟩ := hv.i
                have Hv := Lib.hid hv
                clear hv
                go_simp
                (with_reducible refine ⟨rfl, ?_⟩; exact Cl.pure Hv.out (by decide))
              refine hK _ _ _ ?_
              clear hK K_
              refine step_gen (by decide) (by rfl) (fun K_ hK => ?_)
              go_simp
              with_reducible apply H1.one
              · intro σ wv hk_ hd hv
                obtain ⟨r0, r1⟩ := hv.i
                have Hv := Lib.hid hv
                clear hv
                go_simp
                (with_reducible refine ⟨rfl, ?_⟩; exact Cl.pure Hv.out (by decide))
              refine hK _ _ _ ?_
              clear hK K_
              refine step_gen (by decide) (by rfl) (fun K_ hK => ?_)
              go_simp
              with_reducible apply H1.one
              · intro σ wv hk_ hd hv
                obtain ⟨r0, r1⟩ := hv.i
                have Hv := Lib.hid hv
                clear hv
                go_simp
                (with_reducible refine ⟨rfl, ?_⟩; exact Cl.pure Hv.out (by decide))
              refine hK _ _ _ ?_
              clear hK K_
              refine step_gen (by decide) (by rfl) (fun K_ hK => ?_)
              go_simp
              with_reducible apply H1.one
              · intro σ wv hk_ hd hv
                obtain ⟨r0, r1⟩ := hv.i
                have Hv := Lib.hid hv
                clear hv
                go_simp
                (with_reducible refine ⟨rfl, ?_⟩; exact Cl.pure Hv.out (by decide))
              refine hK _ _ _ ?_
              clear hK K_
              refine step_gen (by decide) (by rfl) (fun K_ hK => ?_)
              go_simp
              with_reducible apply H1.one
              · intro σ wv hk_ hd hv
                obtain ⟨r0, r1⟩ := hv.i
                have Hv := Lib.hid hv
                clear hv
                go_simp
                (with_reducible refine ⟨rfl, ?_⟩; exact Cl.pure Hv.out (by decide))
              refine hK _ _ _ ?_
              clear hK K_
              refine step_gen (by decide) (by rfl) (fun K_ hK => ?_)
              go_simp
              with_reducible apply H1.one
              · intro σ wv hk_ hd hv
                obtain ⟨r0, r1⟩ := hv.i
                have Hv := Lib.hid hv
                clear hv
                go_simp
                (with_reducible refine ⟨rfl, ?_⟩; exact Cl.pure Hv.out (by decide))
              refine hK _ _ _ ?_
              clear hK K_
              refine step_gen (by decide) (by rfl) (fun K_ hK => ?_)
              go_simp
              with_reducible apply H1.one
              · intro σ wv hk_ hd hv
                obtain ⟨r0, r1⟩ := hv.i
                have Hv := Lib.hid hv
                clear hv
                go_simp
                (with_reducible refine ⟨rfl, ?_⟩; exact Cl.pure Hv.out (by decide))
              refine hK _ _ _ ?_
              clear hK K_
              refine step_gen (by decide) (by rfl) (fun K_ hK => ?_)
              go_simp
              with_reducible apply H1.one
              · intro σ wv hk_ hd hv
                have Hv := Lib.hid hv
                clear hv
                go_simp
                (obtain ⟨m_, rfl⟩ := Hv.out.a hk_
                 refine ((HB4.out.drewN m_).tick hkk (i := k) (m := 0) (HPH.out.p kk hkk) (by omega) (by omega)).mono ?_
                 rintro e2 w3_ ⟨rfl, u3_, q3_⟩
                 have s0 := q3_.q.r.cell 0 _ rfl
                 have s1 := q3_.p.c kk hkk
                 simp only [nset_P] at s1
                 exact ⟨_, rfl, rfl, Cl.call ⟨s0, s1⟩ ⟨u3_, q3_⟩⟩)
              refine hK _ _ _ ?_
              clear hK K_
              refine nil_gen ?_
              intro σ w5 hall ht hv
              obtain ⟨zz, hzz⟩ := Option.isSome_iff_exists.1 (hall 9 (by decide))
              obtain ⟨u5, q5⟩ := hv.b zz hzz
              have HB5 := Lib.hid q5
              clear hv hall ht hzz zz σ q5
              have HG1 := Lib.hid (show (G n (fun _ => true) (t.set kk ((t.b kk).tick n)) [] ∧ (t.set kk ((t.b kk).tick n)).T + n ≤ 1000000 ∧ PA (k + 1) 16 n (t.set kk ((t.b kk).tick n)) ∧ (t.set kk ((t.b kk).tick n)).l.length + wsum (t.set kk ((t.b kk).tick n)) n ≤ 90000000) ∧ Ph1 n (k + 1) (gath n (fun _ => true) (t.set kk ((t.b kk).tick n))) from by
                have hp := HPH.out
                have hT := hp.T
                have hl := hp.l
                have hpa : PA (k + 1) 16 n (t.set kk ((t.b kk).tick n)) := (hp.p.more (by omega) (by omega)).set ((hp.p kk hkk).tick)
                have hws := wsum_le (n := n) (m := 16) (fun j hj => (hpa j hj).bd.wl) n (Nat.le_refl _)
                exact ⟨⟨hp.g.tick1 hkk rfl (by omega) hp.r, by show t.T + n ≤ _; omega, hpa, by show t.l.length + _ ≤ _; omega⟩, hp.tick n5 (by omega) hkk⟩)
              have hG := HG1.out.1
              have HGA := Lib.hid (HB5.out.gatherA (cu := n) hG.1 hG.2.1 hG.2.2.1 (by omega) hG.2.2.2 n5)
              clear hG
              go_wp2_with (go_at_call 25; (with_reducible refine HGA.out.mono ?_); rintro e' w6 ⟨rfl, lv6, N6, hq6, -⟩; have HB6 := Lib.hid hq6; clear hq6)
              go_roundw
              case rel => exact ⟨k + 1, by omega, by omega, by go_num, lv6, N6, _, HB6.out, HG1.out.2⟩
              case measure => simp [intOf]; omega
            · have c2i : ¬ (r : Int) < 2 * (n : Int) := by omega
              obtain ⟨pl, cl, hlv⟩ := HB.out.q.l.len
              have x1 := HB.out.q.r.cell 1 _ rfl
              rw [hlv] at x1
              by_cases hl0 : t.l = []
              · as_aux_lemma =>
                have hln : t.l.length = 0 := by rw [hl0]; rfl
                rw [hln] at x1
                clear hlv c2
                go_wp2
                go_roundw
                case rel => exact ⟨k + 1, by omega, by omega, by go_num, lv, N, t, HB.out, HPH.out.same⟩
                case measure => simp [intOf]; omega
              · have hlp : 0 < t.l.length := List.length_pos_iff.2 hl0
                have hlp2 : (0 : Int) < (t.l.length : Int) := by omega
                have hlen := HPH.out.l
                rcases HB.out.q.l.form with ⟨-, hnil⟩ | ⟨g, off, cap, hlv2⟩
                · exact absurd hnil hl0
                rw [hlv] at hlv2
                injection hlv2 with e1 e2 e3
                subst e1 e3
                clear e2
                clear hl0 c2
                by_cases c3 : r < 3 * n
                · as_aux_lemma =>
                  have c3i : (r : Int) < 3 * (n : Int) := by omega
                  clear c3
                  have nl0 : ¬ (t.l.length : Int) = 0 := by omega
                  have nl1 : ¬ t.l.length = 0 := by omega
                  have nl2 : ¬ t.l = [] := fun e => by rw [e] at hlp; simp at hlp
                  have ul0 : IntKind.u64.wrap (t.l.length : Int) = (t.l.length : Int) := by rw [IntKind.wrap_u64]; omega
                  obtain ⟨r2, er2, hr2⟩ := remI (IntKind.i64.wrap (ai.tdiv 7)) t.l.length hlp (by omega)
                  have hr2i : (r2 : Int) < (t.l.length : Int) := Int.ofNat_lt.2 hr2
                  go_upto_region 27 with (fail)
                  refine region_gen (Rd wr) (by kernel_rfl) (by kernel_rfl) (Rd.start _) ?_
                  repeat
                    (refine step_gen (by decide) (by rfl) (fun K_ hK => ?_)
                     go_simp
                     first
                       | (with_reducible refine Sk.of Rd.skips ?_
                          refine hK _ _ _ ?_
                          clear hK K_)
                       | (with_reducible apply H1.one
                          · intro σ wv hk_ hd hv
                            obtain ⟨⟨m_, rfl⟩⟩ := hv
                            go_simp
                            (with_reducible refine ⟨rfl, ?_⟩; exact ⟨m_, rfl⟩)
                          refine hK _ _ _ ?_
                          clear hK K_))
                  refine nil_gen ?_
                  rintro σ wv - - ⟨⟨nq, rfl⟩⟩
                  clear σ
                  go_upto_region 28 with (fail)
                  subst hlv
                  have HB4 := Lib.hid (HB.out.drewN nq)
                  clear HB x1 hzc er2 nl0 nl1 nl2 ul0
                  generalize wr.drewN nq = w4 at HB4 ⊢
                  have hy := List.getElem?_eq_getElem hr2
                  have hym := List.getElem_mem hr2
                  generalize t.l[r2] = y at hy hym
                  obtain ⟨f, kk, hf, hkt, hf5, hkk, -⟩ := HPH.out.g.w y (.inr (.inl hym))
                  obtain ⟨yk, yf, yt, ym⟩ := y
                  simp only at hkt hf
                  subst hkt
                  have HY := Lib.hid hy
                  have HYM := Lib.hid hym
                  have hkn : (kk : Int) < (n : Int) := Int.ofNat_lt.2 hkk
                  obtain ⟨cE, hcE⟩ : ∃ z, checkE (t.b kk).x.n (t.b kk).x.self ⟨yk, yf, kk, ym⟩ = z := ⟨_, rfl⟩
                  have HCE := Lib.hid hcE
                  have y0 := HB4.out.q.r.cell 0 _ rfl
                  have y1 := HB4.out.q.r.cell 1 _ rfl
                  have yp := HB4.out.p.c kk hkk
                  obtain ⟨c0, c1, c2, c3⟩ := HB4.out.q.l.read hy
                  simp only at c0 c1 c2 c3
                  clear hcE hy hym hf hf5
                  refine region_gen (Cl 21 w4 (fun wv => wv.cell? ⟨Pt, 0, none⟩ = some (.slice (some ⟨Bb, 0, none⟩) n cb) ∧ wv.cell? ⟨Pt, 1, none⟩ = some (.slice (some ⟨g, off, none⟩) t.l.length cl) ∧ wv.cell? ⟨Bb, kk, none⟩ = some (ptr (N kk).P) ∧ wv.cell? ⟨g, off + r2 * 4, none⟩ = some (.int .i64 yk) ∧ wv.cell? ⟨g, off + r2 * 4 + 1, none⟩ = some (.int .i64 yf) ∧ wv.cell? ⟨g, off + r2 * 4 + 2, none⟩ = some (.int .i64 kk) ∧ wv.cell? ⟨g, off + r2 * 4 + 3, none⟩ = some (.int .i64 ym)) (fun _ wv => ∃ u, TB w wv n Pt Bb cb Ab Nb V (.slice (some ⟨g, off, none⟩) t.l.length cl) (nset N kk u) (t.set kk ((t.b kk).take ⟨yk, yf, kk, ym⟩)))) (by kernel_rfl) (by kernel_rfl) (Cl.start ⟨y0, y1, yp, c0, c1, c2, c3⟩) ?_
                  refine step_gen (by decide) (by rfl) (fun K_ hK => ?_)
                  go_simp
                  with_reducible apply H1.one
                  · intro σ wv hk_ hd hv
                    obtain ⟨r0, r1, r2, r3, r4, r5, r6⟩ := hv.i
                    have Hv := Lib.hid hv
                    clear hv
                    go_simp
                    (with_reducible refine ⟨rfl, ?_⟩; exact Cl.pure Hv.out (by decide))
                  refine hK _ _ _ ?_
                  clear hK K_
                  refine step_gen (by decide) (by rfl) (fun K_ hK => ?_)
                  go_simp
                  with_reducible apply H1.one
                  · intro σ wv hk_ hd hv
                    obtain ⟨r0, r1, r2, r3, r4, r5, r6⟩ := hv.i
                    have Hv := Lib.hid hv
                    clear hv
                    go_simp
                    (with_reducible refine ⟨rfl, ?_⟩; exact Cl.pure Hv.out (by decide))
                  refine hK _ _ _ ?_
                  clear hK K_
                  refine step_gen (by decide) (by rfl) (fun K_ hK => ?_)
                  go_simp
                  with_reducible apply H1.one
                  · intro σ wv hk_ hd hv
                    obtain ⟨r0, r1, r2, r3, r4, r5, r6⟩ := hv.i
                    have Hv := Lib.hid hv
                    clear hv
                    go_simp
                    (with_reducible refine ⟨rfl, ?_⟩; exact Cl.pure Hv.out (by decide))
                  refine hK _ _ _ ?_
                  clear hK K_
                  refine step_gen (by decide) (by rfl) (fun K_ hK => ?_)
                  go_simp
                  with_reducible apply H1.one
                  · intro σ wv hk_ hd hv
                    obtain ⟨r0, r1, r2, r3, r4, r5, r6⟩ := hv.i
                    have Hv := Lib.hid hv
                    clear hv
                    go_simp
                    (with_reducible refine ⟨rfl, ?_⟩; exact Cl.pure Hv.out (by decide))
                  refine hK _ _ _ ?_
                  clear hK K_
                  refine step_gen (by decide) (by rfl) (fun K_ hK => ?_)
                  go_simp
                  with_reducible apply H1.one
                  · intro σ wv hk_ hd hv
                    obtain ⟨r0, r1, r2, r3, r4, r5, r6⟩ := hv.i
                    have Hv := Lib.hid hv
                    clear hv
                    go_simp
                    (with_reducible refine ⟨rfl, ?_⟩; exact Cl.pure Hv.out (by decide))
                  refine hK _ _ _ ?_
                  clear hK K_
                  refine step_gen (by decide) (by rfl) (fun K_ hK => ?_)
                  go_simp
                  with_reducible apply H1.one
                  · intro σ wv hk_ hd hv
                    obtain ⟨r0, r1, r2, r3, r4, r5, r6⟩ := hv.i
                    have Hv := Lib.hid hv
                    clear hv
                    go_simp
                    (with_reducible refine ⟨rfl, ?_⟩; exact Cl.pure Hv.out (by decide))
                  refine hK _ _ _ ?_
                  clear hK K_
                  refine step_gen (by decide) (by rfl) (fun K_ hK => ?_)
                  go_simp
                  with_reducible apply H1.one
                  · intro σ wv hk_ hd hv
                    obtain ⟨r0, r1, r2, r3, r4, r5, r6⟩ := hv.i
                    have Hv := Lib.hid hv
                    clear hv
                    go_simp
                    (with_reducible refine ⟨rfl, ?_⟩; exact Cl.pure Hv.out (by decide))
                  refine hK _ _ _ ?_
                  clear hK K_
                  refine step_gen (by decide) (by rfl) (fun K_ hK => ?_)
                  go_simp
                  with_reducible apply H1.one
                  · intro σ wv hk_ hd hv
                    obtain ⟨r0, r1, r2, r3, r4, r5, r6⟩ := hv.i
                    have Hv := Lib.hid hv
                    clear hv
                    go_simp
                    (with_reducible refine ⟨rfl, ?_⟩; exact Cl.pure Hv.out (by decide))
                  refine hK _ _ _ ?_
                  clear hK K_
                  refine step_gen (by decide) (by rfl) (fun K_ hK => ?_)
                  go_simp
                  with_reducible apply H1.one
                  · intro σ wv hk_ hd hv
                    obtain ⟨r0, r1, r2, r3, r4, r5, r6⟩ := hv.i
                    have Hv := Lib.hid hv
                    clear hv
                    go_simp
                    (with_reducible refine ⟨rfl, ?_⟩; exact Cl.pure Hv.out (by decide))
                  refine hK _ _ _ ?_
                  clear hK K_
                  refine step_gen (by decide) (by rfl) (fun K_ hK => ?_)
                  go_simp
                  with_reducible apply H1.one
                  · intro σ wv hk_ hd hv
                    obtain ⟨r0, r1, r2, r3, r4, r5, r6⟩ := hv.i
                    have Hv := Lib.hid hv
                    clear hv
                    go_simp
                    (with_reducible refine ⟨rfl, ?_⟩; exact Cl.pure Hv.out (by decide))
                  refine hK _ _ _ ?_
                  clear hK K_
                  refine step_gen (by decide) (by rfl) (fun K_ hK => ?_)
                  go_simp
                  with_reducible apply H1.one
                  · intro σ wv hk_ hd hv
                    obtain ⟨r0, r1, r2, r3, r4, r5, r6⟩ := hv.i
                    have Hv := Lib.hid hv
                    clear hv
                    go_simp
                    (with_reducible refine ⟨rfl, ?_⟩; exact Cl.pure Hv.out (by decide))
                  refine hK _ _ _ ?_
                  clear hK K_
                  refine step_gen (by decide) (by rfl) (fun K_ hK => ?_)
                  go_simp
                  with_reducible apply H1.one
                  · intro σ wv hk_ hd hv
                    obtain ⟨r0, r1, r2, r3, r4, r5, r6⟩ := hv.i
                    have Hv := Lib.hid hv
                    clear hv
                    go_simp
                    (with_reducible refine ⟨rfl, ?_⟩; exact Cl.pure Hv.out (by decide))
                  refine hK _ _ _ ?_
                  clear hK K_
                  refine step_gen (by decide) (by rfl) (fun K_ hK => ?_)
                  go_simp
                  with_reducible apply H1.one
                  · intro σ wv hk_ hd hv
                    obtain ⟨r0, r1, r2, r3, r4, r5, r6⟩ := hv.i
                    have Hv := Lib.hid hv
                    clear hv
                    go_simp
                    (with_reducible refine ⟨rfl, ?_⟩; exact Cl.pure Hv.out (by decide))
                  refine hK _ _ _ ?_
                  clear hK K_
                  refine step_gen (by decide) (by rfl) (fun K_ hK => ?_)
                  go_simp
                  with_reducible apply H1.one
                  · intro σ wv hk_ hd hv
                    obtain ⟨r0, r1, r2, r3, r4, r5, r6⟩ := hv.i
                    have Hv := Lib.hid hv
                    clear hv
                    go_simp
                    (with_reducible refine ⟨rfl, ?_⟩; exact Cl.pure Hv.out (by decide))
                  refine hK _ _ _ ?_
                  clear hK K_
                  refine step_gen (by decide) (by rfl) (fun K_ hK => ?_)
                  go_simp
                  with_reducible apply H1.one
                  · intro σ wv hk_ hd hv
                    obtain ⟨r0, r1, r2, r3, r4, r5, r6⟩ := hv.i
                    have Hv := Lib.hid hv
                    clear hv
                    go_simp
                    (with_reducible refine ⟨rfl, ?_⟩; exact Cl.pure Hv.out (by decide))
                  refine hK _ _ _ ?_
                  clear hK K_
                  refine step_gen (by decide) (by rfl) (fun K_ hK => ?_)
                  go_simp
                  with_reducible apply H1.one
                  · intro σ wv hk_ hd hv
                    obtain ⟨r0, r1, r2, r3, r4, r5, r6⟩ := hv.i
                    have Hv := Lib.hid hv
                    clear hv
                    go_simp
                    (with_reducible refine ⟨rfl, ?_⟩; exact Cl.pure Hv.out (by decide))
                  refine hK _ _ _ ?_
                  clear hK K_
                  refine step_gen (by decide) (by rfl) (fun K_ hK => ?_)
                  go_simp
                  with_reducible apply H1.one
                  · intro σ wv hk_ hd hv
                    obtain ⟨r0, r1, r2, r3, r4, r5, r6⟩ := hv.i
                    have Hv := Lib.hid hv
                    clear hv
                    go_simp
                    (with_reducible refine ⟨rfl, ?_⟩; exact Cl.pure Hv.out (by decide))
                  refine hK _ _ _ ?_
                  clear hK K_
                  refine step_gen (by decide) (by rfl) (fun K_ hK => ?_)
                  go_simp
                  with_reducible apply H1.one
                  · intro σ wv hk_ hd hv
                    obtain ⟨r0, r1, r2, r3, r4, r5, r6⟩ := hv.i
                    have Hv := Lib.hid hv
                    clear hv
                    go_simp
                    (with_reducible refine ⟨rfl, ?_⟩; exact Cl.pure Hv.out (by decide))
                  refine hK _ _ _ ?_
                  clear hK K_
                  refine step_gen (by decide) (by rfl) (fun K_ hK => ?_)
                  go_simp
                  with_reducible apply H1.one
                  · intro σ wv hk_ hd hv
                    obtain ⟨r0, r1, r2, r3, r4, r5, r6⟩ := hv.i
                    have Hv := Lib.hid hv
                    clear hv
                    go_simp
                    (with_reducible refine ⟨rfl, ?_⟩; exact Cl.pure Hv.out (by decide))
                  refine hK _ _ _ ?_
                  clear hK K_
                  refine step_gen (by decide) (by rfl) (fun K_ hK => ?_)
                  go_simp
                  with_reducible apply H1.one
                  · intro σ wv hk_ hd hv
                    obtain ⟨r0, r1, r2, r3, r4, r5, r6⟩ := hv.i
                    have Hv := Lib.hid hv
                    clear hv
                    go_simp
                    (with_reducible refine ⟨rfl, ?_⟩; exact Cl.pure Hv.out (by decide))
                  refine hK _ _ _ ?_
                  clear hK K_
                  refine step_gen (by decide) (by rfl) (fun K_ hK => ?_)
                  go_simp
                  with_reducible apply H1.one
                  · intro σ wv hk_ hd hv
                    obtain ⟨r0, r1, r2, r3, r4, r5, r6⟩ := hv.i
                    have Hv := Lib.hid hv
                    clear hv
                    go_simp
                    (with_reducible refine ⟨rfl, ?_⟩; exact Cl.pure Hv.out (by decide))
                  refine hK _ _ _ ?_
                  clear hK K_
                  refine step_gen (by decide) (by rfl) (fun K_ hK => ?_)
                  go_simp
                  with_reducible apply H1.one
                  · intro σ wv hk_ hd hv
                    have Hv := Lib.hid hv
                    clear hv
                    go_simp
                    (obtain ⟨m_, rfl⟩ := Hv.out.a hk_
                     refine ((HB4.out.drewN m_).take hkk (i := k) (m := 0) (HPH.out.p kk hkk) (by omega) yk yf kk ym cE HCE.out).mono ?_
                     rintro e2 w3_ ⟨rfl, u3_, q3_⟩
                     have s0 := q3_.q.r.cell 0 _ rfl
                     have s1 := q3_.q.r.cell 1 _ rfl
                     have s2 := q3_.p.c kk hkk
                     simp only [nset_P] at s2
                     obtain ⟨s3, s4, s5, s6⟩ := q3_.q.l.read HY.out
                     simp only at s3 s4 s5 s6
                     exact ⟨_, rfl, rfl, Cl.call ⟨s0, s1, s2, s3, s4, s5, s6⟩ ⟨u3_, q3_⟩⟩)
                  refine hK _ _ _ ?_
                  clear hK K_
                  refine nil_gen ?_
                  intro σ w5 hall ht hv
                  obtain ⟨zz, hzz⟩ := Option.isSome_iff_exists.1 (hall 21 (by decide))
                  obtain ⟨u5, q5⟩ := hv.b zz hzz
                  have HB5 := Lib.hid q5
                  clear hv hall ht hzz zz σ q5
                  have HG1 := Lib.hid (show (G n (fun _ => true) (t.set kk ((t.b kk).take ⟨yk, yf, kk, ym⟩)) [] ∧ (t.set kk ((t.b kk).take ⟨yk, yf, kk, ym⟩)).T + n ≤ 1000000 ∧ PA (k + 1) 16 n (t.set kk ((t.b kk).take ⟨yk, yf, kk, ym⟩)) ∧ (t.set kk ((t.b kk).take ⟨yk, yf, kk, ym⟩)).l.length + wsum (t.set kk ((t.b kk).take ⟨yk, yf, kk, ym⟩)) n ≤ 90000000) ∧ Ph1 n (k + 1) (gath n (fun _ => true) (t.set kk ((t.b kk).take ⟨yk, yf, kk, ym⟩))) from by
                    have hp := HPH.out
                    have hT := hp.T
                    have hl := hp.l
                    have hpa : PA (k + 1) 16 n (t.set kk ((t.b kk).take ⟨yk, yf, kk, ym⟩)) := (hp.p.more (by omega) (by omega)).set (((hp.p kk hkk).take ⟨yk, yf, kk, ym⟩).more (by omega) (by omega))
                    have hws := wsum_le (n := n) (m := 16) (fun j hj => (hpa j hj).bd.wl) n (Nat.le_refl _)
                    refine ⟨⟨?_, by show t.T + n ≤ _; omega, hpa, by show t.l.length + _ ≤ _; omega⟩, hp.take n5 (by omega) HYM.out hkk rfl⟩
                    have hg := (hp.g.word HYM.out).put (by omega)
                    have e : put1 n (fun _ => true) t ⟨yk, yf, kk, ym⟩ = t.set kk ((t.b kk).take ⟨yk, yf, kk, ym⟩) := by
                      unfold put1
                      rw [if_pos ⟨by simp only; omega, by simp only; omega, rfl⟩]
                      rfl
                    rw [e] at hg
                    exact hg)
                  have hG := HG1.out.1
                  have HGA := Lib.hid (HB5.out.gatherA (cu := n) hG.1 hG.2.1 hG.2.2.1 (by omega) hG.2.2.2 n5)
                  clear hG
                  go_wp2_with (go_at_call 25; (with_reducible refine HGA.out.mono ?_); rintro e' w6 ⟨rfl, lv6, N6, hq6, -⟩; have HB6 := Lib.hid hq6; clear hq6)
                  go_roundw
                  case rel => exact ⟨k + 1, by omega, by omega, by go_num, lv6, N6, _, HB6.out, HG1.out.2⟩
                  case measure => simp [intOf]; omega
                · as_aux_lemma =>
                  have c3i : ¬ (r : Int) < 3 * (n : Int) := by omega
                  clear c3
                  skip
                  have xf := HB.out.q.r.free
                  have hsl : (1 : Int) ≤ (t.l.length : Int) := by omega
                  subst hlv
                  go_upto_region 21 with (fail)
                  obtain ⟨lv', hlv', htb'⟩ := HB.out.first2 hlp
                  rw [hlv']
                  have HB5 := Lib.hid htb'
                  clear htb' hlv' HB x1 xf
                  go_wp2
                  go_roundw
                  case rel => exact ⟨k + 1, by omega, by omega, by go_num, lv', N, _, HB5.out, HPH.out.less (fun y hy => List.mem_of_mem_tail hy) (by simp)⟩
                  case measure => simp [intOf]; omega
          · as_aux_lemma =>
            have HPX := Lib.hid (hph.upto hk2)
            have HB := Lib.hid htb
            clear hph htb
            by_cases hlt : k < al
            · have hl1 : (k : Int) < (al : Int) := by omega
              have hd100 : decide ((k : Int) < 100) = false := by simp; omega
              clear hin
              go_wp2
              go_meet
              case rel => exact ⟨lv, N, t, HB.out, HPX.out⟩
            · have hl1 : ¬ (k : Int) < (al : Int) := by omega
              clear hin
              go_wp2
              go_meet
              case rel => exact ⟨lv, N, t, HB.out, HPX.out⟩
      case rest =>
      clear HTB HPH0
      as_aux_lemma =>
      obtain ⟨lv1, N1, t1, htb, hph⟩ := hcut
      obtain ⟨t2, ht2⟩ : ∃ z, ({ t1 with l := [] } : Tw) = z := ⟨_, rfl⟩
      have hg2 : G n V t2 [] := by rw [← ht2]; exact hph.g.other hph.r
      have hr2 : Rs n t2 := by rw [← ht2]; exact ⟨rfl, hph.r.w, hph.r.r⟩
      have hp2 : PA 100 0 n t2 := by rw [← ht2]; exact hph.p
      have hT2 : t2.T ≤ 500 := by rw [← ht2]; have := hph.T; show t1.T ≤ 500; omega
      have htb2 := htb.lost
      rw [ht2] at htb2
      have xf := htb.q.r.free
      have x1 := htb.q.r.cell 1 _ rfl
      have HB2 := Lib.hid htb2
      have HRB := Lib.hid (rounds_base hg2 hr2 n5 (by omega))
      have HPA := Lib.hid (rounds_pa hg2 hr2 n5 (by omega) hp2)
      have HT2 := Lib.hid hT2
      have HG2 := Lib.hid (And.intro hg2 hr2)
      clear hg2 hr2 hp2 hT2 htb2 htb hph ht2
      go_upto_region 33 with (fail)
      clear xf x1
      generalize wc.setCell ⟨Pt, 1, none⟩ (.slice none 0 0) = w9 at HB2 ⊢
      go_wp2
      go_loopw [17] (fun vi wr => ∃ k : Nat, k ≤ 60 ∧ vi = .int .i64 k ∧ ∃ lv N, TB w wr n Pt Bb cb Ab Nb V lv N (rounds n V k t2)) (fun vi _ => 60 - (intOf vi).toNat)
      case atStart => exact ⟨0, by omega, rfl, _, _, HB2.out⟩
      case round =>
        obtain ⟨k, hk, rfl, lv, N, htb⟩ := hrel
        clear HB2
        by_cases h60 : k < 60
        · as_aux_lemma =>
          have hj0 : (k : Int) < 60 := by omega
          obtain ⟨tc, htc⟩ : ∃ z, rounds n V k t2 = z := ⟨_, rfl⟩
          obtain ⟨hgc, hrc, hTc⟩ := HRB.out k (by omega)
          have hpc := HPA.out k (by omega)
          rw [htc] at hgc hrc hTc hpc htb
          have hT2 := HT2.out
          have HTC := Lib.hid htc
          have HC := Lib.hid (And.intro hgc (And.intro hrc (And.intro hpc (show tc.T ≤ 50000 by omega))))
          have HB := Lib.hid htb
          clear hgc hrc hTc hpc htb htc hT2
          go_wp2
          go_loopw [18] (fun vi wr => ∃ j : Nat, j ≤ n ∧ vi = .int .i64 j ∧ ∃ N, TB w wr n Pt Bb cb Ab Nb V lv N (tickJ n V tc j)) (fun vi _ => n - (intOf vi).toNat)
          case atStart => exact ⟨0, Nat.zero_le _, rfl, N, by rw [tickJ_zero]; exact HB.out⟩
          case round =>
            obtain ⟨j, hj, rfl, N, htb⟩ := hrel
            by_cases hjn : j < n
            · as_aux_lemma =>
              have hjI : (j : Int) < (n : Int) := Int.ofNat_lt.2 hjn
              have hnow := htb.u.c j hjn
              have HB4 := Lib.hid htb
              cases hV : V j
              · rw [hV] at hnow
                clear htb
                go_wp2
                go_roundw
                case rel => exact ⟨j + 1, by omega, by go_num, N, by rw [tickJ_no hV]; exact HB4.out⟩
                case measure => simp [intOf]; omega
              · rw [hV] at hnow
                clear htb
                obtain ⟨tT, htT⟩ : ∃ z, tc.T = z := ⟨_, rfl⟩
                have y0 := HB4.out.q.r.cell 0 _ rfl
                have y2 : wr.cell? ⟨Pt, 2, none⟩ = some (.int .i64 tT) := by rw [← htT]; exact HB4.out.q.r.cell 2 _ rfl
                have yp := HB4.out.p.c j hjn
                go_upto_region 40 with (fail)
                refine region_gen (Cl 11 wr (fun wv => wv.cell? ⟨Pt, 0, none⟩ = some (.slice (some ⟨Bb, 0, none⟩) n cb) ∧ wv.cell? ⟨Pt, 2, none⟩ = some (.int .i64 tT) ∧ wv.cell? ⟨Bb, j, none⟩ = some (ptr (N j).P)) (fun _ wv => ∃ u, TB w wv n Pt Bb cb Ab Nb V lv (nset N j u) ((tickJ n V tc j).set j (((tickJ n V tc j).b j).over tT)))) (by kernel_rfl) (by kernel_rfl) (Cl.start ⟨y0, y2, yp⟩) ?_
                refine step_gen (by decide) (by rfl) (fun K_ hK => ?_)
                go_simp
                with_reducible apply H1.one
                · intro σ wv hk_ hd hv
                  obtain ⟨r0, r1, r2⟩ := hv.i
                  have Hv := Lib.hid hv
                  clear hv
                  go_simp
                  (with_reducible refine ⟨rfl, ?_⟩; exact Cl.pure Hv.out (by decide))
                refine hK _ _ _ ?_
                clear hK K_
                refine step_gen (by decide) (by rfl) (fun K_ hK => ?_)
                go_simp
                with_reducible apply H1.one
                · intro σ wv hk_ hd hv
                  obtain ⟨r0, r1, r2⟩ := hv.i
                  have Hv := Lib.hid hv
                  clear hv
                  go_simp
                  (with_reducible refine ⟨rfl, ?_⟩; exact Cl.pure Hv.out (by decide))
                refine hK _ _ _ ?_
                clear hK K_
                refine step_gen (by decide) (by rfl) (fun K_ hK => ?_)
                go_simp
                with_reducible apply H1.one
                · intro σ wv hk_ hd hv
                  obtain ⟨r0, r1, r2⟩ := hv.i
                  have Hv := Lib.hid hv
                  clear hv
                  go_simp
                  (with_reducible refine ⟨rfl, ?_⟩; exact Cl.pure Hv.out (by decide))
                refine hK _ _ _ ?_
                clear hK K_
                refine step_gen (by decide) (by rfl) (fun K_ hK => ?_)
                go_simp
                with_reducible apply H1.one
                · intro σ wv hk_ hd hv
                  obtain ⟨r0, r1, r2⟩ := hv.i
                  have Hv := Lib.hid hv
                  clear hv
                  go_simp
                  (with_reducible refine ⟨rfl, ?_⟩; exact Cl.pure Hv.out (by decide))
                refine hK _ _ _ ?_
                clear hK K_
                refine step_gen (by decide) (by rfl) (fun K_ hK => ?_)
                go_simp
                with_reducible apply H1.one
                · intro σ wv hk_ hd hv
                  obtain ⟨r0, r1, r2⟩ := hv.i
                  have Hv := Lib.hid hv
                  clear hv
                  go_simp
                  (with_reducible refine ⟨rfl, ?_⟩; exact Cl.pure Hv.out (by decide))
                refine hK _ _ _ ?_
                clear hK K_
                refine step_gen (by decide) (by rfl) (fun K_ hK => ?_)
                go_simp
                with_reducible apply H1.one
                · intro σ wv hk_ hd hv
                  obtain ⟨r0, r1, r2⟩ := hv.i
                  have Hv := Lib.hid hv
                  clear hv
                  go_simp
                  (with_reducible refine ⟨rfl, ?_⟩; exact Cl.pure Hv.out (by decide))
                refine hK _ _ _ ?_
                clear hK K_
                refine step_gen (by decide) (by rfl) (fun K_ hK => ?_)
                go_simp
                with_reducible apply H1.one
                · intro σ wv hk_ hd hv
                  obtain ⟨r0, r1, r2⟩ := hv.i
                  have Hv := Lib.hid hv
                  clear hv
                  go_simp
                  (with_reducible refine ⟨rfl, ?_⟩; exact Cl.pure Hv.out (by decide))
                refine hK _ _ _ ?_
                clear hK K_
                refine step_gen (by decide) (by rfl) (fun K_ hK => ?_)
                go_simp
                with_reducible apply H1.one
                · intro σ wv hk_ hd hv
                  obtain ⟨r0, r1, r2⟩ := hv.i
                  have Hv := Lib.hid hv
                  clear hv
                  go_simp
                  (with_reducible refine ⟨rfl, ?_⟩; exact Cl.pure Hv.out (by decide))
                refine hK _ _ _ ?_
                clear hK K_
                refine step_gen (by decide) (by rfl) (fun K_ hK => ?_)
                go_simp
                with_reducible apply H1.one
                · intro σ wv hk_ hd hv
                  obtain ⟨r0, r1, r2⟩ := hv.i
                  have Hv := Lib.hid hv
                  clear hv
                  go_simp
                  (with_reducible refine ⟨rfl, ?_⟩; exact Cl.pure Hv.out (by decide))
                refine hK _ _ _ ?_
                clear hK K_
                refine step_gen (by decide) (by rfl) (fun K_ hK => ?_)
                go_simp
                with_reducible apply H1.one
                · intro σ wv hk_ hd hv
                  obtain ⟨r0, r1, r2⟩ := hv.i
                  have Hv := Lib.hid hv
                  clear hv
                  go_simp
                  (with_reducible refine ⟨rfl, ?_⟩; exact Cl.pure Hv.out (by decide))
                refine hK _ _ _ ?_
                clear hK K_
                refine step_gen (by decide) (by rfl) (fun K_ hK => ?_)
                go_simp
                with_reducible apply H1.one
                · intro σ wv hk_ hd hv
                  obtain ⟨r0, r1, r2⟩ := hv.i
                  have Hv := Lib.hid hv
                  clear hv
                  go_simp
                  (with_reducible refine ⟨rfl, ?_⟩; exact Cl.pure Hv.out (by decide))
                refine hK _ _ _ ?_
                clear hK K_
                refine step_gen (by decide) (by rfl) (fun K_ hK => ?_)
                go_simp
                with_reducible apply H1.one
                · intro σ wv hk_ hd hv
                  have Hv := Lib.hid hv
                  clear hv
                  go_simp
                  (obtain ⟨m_, rfl⟩ := Hv.out.a hk_
                   refine ((HB4.out.drewN m_).over hjn tT).mono ?_
                   rintro e2 w3_ ⟨rfl, u3_, q3_⟩
                   have s0 := q3_.q.r.cell 0 _ rfl
                   have s1 : w3_.cell? ⟨Pt, 2, none⟩ = some (.int .i64 tT) := by rw [← htT]; exact q3_.q.r.cell 2 _ rfl
                   have s2 := q3_.p.c j hjn
                   simp only [nset_P] at s2
                   exact ⟨_, rfl, rfl, Cl.call ⟨s0, s1, s2⟩ ⟨u3_, q3_⟩⟩)
                refine hK _ _ _ ?_
                clear hK K_
                refine nil_gen ?_
                intro σ w5 hall ht hv
                obtain ⟨zz, hzz⟩ := Option.isSome_iff_exists.1 (hall 11 (by decide))
                obtain ⟨u5, q5⟩ := hv.b zz hzz
                have HB5 := Lib.hid q5
                clear hv hall ht hzz zz σ q5
                have HTT := Lib.hid htT
                clear htT
                have hPIo : PI 200 16 n (((tickJ n V tc j).set j (((tickJ n V tc j).b j).over tT)).b j) := by
                  rw [Tw.set_same, tickJ_b]
                  exact ((HC.out.2.2.1 j hjn).over tT).more (by omega) (by omega)
                have HPO := Lib.hid hPIo
                have z0 := HB5.out.q.r.cell 0 _ rfl
                have zp := HB5.out.p.c j hjn
                simp only [nset_P] at zp
                clear hPIo HB4 hnow y0 y2 yp
                have HTK := Lib.hid (HB5.out.tick hjn (i := 200) (m := 16) HPO.out (by omega) (by omega))
                simp only [nset_P] at HTK
                go_wp2_with (go_at_call 8; (with_reducible refine HTK.out.mono ?_); rintro e' w6 ⟨rfl, u6_, hq6⟩; have HB6 := Lib.hid hq6; clear hq6)
                go_roundw
                case rel =>
                  refine ⟨j + 1, by omega, by go_num, nset (nset N j u5) j u6_, ?_⟩
                  have := HB6.out
                  rw [Tw.set_same, tickJ_b, ← HTT.out, tickJ_yes hV] at this
                  exact this
                case measure => simp [intOf]; omega
            · as_aux_lemma =>
              obtain rfl : n = j := by omega
              have hjI : ¬ (n : Int) < (n : Int) := by omega
              have htb' : TB w wr n Pt Bb cb Ab Nb V lv N (tickU n V tc) := htb
              obtain ⟨hgc, hrc, hpc, hTc⟩ := HC.out
              have hgt := hgc.tickU hrc (by omega)
              have hpt := hpc.tickU (U := V)
              have hws := wsum_le (t := tickU n V tc) (n := n) (m := 16) (fun j hj => (hpt j hj).bd.wl) n (Nat.le_refl _)
              have hl0 : (tickU n V tc).l = [] := hrc.l
              have hnm : n * 16 ≤ 80 := by omega
              have HG := Lib.hid (htb'.gatherU (cu := n) hgt (by show tc.T + n ≤ _; omega) hpt (by omega) (by rw [hl0]; simp; omega) n5)
              obtain ⟨hg2, -, hT1, hT2⟩ := gath_ind (Inv := fun _ _ => True) (fun _ _ _ _ _ _ _ => trivial) hgt trivial (by show tc.T + n ≤ _; omega)
              have hrb2 : Rb n (gath n V (tickU n V tc)) := gath_rb hgt (by show tc.T + n ≤ _; omega) (fun k hk hU => by rw [tickU_not hU]; exact ⟨hrc.w k hk, hrc.r k hk⟩)
              have hlen := len_gathN (U := V) hpt n (Nat.le_refl _)
              rw [hl0] at hlen
              have hbl : Bl n V 0 (gath n V (tickU n V tc)) := ⟨fun y hy _ => by
                obtain ⟨f, t', h1, -⟩ := hg2.w y (.inr (.inl hy)); omega, fun _ => by simp at hlen; show (gathN n V (tickU n V tc) n).l.length ≤ 120; omega, fun h => by omega⟩
              have hTT : (tickU n V tc).T = tc.T := rfl
              have HD := Lib.hid (And.intro hg2 (And.intro hrb2 (And.intro (show (gath n V (tickU n V tc)).T + 200 ≤ 1000000 by omega) (And.intro ((hpt.gath (U := V)).rest hrb2) hbl))))
              clear hgt hpt hws hl0 hnm hg2 hT1 hT2 hrb2 hlen hbl hTT hgc hrc hpc hTc htb htb' HB
              go_upto_region 43 with (go_at_call 25; (with_reducible refine HG.out.mono ?_); rintro e' w6 ⟨rfl, lv6, N6, hq6, -⟩; have HB6 := Lib.hid hq6; clear hq6)
              have HDV := Lib.hid (HB6.out.deliver (cu := n) HD.out.1 HD.out.2.1 HD.out.2.2.1 HD.out.2.2.2.1 HD.out.2.2.2.2 n5)
              go_wp2_with (go_at_call 26; (with_reducible refine HDV.out.mono ?_); rintro e' w7 ⟨rfl, lv7, N7, hq7, -⟩; have HB7 := Lib.hid hq7; clear hq7)
              go_roundw
              case rel => exact ⟨k + 1, by omega, by go_num, lv7, N7, by show TB _ _ _ _ _ _ _ _ _ _ _ (round n V (rounds n V k t2)); rw [HTC.out]; exact HB7.out⟩
              case measure => simp [intOf]; omega
        · as_aux_lemma =>
          obtain rfl : 60 = k := by omega
          obtain ⟨L, hQ⟩ := leads_law HG2.out.1 HG2.out.2 n5 (by have := HT2.out; omega) HV.out
          obtain ⟨hgF, hrF, -⟩ := HRB.out 60 (by omega)
          obtain ⟨tF, htF⟩ : ∃ z, rounds n V 60 t2 = z := ⟨_, rfl⟩
          rw [htF] at hQ hgF htb
          have hLn := hQ.1.lt
          have hLU := hQ.1.up
          have hL4 := hQ.1.la.1
          have hLT := hQ.1.la.2
          have hLL := (hgF.g L hLn).ld hL4
          have HF := Lib.hid (And.intro hQ (And.intro hLn (And.intro hLU (And.intro hL4 (And.intro hLT hLL)))))
          have HB := Lib.hid htb
          clear hQ hgF hrF htb hLn hLU hL4 hLT hLL htF
          have h60 : ¬ ((60 : Nat) : Int) < 60 := by omega
          go_wp2
          go_loopw [19, 20] (fun vl vi wr => ∃ k : Nat, k ≤ n ∧ vi = .int .i64 k ∧ vl = .int .i64 (if L < k then (L : Int) else -1) ∧ TB w wr n Pt Bb cb Ab Nb V lv N tF) (fun _ vi _ => n - (intOf vi).toNat)
          case atStart => exact ⟨0, Nat.zero_le _, rfl, by rw [if_neg (by omega)], HB.out⟩
          case round =>
            obtain ⟨k, hk, rfl, rfl, htb⟩ := hrel
            clear HB
            by_cases hkn : k < n
            · as_aux_lemma =>
              have hkI : (k : Int) < (n : Int) := Int.ofNat_lt.2 hkn
              have hnow := htb.u.c k hkn
              have y0 := htb.q.r.cell 0 _ rfl
              have yp := htb.p.c k hkn
              obtain ⟨ro, hro⟩ : ∃ z, (tF.b k).x.role = z := ⟨_, rfl⟩
              obtain ⟨le, hle⟩ : ∃ z, (tF.b k).x.lead = z := ⟨_, rfl⟩
              obtain ⟨te, hte⟩ : ∃ z, (tF.b k).x.term = z := ⟨_, rfl⟩
              have HB4 := Lib.hid htb
              have HB5 := Lib.hid (htb.drewN 1)
              have HST := Lib.hid (htb.state hkn ro le te hro hle hte)
              have HR := Lib.hid hro
              clear htb hle hte hro
              by_cases hkL : k = L
              · subst hkL
                rw [HF.out.2.2.1] at hnow
                have hr4 : ro = 4 := by rw [← HR.out]; exact HF.out.2.2.2.1
                subst hr4
                have hll : ¬ k < k := Nat.lt_irrefl _
                have hnow2 : wr.drew.cell? ⟨Nb, k, none⟩ = some (.bool true) := hnow
                simp only [hll, if_false]
                go_wp2_with (go_at_call 23; (with_reducible refine HST.out.mono ?_); rintro e' w6 ⟨rfl, rfl⟩)
                go_roundw
                case rel => exact ⟨k + 1, by omega, by go_num, by rw [if_pos (by omega)], HB5.out⟩
                case measure => simp [intOf]; omega
              · obtain ⟨vl, hvl⟩ : ∃ z : Int, (if L < k then (L : Int) else -1) = z := ⟨_, rfl⟩
                have HVL := Lib.hid (show (if L < k + 1 then (L : Int) else -1) = vl by
                  rw [← hvl]
                  by_cases h : L < k
                  · rw [if_pos h, if_pos (by omega)]
                  · rw [if_neg h, if_neg (by omega)])
                simp only [hvl]
                clear hvl
                cases hV : V k
                · rw [hV] at hnow
                  have hnow2 : wr.drew.cell? ⟨Nb, k, none⟩ = some (.bool false) := hnow
                  go_wp2_with (go_at_call 23; (with_reducible refine HST.out.mono ?_); rintro e' w6 ⟨rfl, rfl⟩)
                  go_roundw
                  case rel => exact ⟨k + 1, by omega, by go_num, by rw [HVL.out], HB5.out⟩
                  case measure => simp [intOf]; omega
                · rw [hV] at hnow
                  have hnow2 : wr.drew.cell? ⟨Nb, k, none⟩ = some (.bool true) := hnow
                  have hr0 : ro = 0 := by rw [← HR.out]; exact HF.out.1.2 k hkn hV hkL
                  subst hr0
                  go_wp2_with (go_at_call 23; (with_reducible refine HST.out.mono ?_); rintro e' w6 ⟨rfl, rfl⟩)
                  go_roundw
                  case rel => exact ⟨k + 1, by omega, by go_num, by rw [HVL.out], HB5.out⟩
                  case measure => simp [intOf]; omega
            · as_aux_lemma =>
              obtain rfl : n = k := by omega
              have hkI : ¬ (n : Int) < (n : Int) := by omega
              have hLn := HF.out.2.1
              have HB4 := Lib.hid htb
              rw [if_pos hLn]
              have hL0 : ¬ (L : Int) < 0 := by omega
              clear htb
              go_wp2
              go_loopw [24] (fun vi wr => ∃ k : Nat, k ≤ n ∧ vi = .int .i64 k ∧ TB w wr n Pt Bb cb Ab Nb V lv N tF) (fun vi _ => n - (intOf vi).toNat)
              case atStart => exact ⟨0, Nat.zero_le _, rfl, HB4.out⟩
              case round =>
                obtain ⟨k, hk, rfl, htb⟩ := hrel
                clear HB4
                by_cases hkn : k < n
                · as_aux_lemma =>
                  have hkI : (k : Int) < (n : Int) := Int.ofNat_lt.2 hkn
                  have hnow := htb.u.c k hkn
                  have y0 := htb.q.r.cell 0 _ rfl
                  have yp := htb.p.c k hkn
                  obtain ⟨tT, htT⟩ : ∃ z, tF.T = z := ⟨_, rfl⟩
                  obtain ⟨ro, hro⟩ : ∃ z, (tF.b k).x.role = z := ⟨_, rfl⟩
                  obtain ⟨le, hle⟩ : ∃ z, (tF.b k).x.lead = z := ⟨_, rfl⟩
                  obtain ⟨te, hte⟩ : ∃ z, (tF.b k).x.term = z := ⟨_, rfl⟩
                  have y2 : wr.drew.cell? ⟨Pt, 2, none⟩ = some (.int .i64 tT) := by rw [← htT]; exact (htb.drewN 1).q.r.cell 2 _ rfl
                  have HB5 := Lib.hid (htb.drewN 1)
                  have HST := Lib.hid (htb.state hkn ro le te hro hle hte)
                  have hnow2 : wr.drew.cell? ⟨Nb, k, none⟩ = some (.bool (V k)) := hnow
                  clear htb hnow
                  by_cases hkL : k = L
                  · subst hkL
                    rw [HF.out.2.2.1] at hnow2
                    have e1 : le = k := by rw [← hle]; exact HF.out.2.2.2.2.2
                    have e2 : te = tT := by rw [← hte, ← htT]; exact HF.out.2.2.2.2.1
                    subst e1 e2
                    clear hle hte htT hro
                    have q1 : ((k : Int) != (k : Int)) = false := by simp
                    have q2 : ∀ z : Int, (z != z) = false := fun z => by simp
                    go_wp2_with (go_at_call 23; (with_reducible refine HST.out.mono ?_); rintro e' w6 ⟨rfl, rfl⟩)
                    go_roundw
                    case rel => exact ⟨k + 1, by omega, by go_num, HB5.out⟩
                    case measure => simp [intOf]; omega
                  · cases hV : V k
                    · rw [hV] at hnow2
                      clear hle hte htT hro
                      go_wp2_with (go_at_call 23; (with_reducible refine HST.out.mono ?_); rintro e' w6 ⟨rfl, rfl⟩)
                      go_roundw
                      case rel => exact ⟨k + 1, by omega, by go_num, HB5.out⟩
                      case measure => simp [intOf]; omega
                    · rw [hV] at hnow2
                      obtain ⟨p1, p2, -⟩ := HF.out.1.1.k k hkn hV hkL
                      have e0 : ro = 0 := by rw [← hro]; exact HF.out.1.2 k hkn hV hkL
                      have e1 : le = L := by rw [← hle]; exact p1
                      have e2 : te = tT := by rw [← hte, ← htT]; exact p2
                      subst e0 e1 e2
                      clear hle hte htT hro p1 p2
                      have q2 : ∀ z : Int, (z != z) = false := fun z => by simp
                      have q3 : ((k : Int) != (L : Int)) = true := by simp; omega
                      go_wp2_with (go_at_call 23; (with_reducible refine HST.out.mono ?_); rintro e' w6 ⟨rfl, rfl⟩)
                      go_roundw
                      case rel => exact ⟨k + 1, by omega, by go_num, HB5.out⟩
                      case measure => simp [intOf]; omega
                · as_aux_lemma =>
                  obtain rfl : n = k := by omega
                  have hkI : ¬ (n : Int) < (n : Int) := by omega
                  have HB6 := Lib.hid htb.b
                  clear htb
                  go_wp2
                  go_ret
                  exact ⟨rfl, HB6.out⟩
end Go.Proofs.Ytccmnphjiebiaaa
