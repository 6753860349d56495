/- The reference cuts a link, or mends it. Conditions: the links lie whole in memory; not many letters are there. -/
import Derived.Test.YtppjjbhbbnnpgaaRtake
namespace Go.Proofs.Ytppjjbhbbnnpgaa
open Go.RowKit G
set_option linter.unusedVariables false
set_option linter.unusedSimpArgs false
/-- What stays of the first j. -/
def kp (o : Bool) (a b : Int) (ls : List Lt) (j : Nat) : List Lt := if o = true then keepL a b (ls.take j) else ls.take j
theorem kp_zero (o : Bool) (a b : Int) (ls : List Lt) : kp o a b ls 0 = [] := by unfold kp; split <;> simp [keepL]
theorem kp_le (o : Bool) (a b : Int) (ls : List Lt) (j : Nat) : (kp o a b ls j).length ≤ j := by
  unfold kp
  split
  · exact keep_le a b ls j
  · rw [List.length_take]; omega
theorem kp_hit {a b : Int} {ls : List Lt} {j : Nat} {y : Lt} (h : ls[j]? = some y) (hh : hit a b y = true) : kp true a b ls (j + 1) = kp true a b ls j := keep_hit h hh
theorem kp_miss {o : Bool} {a b : Int} {ls : List Lt} {j : Nat} {y : Lt} (h : ls[j]? = some y) (hh : o = false ∨ hit a b y = false) : kp o a b ls (j + 1) = kp o a b ls j ++ [y] := by
  unfold kp
  split
  · next e => rcases hh with h1 | h1
              · rw [h1] at e; cases e
              · exact keep_miss h h1
  · exact take_snoc h
/-- On the way: u holds what stays of the first j; the others were counted. -/
structure RC (W0 w : World) (P : Nat) (v : Value) (x : Wn) (o : Bool) (f t : Nat) (j : Nat) (u : Value) : Prop where
  p : WAt 49 36 w P v { x with out := outSet x.out f t o, lost := x.lost + ((j : Int) - ((kp o f t x.ls j).length : Int)) }
  l : Ls 36 w u (kp o f t x.ls j)
  k : Kept [P] W0 w
  n : ∀ c ∈ own u, W0.heap.size ≤ c
  s : IsSlice u
theorem wp_append_run {P : Program} {o : Oper} {a : Act} {K : Act → World → Prop} {Q : Exit → Act → World → Prop} {w w' : World} {s x : Operand} {t : TypeId} {v y u : Value} (ho : o.op = .call { callee := .builtin .append, args := #[s, x], argTypes := #[t, t] })
    (hs : a.eval s = v) (hx : a.eval x = y) (hr : (Builtin.append_ #[t, t] o.type #[v, y]).run P w = .ok u w') (h : K (a.put o.dst u) w') : o.wp P a w K Q := by
  unfold Oper.wp execOp
  simp only [ho, resolve, invoke, builtin, Sem.run_bind, Sem.run_pure, Result.andThen_ok, List.map_toArray, List.map_cons, List.map_nil, hs, hx, hr]
  exact h
theorem wpList_append_run {P : Program} {ops : Array Oper} {rest : List Oper} {o : Oper} {a : Act} {Q : Exit → Act → World → Prop} {w w' : World} {s x : Operand} {t : TypeId} {v y u : Value} (hgd : o.guard = none) (ho : o.op = .call { callee := .builtin .append, args := #[s, x], argTypes := #[t, t] })
    (hs : a.eval s = v) (hx : a.eval x = y) (hr : (Builtin.append_ #[t, t] o.type #[v, y]).run P w = .ok u w') (h : wpList P ops Q rest (a.put o.dst u) w') : wpList P ops Q (o :: rest) a w :=
  wpList_plain hgd fun _ hK => wp_append_run ho hs hx hr (hK _ _ h)
theorem RC.fin {W0 w : World} {P : Nat} {v : Value} {x : Wn} {o : Bool} {f t j : Nat} {u : Value} (h : RC W0 w P v x o f t j u) (hP : P < W0.heap.size) :
    WAt 49 36 (w.setCell ⟨P, 1, none⟩ u) P u { x with out := outSet x.out f t o, ls := kp o f t x.ls j, lost := x.lost + ((j : Int) - ((kp o f t x.ls j).length : Int)) } ∧ Stp (wfp P v) (wfp P u) W0 (w.setCell ⟨P, 1, none⟩ u) := by
  have hnP : P ∉ own u := fun hm => by have := h.n P hm; omega
  refine ⟨⟨?_, own_set h.l P 1 hnP _, hnP⟩, (h.k.more (by simp [wfp])).set P 1 (.inl (List.mem_cons_self ..)) u, fun c hc => ?_⟩
  · obtain ⟨cs, a, b⟩ := h.p.r
    exact ⟨_, a.set 1 _, b.setL _⟩
  · rcases List.mem_cons.1 hc with rfl | hc
    · exact .inl (List.mem_cons_self ..)
    · exact .inr (h.n c hc)
set_option maxHeartbeats 4000000 in
theorem cut_roff {w : World} {P : Nat} {v : Value} {x : Wn} (h : WAt 49 36 w P v x) (hm : x.ls.length ≤ 1000) (hc0 : 0 ≤ x.lost) (hc1 : x.lost ≤ 900000) (f t : Nat) (hf : f < 16) (ht : t < 16) (hl : linkB x.n f t = true) :
    Calls Try.prog 16 #[.pointer (some ⟨P, 0, none⟩), .int .i64 f, .int .i64 t, .bool false] w fun e w' => e = .returned (.int .i64 0) ∧ ∃ u, WAt 49 36 w' P u { x with out := outSet x.out f t false, ls := kp false f t x.ls x.ls.length, lost := x.lost + ((x.ls.length : Int) - ((kp false f t x.ls x.ls.length).length : Int)) } ∧ Stp (wfp P v) (wfp P u) w w' := by
  have HL := Lib.hid hl
  have HV := Lib.hid (own_lt h.s)
  have HPL := Lib.hid h.lt
  have HT := Lib.hid (h.setO hf ht false)
  have c0 := h.c0
  have co := h.co hf ht
  have cf0 := h.free
  have hf2 : (f : Int) < 16 := by omega
  have ht2 : (t : Int) < 16 := by omega
  obtain ⟨i0, hi0, hz0, hz1, hz2⟩ := info_parts info36
  clear hl h hf ht
  go_enter Try.func16, Try.ntmps16
  go_upto_region 3 with (go_at_call 26; (with_reducible refine (rlink_any c0 f t).mono ?_); rw [HL.out]; rintro e1 w1 ⟨rfl, hw1⟩; obtain rfl := hw1.symm)
  go_upto_region 5 with (fail)
  clear c0 co cf0
  go_wp2
  go_loopw [9, 10] (fun u i wr => ∃ j : Nat, j ≤ x.ls.length ∧ i = .int .i64 j ∧ RC w wr P v x false f t j u) (fun _ i _ => x.ls.length - (intOf i).toNat)
  case atStart =>
    have h0 := HT.out
    refine ⟨0, Nat.zero_le _, rfl, ?_⟩
    refine ⟨?_, by rw [kp_zero]; exact World.ownsRow_nil _ _ _ _, (Kept.refl _ _).set P _ (.inl (by simp)) _, by simp [own_none], .mk _ _ _⟩
    rw [kp_zero]
    simpa using h0
  case round =>
    obtain ⟨j, hj, rfl, hr⟩ := hrel
    clear HT
    have c1 : wr.cell? ⟨P, 1, none⟩ = some v := hr.p.c1
    have cf : ∀ i, wr.frozen? ⟨P, i, none⟩ = false := hr.p.free
    obtain ⟨pa, ca, hv⟩ := hr.p.s.len
    rw [hv] at c1
    by_cases hlt : j < x.ls.length
    · have ek := List.getElem?_eq_getElem hlt
      rcases hr.p.s.form with ⟨-, hnil⟩ | ⟨g, cap, hv2⟩
      · have : x.ls = [] := hnil
        rw [this] at hlt; simp at hlt
      rw [hv] at hv2
      injection hv2 with e1 e2 e3
      subst e1 e3
      have hro := hr.p.s
      rw [hv] at hro
      obtain ⟨z0, z1, z2⟩ := hro.read ek
      generalize x.ls[j] = y at ek z0 z1 z2
      obtain ⟨yf, yt, ys⟩ := y
      simp only at z0 z1 z2
      have HE := Lib.hid ek
      have hjl : (j : Int) < (x.ls.length : Int) := by omega
      clear ek hro e2 hv
      have HM := Lib.hid (show (false = false ∨ hit (f : Int) (t : Int) ⟨yf, yt, ys⟩ = false) from .inl rfl)
      obtain ⟨u', w', hrun, hu, hg, hnew⟩ := run_append_new (P := Try.prog) (wr.alloc (.cells #[.int .i64 yf, .int .i64 yt, .string ys] 36)) 0 45 45 36 i0 (.agg #[.int .i64 0, .int .i64 0, .string ⟨#[]⟩]) 3 32 Try.underlying45 hi0 hz0 hz1 hz2 rfl (by decide) u9 (kp false f t x.ls j).length (lts (kp false f t x.ls j)) (World.ownsRow.alloc hr.l _) ⟨wr.heap.size, 0, none⟩ 1 1 (ltc ⟨yf, yt, ys⟩) rfl
        (by intro q z hq; have hnb := Row.new wr #[.int .i64 yf, .int .i64 yt, .string ys] 36; rcases q with _ | _ | _ | _ <;> first | (cases hq; exact hnb.cell _ _ rfl) | cases hq) (one_ltc _) (by have := kp_le false f t x.ls j; simp only [maxLen]; omega) (by have := kp_le false f t x.ls j; omega) (Nat.zero_le _)
      rw [← lts_snoc, ← kp_miss HE.out HM.out] at hu
      have hnz : ∀ c ∈ own u9, w.heap.size ≤ c := hr.n
      have hsz := hr.k.size
      have hWn : ∀ c, c ∈ own v → c < w.heap.size := HV.out
      have hP2 : WAt 49 36 w' P v { x with out := outSet x.out f t false, lost := x.lost + ((j : Int) - ((kp false f t x.ls j).length : Int)) } := by
        have h1 := hr.p.below (below_new wr (.cells #[.int .i64 yf, .int .i64 yt, .string ys] 36))
        have hPn : P ∉ own u9 := fun hmm => by have := hnz P hmm; have := HPL.out; omega
        refine ⟨by obtain ⟨cs, a, b⟩ := h1.r; exact ⟨cs, a.grownV hg hPn, b⟩, World.ownsRow.kept h1.s hg ?_, h1.nP⟩
        cases hv : v.ownBlock with
        | none => exact .inl rfl
        | some c =>
          refine .inr (fun e => ?_)
          have h2 := hWn c (by simp [own, hv])
          have h3 := hnz c (by simp [own, ← e])
          omega
      have hK2 : Kept [P] w w' := (hr.k.alloc _).grown hg (fun b hb => .inr (hnz b hb))
      have hN2 : ∀ c ∈ own u', w.heap.size ≤ c := fun c hc => (hnew c hc).elim (hnz c) (fun hh => by simp at hh; omega)
      have hlen2 : (kp false f t x.ls (j + 1)).length = (kp false f t x.ls j).length + 1 := by rw [kp_miss HE.out HM.out]; simp
      have hls2 : Ls 36 w' u' (kp false f t x.ls (j + 1)) := by unfold Ls; rw [hlen2]; exact hu
      have hsl := own_slice hu
      have HR2 := Lib.hid (show RC w w' P v x false f t (j + 1) u' from ⟨by
          rw [show x.lost + (((j + 1 : Nat) : Int) - ((kp false f t x.ls (j + 1)).length : Int)) = x.lost + ((j : Int) - ((kp false f t x.ls j).length : Int)) by rw [hlen2]; omega]
          exact hP2, hls2, hK2, hN2, hsl⟩)
      have HRUN := Lib.hid hrun
      clear hu hg hnew hnz hsz hWn hP2 hK2 hN2 hlen2 hls2 hr hsl hrun
      go_wp2_with (first | (at_builtin; refine wpList_append_run rfl rfl rfl rfl HRUN.out ?_) | go_in)
      go_roundw
      case rel => exact ⟨j + 1, by omega, by go_num, HR2.out⟩
      case measure => simp [intOf]; omega
    · obtain rfl : j = x.ls.length := by omega
      have hsl := hr.s
      have HF := Lib.hid hr
      clear hr hv
      obtain ⟨up, un, uc⟩ := hsl
      go_wp2
      go_ret
      exact ⟨rfl, _, by simpa using (HF.out.fin HPL.out).1, (HF.out.fin HPL.out).2⟩
set_option maxHeartbeats 4000000 in
theorem cut_ron {w : World} {P : Nat} {v : Value} {x : Wn} (h : WAt 49 36 w P v x) (hm : x.ls.length ≤ 1000) (hc0 : 0 ≤ x.lost) (hc1 : x.lost ≤ 900000) (f t : Nat) (hf : f < 16) (ht : t < 16) (hl : linkB x.n f t = true) :
    Calls Try.prog 16 #[.pointer (some ⟨P, 0, none⟩), .int .i64 f, .int .i64 t, .bool true] w fun e w' => e = .returned (.int .i64 0) ∧ ∃ u, WAt 49 36 w' P u { x with out := outSet x.out f t true, ls := kp true f t x.ls x.ls.length, lost := x.lost + ((x.ls.length : Int) - ((kp true f t x.ls x.ls.length).length : Int)) } ∧ Stp (wfp P v) (wfp P u) w w' := by
  have HL := Lib.hid hl
  have HV := Lib.hid (own_lt h.s)
  have HPL := Lib.hid h.lt
  have HT := Lib.hid (h.setO hf ht true)
  have c0 := h.c0
  have co := h.co hf ht
  have cf0 := h.free
  have hf2 : (f : Int) < 16 := by omega
  have ht2 : (t : Int) < 16 := by omega
  obtain ⟨i0, hi0, hz0, hz1, hz2⟩ := info_parts info36
  clear hl h hf ht
  go_enter Try.func16, Try.ntmps16
  go_upto_region 3 with (go_at_call 26; (with_reducible refine (rlink_any c0 f t).mono ?_); rw [HL.out]; rintro e1 w1 ⟨rfl, hw1⟩; obtain rfl := hw1.symm)
  go_upto_region 5 with (fail)
  clear c0 co cf0
  go_wp2
  go_loopw [9, 10] (fun u i wr => ∃ j : Nat, j ≤ x.ls.length ∧ i = .int .i64 j ∧ RC w wr P v x true f t j u) (fun _ i _ => x.ls.length - (intOf i).toNat)
  case atStart =>
    have h0 := HT.out
    refine ⟨0, Nat.zero_le _, rfl, ?_⟩
    refine ⟨?_, by rw [kp_zero]; exact World.ownsRow_nil _ _ _ _, (Kept.refl _ _).set P _ (.inl (by simp)) _, by simp [own_none], .mk _ _ _⟩
    rw [kp_zero]
    simpa using h0
  case round =>
    obtain ⟨j, hj, rfl, hr⟩ := hrel
    clear HT
    have c1 : wr.cell? ⟨P, 1, none⟩ = some v := hr.p.c1
    have cf : ∀ i, wr.frozen? ⟨P, i, none⟩ = false := hr.p.free
    obtain ⟨pa, ca, hv⟩ := hr.p.s.len
    rw [hv] at c1
    by_cases hlt : j < x.ls.length
    · have ek := List.getElem?_eq_getElem hlt
      rcases hr.p.s.form with ⟨-, hnil⟩ | ⟨g, cap, hv2⟩
      · have : x.ls = [] := hnil
        rw [this] at hlt; simp at hlt
      rw [hv] at hv2
      injection hv2 with e1 e2 e3
      subst e1 e3
      have hro := hr.p.s
      rw [hv] at hro
      obtain ⟨z0, z1, z2⟩ := hro.read ek
      generalize x.ls[j] = y at ek z0 z1 z2
      obtain ⟨yf, yt, ys⟩ := y
      simp only at z0 z1 z2
      have HE := Lib.hid ek
      have hjl : (j : Int) < (x.ls.length : Int) := by omega
      clear ek hro e2 hv
      cases hh : hit (f : Int) (t : Int) ⟨yf, yt, ys⟩
      · have HM := Lib.hid (show (true = false ∨ hit (f : Int) (t : Int) ⟨yf, yt, ys⟩ = false) from .inr hh)
        have hno : ¬ (yf = f ∧ yt = t) := by simpa [hit] using hh
        clear hh
        obtain ⟨u', w', hrun, hu, hg, hnew⟩ := run_append_new (P := Try.prog) (wr.alloc (.cells #[.int .i64 yf, .int .i64 yt, .string ys] 36)) 0 45 45 36 i0 (.agg #[.int .i64 0, .int .i64 0, .string ⟨#[]⟩]) 3 32 Try.underlying45 hi0 hz0 hz1 hz2 rfl (by decide) u9 (kp true f t x.ls j).length (lts (kp true f t x.ls j)) (World.ownsRow.alloc hr.l _) ⟨wr.heap.size, 0, none⟩ 1 1 (ltc ⟨yf, yt, ys⟩) rfl
          (by intro q z hq; have hnb := Row.new wr #[.int .i64 yf, .int .i64 yt, .string ys] 36; rcases q with _ | _ | _ | _ <;> first | (cases hq; exact hnb.cell _ _ rfl) | cases hq) (one_ltc _) (by have := kp_le true f t x.ls j; simp only [maxLen]; omega) (by have := kp_le true f t x.ls j; omega) (Nat.zero_le _)
        rw [← lts_snoc, ← kp_miss HE.out HM.out] at hu
        have hnz : ∀ c ∈ own u9, w.heap.size ≤ c := hr.n
        have hsz := hr.k.size
        have hWn : ∀ c, c ∈ own v → c < w.heap.size := HV.out
        have hP2 : WAt 49 36 w' P v { x with out := outSet x.out f t true, lost := x.lost + ((j : Int) - ((kp true f t x.ls j).length : Int)) } := by
          have h1 := hr.p.below (below_new wr (.cells #[.int .i64 yf, .int .i64 yt, .string ys] 36))
          have hPn : P ∉ own u9 := fun hmm => by have := hnz P hmm; have := HPL.out; omega
          refine ⟨by obtain ⟨cs, a, b⟩ := h1.r; exact ⟨cs, a.grownV hg hPn, b⟩, World.ownsRow.kept h1.s hg ?_, h1.nP⟩
          cases hv : v.ownBlock with
          | none => exact .inl rfl
          | some c =>
            refine .inr (fun e => ?_)
            have h2 := hWn c (by simp [own, hv])
            have h3 := hnz c (by simp [own, ← e])
            omega
        have hK2 : Kept [P] w w' := (hr.k.alloc _).grown hg (fun b hb => .inr (hnz b hb))
        have hN2 : ∀ c ∈ own u', w.heap.size ≤ c := fun c hc => (hnew c hc).elim (hnz c) (fun hh => by simp at hh; omega)
        have hlen2 : (kp true f t x.ls (j + 1)).length = (kp true f t x.ls j).length + 1 := by rw [kp_miss HE.out HM.out]; simp
        have hls2 : Ls 36 w' u' (kp true f t x.ls (j + 1)) := by unfold Ls; rw [hlen2]; exact hu
        have hsl := own_slice hu
        have HR2 := Lib.hid (show RC w w' P v x true f t (j + 1) u' from ⟨by
            rw [show x.lost + (((j + 1 : Nat) : Int) - ((kp true f t x.ls (j + 1)).length : Int)) = x.lost + ((j : Int) - ((kp true f t x.ls j).length : Int)) by rw [hlen2]; omega]
            exact hP2, hls2, hK2, hN2, hsl⟩)
        have HRUN := Lib.hid hrun
        clear hu hg hnew hnz hsz hWn hP2 hK2 hN2 hlen2 hls2 hr hsl hrun
        by_cases q1 : yf = f
        · have q2 : ¬ yt = t := fun e => hno ⟨q1, e⟩
          have d1 : (yf == (f : Int)) = true := by simp [q1]
          have d2 : (yt == (t : Int)) = false := by simp [q2]
          clear hno q1 q2
          go_wp2_with (first | (at_builtin; refine wpList_append_run rfl rfl rfl rfl HRUN.out ?_) | go_in)
          go_roundw
          case rel => exact ⟨j + 1, by omega, by go_num, HR2.out⟩
          case measure => simp [intOf]; omega

        · have d1 : (yf == (f : Int)) = false := by simp [q1]
          clear hno q1
          go_wp2_with (first | (at_builtin; refine wpList_append_run rfl rfl rfl rfl HRUN.out ?_) | go_in)
          go_roundw
          case rel => exact ⟨j + 1, by omega, by go_num, HR2.out⟩
          case measure => simp [intOf]; omega

      · have hyes : yf = f ∧ yt = t := by simpa [hit] using hh
        have HM := Lib.hid (kp_hit HE.out hh)
        obtain ⟨rfl, rfl⟩ := hyes
        clear hh
        have cl : wr.cell? ⟨P, 258, none⟩ = some (.int .i64 (x.lost + ((j : Int) - ((kp true f t x.ls j).length : Int)))) := hr.p.cl
        have hkl := kp_le true f t x.ls j
        have HR := Lib.hid hr
        clear hr
        obtain ⟨lo, hlo⟩ : ∃ z, x.lost + ((j : Int) - ((kp true f t x.ls j).length : Int)) = z := ⟨_, rfl⟩
        rw [hlo] at cl
        have hwl : wrap64 (lo + 1) = lo + 1 := wrap64_mid (by omega) (by omega)
        have HLO := Lib.hid hlo
        clear hlo hkl
        have d1 : ((f : Int) == (f : Int)) = true := by simp
        have d2 : ((t : Int) == (t : Int)) = true := by simp
        go_wp2
        go_roundw
        case rel =>
          have h1 := HR.out.p.setC (lo + 1)
          refine ⟨j + 1, by omega, by go_num, ⟨?_, by rw [HM.out]; exact own_set HR.out.l P 258 (fun hmm => by have := HR.out.n P hmm; have := HPL.out; omega) _, HR.out.k.set P 258 (.inl (by simp)) _, HR.out.n, HR.out.s⟩⟩
          rw [HM.out, show x.lost + (((j + 1 : Nat) : Int) - ((kp true f t x.ls j).length : Int)) = lo + 1 by have := HLO.out; omega]
          exact h1
        case measure => simp [intOf]; omega
    · obtain rfl : j = x.ls.length := by omega
      have hsl := hr.s
      have HF := Lib.hid hr
      clear hr hv
      obtain ⟨up, un, uc⟩ := hsl
      go_wp2
      go_ret
      exact ⟨rfl, _, by simpa using (HF.out.fin HPL.out).1, (HF.out.fin HPL.out).2⟩
set_option maxHeartbeats 4000000 in
theorem rcut_no {w : World} {P : Nat} {v : Value} {x : Wn} (h : WAt 49 36 w P v x) (a b : Int) (ob : Bool) (hl : linkB x.n a b = false) :
    Calls Try.prog 16 #[.pointer (some ⟨P, 0, none⟩), .int .i64 a, .int .i64 b, .bool ob] w fun e w' => e = .returned (.int .i64 1) ∧ ∃ u, WAt 49 36 w' P u x ∧ Stp (wfp P v) (wfp P u) w w' := by
  have HL := Lib.hid hl
  have H := Lib.hid h
  have c0 := h.c0
  clear hl h
  go_enter Try.func16, Try.ntmps16
  go_wp2_with (go_at_call 26; (with_reducible refine (rlink_any c0 a b).mono ?_); rw [HL.out]; rintro e1 w1 ⟨rfl, hw1⟩; obtain rfl := hw1.symm)
  go_ret
  exact ⟨rfl, v, H.out, Stp.refl _ _⟩
/-- The reference cuts a link, or mends it. -/
theorem rcut_any {w : World} {P : Nat} {v : Value} {x : Wn} (h : WAt 49 36 w P v x) (hm : x.ls.length ≤ 1000) (hc0 : 0 ≤ x.lost) (hc1 : x.lost ≤ 900000) (hn : x.n ≤ 16) (a b : Int) (o : Bool) :
    Calls Try.prog 16 #[.pointer (some ⟨P, 0, none⟩), .int .i64 a, .int .i64 b, .bool o] w fun e w' => e = .returned (.int .i64 (cutE x.n a b)) ∧ ∃ u, WAt 49 36 w' P u (x.cut a b o) ∧ Stp (wfp P v) (wfp P u) w w' := by
  cases hl : linkB x.n a b
  · have e1 : cutE x.n a b = 1 := by simp [cutE, hl]
    have e2 : x.cut a b o = x := by simp [Wn.cut, hl]
    rw [e1, e2]
    exact rcut_no h a b o hl
  · have hh : 0 ≤ a ∧ a < x.n ∧ 0 ≤ b ∧ b < x.n ∧ a ≠ b := by simpa [linkB] using hl
    obtain ⟨f, rfl⟩ := Int.eq_ofNat_of_zero_le hh.1
    obtain ⟨t, rfl⟩ := Int.eq_ofNat_of_zero_le hh.2.2.1
    have hf : f < 16 := by omega
    have ht : t < 16 := by omega
    have e1 : cutE x.n f t = 0 := by simp [cutE, hl]
    rw [e1]
    cases o
    · have e2 : x.cut f t false = { x with out := outSet x.out f t false } := by simp [Wn.cut, hl]
      rw [e2]
      have e := cut_roff h hm hc0 hc1 f t hf ht hl
      simpa [kp] using e
    · have e2 : x.cut f t true = { x with out := outSet x.out f t true, ls := keepL f t x.ls, lost := x.lost + ((x.ls.length : Int) - ((keepL f t x.ls).length : Int)) } := by simp [Wn.cut, hl]
      rw [e2]
      have e := cut_ron h hm hc0 hc1 f t hf ht hl
      simpa [kp] using e
end Go.Proofs.Ytppjjbhbbnnpgaa
