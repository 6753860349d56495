/- The reference's Check, To and Rises of a way. No condition. -/
import Derived.Test.YtfmnbkcjibhloaaChk3
namespace Go.Proofs.Ytfmnbkcjibhloaa
open Go.RowKit
set_option linter.unusedVariables false
set_option linter.unusedSimpArgs false
theorem chk_gr {p : Pa} (hd : dpt p = false) {t : Nat} {x : Int} (h : p.al[t]? = some x ∨ p.ll[t]? = some x) (hg : gr x = true) : chk p = 1 := by
  have : (p.al.any gr || p.ll.any gr) = true := by
    rcases h with h | h
    · have : p.al.any gr = true := List.any_eq_true.2 ⟨x, List.mem_of_getElem? h, hg⟩
      simp [this]
    · have : p.ll.any gr = true := List.any_eq_true.2 ⟨x, List.mem_of_getElem? h, hg⟩
      simp [this]
  unfold chk
  rw [hd, this]; rfl
theorem chk_gr0 {p : Pa} (hA : ∀ (t : Nat) (x : Int), p.al[t]? = some x → gr x = false) (hL : ∀ (t : Nat) (x : Int), p.ll[t]? = some x → gr x = false) : (p.al.any gr || p.ll.any gr) = false := by
  have h1 : p.al.any gr = false := by
    rw [List.any_eq_false]; intro x hx
    obtain ⟨t, ht⟩ := List.getElem?_of_mem hx
    simp [hA t x ht]
  have h2 : p.ll.any gr = false := by
    rw [List.any_eq_false]; intro x hx
    obtain ⟨t, ht⟩ := List.getElem?_of_mem hx
    simp [hL t x ht]
  simp [h1, h2]
theorem chk_so {p : Pa} (hd : dpt p = false) (hg : (p.al.any gr || p.ll.any gr) = false) (h : ((p.al.drop (1 + p.k).toNat).any so || (p.ll.drop p.u.toNat).any so) = true) : chk p = 6 := by
  unfold chk
  rw [hd, hg, h]; rfl
theorem chk_ok {p : Pa} (hd : dpt p = false) (hg : (p.al.any gr || p.ll.any gr) = false) (h : ((p.al.drop (1 + p.k).toNat).any so || (p.ll.drop p.u.toNat).any so) = false) : chk p = 0 := by
  unfold chk
  rw [hd, hg, h]; rfl
theorem drop_yes (l : List Int) (n t : Nat) (x : Int) (hn : n ≤ t) (h : l[t]? = some x) (hs : so x = true) : (l.drop n).any so = true := by
  refine List.any_eq_true.2 ⟨x, ?_, hs⟩
  refine List.mem_of_getElem? (i := t - n) ?_
  rw [List.getElem?_drop, show n + (t - n) = t by omega]; exact h
theorem drop_no (l : List Int) (n : Nat) (h : ∀ (t : Nat) (x : Int), n ≤ t → l[t]? = some x → so x = false) : (l.drop n).any so = false := by
  rw [List.any_eq_false]; intro x hx
  obtain ⟨t, ht⟩ := List.getElem?_of_mem hx
  rw [List.getElem?_drop] at ht
  simp [h _ x (by omega) ht]
theorem rowA {w : World} {b T : Nat} {p : Pa} (h : Row w b #[.int .i64 p.f, .int .i64 p.k, .int .u32 p.a0, .int .u32 p.a1, .int .u32 p.a2, .int .u32 p.a3, .int .i64 p.u, .int .u32 p.l0, .int .u32 p.l1, .int .u32 p.l2] T) (j : Nat) (x : Int) (hx : p.al[j]? = some x) : w.cell? ⟨b, 2 + j, none⟩ = some (.int .u32 x) := by
  refine h.cell _ _ ?_
  rcases j with _ | _ | _ | _ | j
  · cases hx; rfl
  · cases hx; rfl
  · cases hx; rfl
  · cases hx; rfl
  · cases hx
theorem rowL {w : World} {b T : Nat} {p : Pa} (h : Row w b #[.int .i64 p.f, .int .i64 p.k, .int .u32 p.a0, .int .u32 p.a1, .int .u32 p.a2, .int .u32 p.a3, .int .i64 p.u, .int .u32 p.l0, .int .u32 p.l1, .int .u32 p.l2] T) (j : Nat) (x : Int) (hx : p.ll[j]? = some x) : w.cell? ⟨b, 7 + j, none⟩ = some (.int .u32 x) := by
  refine h.cell _ _ ?_
  rcases j with _ | _ | _ | j
  · cases hx; rfl
  · cases hx; rfl
  · cases hx; rfl
  · cases hx
set_option maxHeartbeats 1000000 in
theorem rcheck_depth (f k a0 a1 a2 a3 u l0 l1 l2 : Int) (w : World) (h : dpt ⟨f, k, a0, a1, a2, a3, u, l0, l1, l2⟩ = true) :
    Calls Try.prog 24 #[.agg #[.int .i64 f, .int .i64 k, .int .u32 a0, .int .u32 a1, .int .u32 a2, .int .u32 a3, .int .i64 u, .int .u32 l0, .int .u32 l1, .int .u32 l2]] w fun e w' => e = .returned (.int .i64 10) ∧ Below w.heap.size w w' := by
  have hn : f < 0 ∨ 3 < f ∨ k < 0 ∨ f < k ∨ u < 0 ∨ 3 - k < u := by
    simp [dpt] at h; omega
  clear h
  by_cases g0 : f < 0
  · clear hn
    go_enter Try.func24, Try.ntmps24
    go_wp2
    go_ret
    exact ⟨rfl, below_new _ _⟩
  by_cases g1 : 3 < f
  · clear hn
    go_enter Try.func24, Try.ntmps24
    go_wp2
    go_ret
    exact ⟨rfl, below_new _ _⟩
  by_cases g2 : k < 0
  · clear hn
    go_enter Try.func24, Try.ntmps24
    go_wp2
    go_ret
    exact ⟨rfl, below_new _ _⟩
  by_cases g3 : f < k
  · clear hn
    go_enter Try.func24, Try.ntmps24
    go_wp2
    go_ret
    exact ⟨rfl, below_new _ _⟩
  by_cases g4 : u < 0
  · clear hn
    go_enter Try.func24, Try.ntmps24
    go_wp2
    go_ret
    exact ⟨rfl, below_new _ _⟩
  have g5 : 3 - k < u := by omega
  clear hn
  go_enter Try.func24, Try.ntmps24
  go_wp2
  go_ret
  exact ⟨rfl, below_new _ _⟩
set_option maxHeartbeats 2000000 in
theorem rcheck_rest (p : Pa) (w : World) (hd : dpt p = false) :
    Calls Try.prog 24 #[.agg #[.int .i64 p.f, .int .i64 p.k, .int .u32 p.a0, .int .u32 p.a1, .int .u32 p.a2, .int .u32 p.a3, .int .i64 p.u, .int .u32 p.l0, .int .u32 p.l1, .int .u32 p.l2]] w fun e w' => e = .returned (.int .i64 (chk p)) ∧ Below w.heap.size w w' := by
  obtain ⟨h1, h2, h3, h4, h5, h6⟩ := dpt_no hd
  obtain ⟨k, hk⟩ := Int.eq_ofNat_of_zero_le h3
  obtain ⟨u, hu⟩ := Int.eq_ofNat_of_zero_le h5
  have HK := Lib.hid hk
  have HU := Lib.hid hu
  have HD := Lib.hid hd
  have hk3 : k ≤ 3 := by omega
  have hu3 : u ≤ 3 - k := by omega
  clear hk hu hd
  go_enter Try.func24, Try.ntmps24
  go_upto_region 1 with (fail)
  have hr : Row (w.alloc (.cells #[.int .i64 p.f, .int .i64 p.k, .int .u32 p.a0, .int .u32 p.a1, .int .u32 p.a2, .int .u32 p.a3, .int .i64 p.u, .int .u32 p.l0, .int .u32 p.l1, .int .u32 p.l2] 30)) w.heap.size #[.int .i64 p.f, .int .i64 p.k, .int .u32 p.a0, .int .u32 p.a1, .int .u32 p.a2, .int .u32 p.a3, .int .i64 p.u, .int .u32 p.l0, .int .u32 p.l1, .int .u32 p.l2] 30 := Row.new _ _ _
  have hbw := below_new w (.cells #[.int .i64 p.f, .int .i64 p.k, .int .u32 p.a0, .int .u32 p.a1, .int .u32 p.a2, .int .u32 p.a3, .int .i64 p.u, .int .u32 p.l0, .int .u32 p.l1, .int .u32 p.l2] 30)
  generalize w.alloc (.cells #[.int .i64 p.f, .int .i64 p.k, .int .u32 p.a0, .int .u32 p.a1, .int .u32 p.a2, .int .u32 p.a3, .int .i64 p.u, .int .u32 p.l0, .int .u32 p.l1, .int .u32 p.l2] 30) = wc at hr hbw ⊢
  generalize w.heap.size = b at hr ⊢
  have RA := Lib.hid (rowA hr)
  have RL := Lib.hid (rowL hr)
  obtain ⟨c0, c1, _, _, _, _, c6, _, _, _, cf⟩ := hr.ten'
  rw [HK.out] at c1 h3 h4 h6
  rw [HU.out] at c6 h5 h6
  have d1 : decide (p.f < 0) = false := by simp; omega
  have d2 : decide (3 < p.f) = false := by simp; omega
  have d3 : decide ((k : Int) < 0) = false := decide_eq_false (by omega)
  have d4 : decide (p.f < (k : Int)) = false := by simp; omega
  have d5 : decide ((u : Int) < 0) = false := decide_eq_false (by omega)
  have d6 : decide (3 - (k : Int) < (u : Int)) = false := by simp; omega
  go_wp2
  clear d1 d2 d3 d4 d5 d6
  go_loop [3] (fun i => ∃ j : Nat, j ≤ 4 ∧ i = .int .i64 j ∧ Hid (∀ t, t < j → (∀ x, p.al[t]? = some x → gr x = false) ∧ (∀ x, p.ll[t]? = some x → gr x = false))) (fun i => 4 - (intOf i).toNat)
  case atStart => exact ⟨0, by omega, rfl, fun t ht => absurd ht (Nat.not_lt_zero _)⟩
  case round =>
    obtain ⟨j, hj, rfl, hno⟩ := hrel
    by_cases hj4 : j < 4
    · obtain ⟨x, hx⟩ : ∃ x, p.al[j]? = some x := by
        have : j < p.al.length := by simpa [Pa.al] using hj4
        exact ⟨_, List.getElem?_eq_getElem this⟩
      have ca := RA.out j x hx
      have HX := Lib.hid hx
      clear hx
      by_cases gx : 1048576 < x
      · have hc := chk_gr HD.out (.inl HX.out) (show gr x = true by simp [gr, gx])
        have HC := Lib.hid hc
        clear hc
        go_wp2
        go_ret
        exact ⟨by rw [HC.out]; rfl, hbw⟩
      · by_cases hj3 : j < 3
        · obtain ⟨y, hy⟩ : ∃ y, p.ll[j]? = some y := by
            have : j < p.ll.length := by simpa [Pa.ll] using hj3
            exact ⟨_, List.getElem?_eq_getElem this⟩
          have cl := RL.out j y hy
          have HY := Lib.hid hy
          clear hy
          have hj3' : decide ((j : Int) < 3) = true := by simp; omega
          by_cases gy : 1048576 < y
          · have hc := chk_gr HD.out (.inr HY.out) (show gr y = true by simp [gr, gy])
            have HC := Lib.hid hc
            clear hc
            go_wp2
            go_ret
            exact ⟨by rw [HC.out]; rfl, hbw⟩
          · have hnx : Hid (∀ t, t < j + 1 → (∀ x, p.al[t]? = some x → gr x = false) ∧ (∀ x, p.ll[t]? = some x → gr x = false)) := by
              intro t ht
              by_cases e : t = j
              · subst e
                exact ⟨fun z hz => by rw [HX.out] at hz; cases hz; exact decide_eq_false gx, fun z hz => by rw [HY.out] at hz; cases hz; exact decide_eq_false gy⟩
              · exact hno t (by omega)
            clear hno
            go_wp2
            go_round
            case rel => exact ⟨j + 1, by omega, by go_num, hnx⟩
            case measure => simp [intOf]; omega
        · have hj3' : decide ((j : Int) < 3) = false := by simp; omega
          have hnx : Hid (∀ t, t < j + 1 → (∀ x, p.al[t]? = some x → gr x = false) ∧ (∀ x, p.ll[t]? = some x → gr x = false)) := by
            intro t ht
            by_cases e : t = j
            · subst e
              refine ⟨fun z hz => by rw [HX.out] at hz; cases hz; exact decide_eq_false gx, fun z hz => ?_⟩
              have : t < p.ll.length := by
                rcases Nat.lt_or_ge t p.ll.length with q | q
                · exact q
                · rw [List.getElem?_eq_none q] at hz; cases hz
              simp [Pa.ll] at this
              omega
            · exact hno t (by omega)
          clear hno
          go_wp2
          go_round
          case rel => exact ⟨j + 1, by omega, by go_num, hnx⟩
          case measure => simp [intOf]; omega
    · obtain rfl : j = 4 := by omega
      have hg : (p.al.any gr || p.ll.any gr) = false := by
        refine chk_gr0 (fun t x hx => (hno t ?_).1 x hx) (fun t x hx => (hno t ?_).2 x hx)
        · rcases Nat.lt_or_ge t 4 with q | q
          · exact q
          · rw [List.getElem?_eq_none (by simpa [Pa.al] using q)] at hx; cases hx
        · rcases Nat.lt_or_ge t 4 with q | q
          · exact q
          · rw [List.getElem?_eq_none (by simp [Pa.ll]; omega)] at hx; cases hx
      have HG := Lib.hid hg
      clear hg hno
      go_wp2
      go_loop [4] (fun i => ∃ j : Nat, k + 1 ≤ j ∧ j ≤ 4 ∧ i = .int .i64 j ∧ Hid (∀ t, k + 1 ≤ t → t < j → ∀ x, p.al[t]? = some x → so x = false)) (fun i => 4 - (intOf i).toNat)
      case atStart => exact ⟨k + 1, by omega, by omega, by go_num, fun t h1 h2 => absurd h2 (by omega)⟩
      case round =>
        obtain ⟨j, hkj, hj, rfl, hno⟩ := hrel
        by_cases hj4 : j < 4
        · obtain ⟨x, hx⟩ : ∃ x, p.al[j]? = some x := by
            have : j < p.al.length := by simpa [Pa.al] using hj4
            exact ⟨_, List.getElem?_eq_getElem this⟩
          have ca := RA.out j x hx
          have HX := Lib.hid hx
          clear hx
          by_cases gx : x = 0
          · have hnx : Hid (∀ t, k + 1 ≤ t → t < j + 1 → ∀ x, p.al[t]? = some x → so x = false) := by
              intro t ht1 ht z hz
              by_cases e : t = j
              · subst e; rw [HX.out] at hz; cases hz; subst gx; rfl
              · exact hno t ht1 (by omega) z hz
            clear hno HX
            subst gx
            go_wp2
            go_round
            case rel => exact ⟨j + 1, by omega, by omega, by go_num, hnx⟩
            case measure => simp [intOf]; omega
          · have hs : so x = true := by simp [so, gx]
            have hc : chk p = 6 := chk_so HD.out HG.out (by rw [drop_yes _ _ j x (by rw [HK.out]; omega) HX.out hs]; rfl)
            have HC := Lib.hid hc
            have gx2 : (x != 0) = true := by simp [gx]
            clear hc hs hno gx
            go_wp2
            go_ret
            exact ⟨by rw [HC.out]; rfl, hbw⟩
        · obtain rfl : j = 4 := by omega
          have hg1 : (p.al.drop (1 + p.k).toNat).any so = false := by
            refine drop_no _ _ (fun t x ht hx => hno t (by rw [HK.out] at ht; omega) ?_ x hx)
            rcases Nat.lt_or_ge t 4 with q | q
            · exact q
            · rw [List.getElem?_eq_none (by simpa [Pa.al] using q)] at hx; cases hx
          have HG1 := Lib.hid hg1
          clear hg1 hno
          go_wp2
          go_loop [5] (fun i => ∃ j : Nat, u ≤ j ∧ j ≤ 3 ∧ i = .int .i64 j ∧ Hid (∀ t, u ≤ t → t < j → ∀ x, p.ll[t]? = some x → so x = false)) (fun i => 3 - (intOf i).toNat)
          case atStart => exact ⟨u, by omega, by omega, rfl, fun t h1 h2 => absurd h2 (by omega)⟩
          case round =>
            obtain ⟨j, huj, hj, rfl, hno⟩ := hrel
            by_cases hj3 : j < 3
            · obtain ⟨x, hx⟩ : ∃ x, p.ll[j]? = some x := by
                have : j < p.ll.length := by simpa [Pa.ll] using hj3
                exact ⟨_, List.getElem?_eq_getElem this⟩
              have ca := RL.out j x hx
              have HX := Lib.hid hx
              clear hx
              by_cases gx : x = 0
              · have hnx : Hid (∀ t, u ≤ t → t < j + 1 → ∀ x, p.ll[t]? = some x → so x = false) := by
                  intro t ht1 ht z hz
                  by_cases e : t = j
                  · subst e; rw [HX.out] at hz; cases hz; subst gx; rfl
                  · exact hno t ht1 (by omega) z hz
                clear hno HX
                subst gx
                go_wp2
                go_round
                case rel => exact ⟨j + 1, by omega, by omega, by go_num, hnx⟩
                case measure => simp [intOf]; omega
              · have hs : so x = true := by simp [so, gx]
                have hc : chk p = 6 := chk_so HD.out HG.out (by rw [HG1.out, drop_yes p.ll _ j x (by rw [HU.out]; omega) HX.out hs]; rfl)
                have HC := Lib.hid hc
                have gx2 : (x != 0) = true := by simp [gx]
                clear hc hs hno gx
                go_wp2
                go_ret
                exact ⟨by rw [HC.out]; rfl, hbw⟩
            · obtain rfl : j = 3 := by omega
              have hg2 : (p.ll.drop p.u.toNat).any so = false := by
                refine drop_no _ _ (fun t x ht hx => hno t (by rw [HU.out] at ht; omega) ?_ x hx)
                rcases Nat.lt_or_ge t 3 with q | q
                · exact q
                · rw [List.getElem?_eq_none (by simpa [Pa.ll] using q)] at hx; cases hx
              have hc : chk p = 0 := chk_ok HD.out HG.out (by rw [HG1.out, hg2]; rfl)
              have HC := Lib.hid hc
              clear hc hg2 hno
              go_wp2
              go_ret
              exact ⟨by rw [HC.out]; rfl, hbw⟩
theorem rcheck_any (p : Pa) (w : World) : Calls Try.prog 24 #[.agg #[.int .i64 p.f, .int .i64 p.k, .int .u32 p.a0, .int .u32 p.a1, .int .u32 p.a2, .int .u32 p.a3, .int .i64 p.u, .int .u32 p.l0, .int .u32 p.l1, .int .u32 p.l2]] w fun e w' => e = .returned (.int .i64 (chk p)) ∧ Below w.heap.size w w' := by
  rcases hd : dpt p with _ | _
  · exact rcheck_rest p w hd
  · have hc : chk p = 10 := by simp [chk, hd]
    rw [hc]
    exact rcheck_depth _ _ _ _ _ _ _ _ _ _ w hd
theorem rto_any (p : Pa) (w : World) : Calls Try.prog 26 #[.agg #[.int .i64 p.f, .int .i64 p.k, .int .u32 p.a0, .int .u32 p.a1, .int .u32 p.a2, .int .u32 p.a3, .int .i64 p.u, .int .u32 p.l0, .int .u32 p.l1, .int .u32 p.l2]] w fun e w' => e = .returned (.int .i64 (toR p)) ∧ Below w.heap.size w w' := by
  by_cases hc : chk p = 0
  · have hx : toR p = p.k + p.u := by simp [toR, hc]
    rw [hx]
    obtain ⟨h1, h2, h3, h4, h5, h6⟩ := dpt_no (chk_0 hc)
    have HC := Lib.hid hc
    clear hc hx
    go_enter Try.func26, Try.ntmps26
    go_wp2_with (go_at_call 24; refine (rcheck_any p _).mono ?_; rw [HC.out]; rintro e w1 ⟨rfl, hb⟩; obtain ⟨c0, c1, c2, c3, c4, c5, c6, c7, c8, c9, cf⟩ := ((Row.new w _ 30).below hb).ten')
    go_ret
    exact ⟨rfl, (below_new w _).trans (hb.mono (by simp))⟩
  · have hx : toR p = 0 := by simp [toR, hc]
    rw [hx]
    have hne : (chk p == 0) = false := by simp [hc]
    obtain ⟨c, hcc⟩ : ∃ c, chk p = c := ⟨_, rfl⟩
    rw [hcc] at hne
    have HC := Lib.hid hcc
    clear hc hx hcc
    go_enter Try.func26, Try.ntmps26
    go_wp2_with (go_at_call 24; refine (rcheck_any p _).mono ?_; rw [HC.out]; rintro e w1 ⟨rfl, hb⟩)
    go_ret
    exact ⟨rfl, (below_new w _).trans (hb.mono (by simp))⟩
/-- A count that is a uint32. -/
def U32 (n : Int) : Prop := 0 ≤ n ∧ n ≤ 4294967295
def PaOk (p : Pa) : Prop := U32 p.a0 ∧ U32 p.a1 ∧ U32 p.a2 ∧ U32 p.a3 ∧ U32 p.l0 ∧ U32 p.l1 ∧ U32 p.l2
theorem PaOk.al {p : Pa} (h : PaOk p) {j : Nat} {x : Int} (hx : p.al[j]? = some x) : U32 x := by
  obtain ⟨h0, h1, h2, h3, _⟩ := h
  rcases j with _ | _ | _ | _ | j
  · cases hx; exact h0
  · cases hx; exact h1
  · cases hx; exact h2
  · cases hx; exact h3
  · cases hx
theorem PaOk.ll {p : Pa} (h : PaOk p) {j : Nat} {x : Int} (hx : p.ll[j]? = some x) : U32 x := by
  obtain ⟨_, _, _, _, h0, h1, h2⟩ := h
  rcases j with _ | _ | _ | j
  · cases hx; exact h0
  · cases hx; exact h1
  · cases hx; exact h2
  · cases hx
set_option maxHeartbeats 1000000 in
theorem rrises_all (f k a0 a1 a2 a3 u l0 l1 l2 : Int) (w : World) (hok : PaOk ⟨f, k, a0, a1, a2, a3, u, l0, l1, l2⟩) : Calls Try.prog 28 #[.agg #[.int .i64 f, .int .i64 k, .int .u32 a0, .int .u32 a1, .int .u32 a2, .int .u32 a3, .int .i64 u, .int .u32 l0, .int .u32 l1, .int .u32 l2]] w fun e w' => e = .returned (.bool (risesR ⟨f, k, a0, a1, a2, a3, u, l0, l1, l2⟩)) ∧ Below w.heap.size w w' := by
  by_cases hc : chk ⟨f, k, a0, a1, a2, a3, u, l0, l1, l2⟩ = 0
  · by_cases h1 : k = f
    · subst h1
      by_cases h2 : u = 0
      · subst h2
        have hx : risesR ⟨k, k, a0, a1, a2, a3, 0, l0, l1, l2⟩ = (!(a0 == 0) || (!(a1 == 0) || (!(a2 == 0) || !(a3 == 0)))) := by simp [risesR, hc]
        rw [hx]
        have HC := Lib.hid hc
        clear hc hx
        go_enter Try.func28, Try.ntmps28
        go_upto_region 3 with (go_at_call 24; refine (rcheck_any ⟨k, k, a0, a1, a2, a3, 0, l0, l1, l2⟩ _).mono ?_; rw [HC.out]; rintro e w1 ⟨rfl, hb⟩; obtain ⟨c0, c1, c2, c3, c4, c5, c6, c7, c8, c9, cf⟩ := ((Row.new w _ 30).below hb).ten)
        have hb0 : Below w.heap.size w w1 := (below_new w _).trans (hb.mono (by simp))
        have RA := Lib.hid (rowA (p := ⟨k, k, a0, a1, a2, a3, 0, l0, l1, l2⟩) ((Row.new w _ 30).below hb))
        clear hb c0 c1 c2 c3 c4 c5 c6 c7 c8 c9 cf
        obtain ⟨b, hbb⟩ : ∃ b, w.heap.size = b := ⟨_, rfl⟩
        rw [hbb] at RA ⊢
        clear hbb
        have OK := Lib.hid hok
        clear hok
        go_wp2
        go_loop [3] (fun i => ∃ j : Nat, j ≤ 4 ∧ i = .int .i64 j ∧ Hid (∀ t x, t < j → [a0, a1, a2, a3][t]? = some x → x = 0)) (fun i => 4 - (intOf i).toNat)
        case atStart => exact ⟨0, by omega, rfl, fun t x ht => absurd ht (Nat.not_lt_zero _)⟩
        case round =>
          obtain ⟨j, hj, rfl, hno⟩ := hrel
          by_cases hj4 : j < 4
          · obtain ⟨x, hx⟩ : ∃ x, [a0, a1, a2, a3][j]? = some x := by
              have : j < [a0, a1, a2, a3].length := by simpa using hj4
              exact ⟨_, List.getElem?_eq_getElem this⟩
            have ca := RA.out j x hx
            obtain ⟨u0, u1⟩ := OK.out.al hx
            have HX := Lib.hid hx
            clear hx
            by_cases gx : 0 < x
            · have hres : (!(a0 == 0) || (!(a1 == 0) || (!(a2 == 0) || !(a3 == 0)))) = true := by
                have hx := HX.out
                rcases j with _ | _ | _ | _ | j
                · cases hx; simp; omega
                · cases hx; simp; omega
                · cases hx; simp; omega
                · cases hx; simp; omega
                · cases hx
              have HC2 := Lib.hid hres
              clear hres hno
              go_wp2
              go_ret
              exact ⟨by rw [HC2.out]; rfl, hb0⟩
            · have hnx : Hid (∀ t x, t < j + 1 → [a0, a1, a2, a3][t]? = some x → x = 0) := by
                intro t z ht hz
                by_cases e : t = j
                · subst e; rw [HX.out] at hz; cases hz; omega
                · exact hno t z (by omega) hz
              clear hno
              go_wp2
              go_round
              case rel => exact ⟨j + 1, by omega, by go_num, hnx⟩
              case measure => simp [intOf]; omega
          · obtain rfl : j = 4 := by omega
            have hres : (!(a0 == 0) || (!(a1 == 0) || (!(a2 == 0) || !(a3 == 0)))) = false := by
              rw [hno 0 a0 (by omega) rfl, hno 1 a1 (by omega) rfl, hno 2 a2 (by omega) rfl, hno 3 a3 (by omega) rfl]; rfl
            have HC2 := Lib.hid hres
            clear hres hno
            go_wp2
            go_ret
            exact ⟨by rw [HC2.out]; rfl, hb0⟩
      · have hx : risesR ⟨k, k, a0, a1, a2, a3, u, l0, l1, l2⟩ = false := by simp [risesR, h2]
        rw [hx]
        have h3 : (u == 0) = false := by simp [h2]
        have h3' : (u != 0) = true := by simp [h2]
        have HC := Lib.hid hc
        clear hc hx h2
        go_enter Try.func28, Try.ntmps28
        go_wp2_with (go_at_call 24; refine (rcheck_any ⟨k, k, a0, a1, a2, a3, u, l0, l1, l2⟩ _).mono ?_; rw [HC.out]; rintro e w1 ⟨rfl, hb⟩; obtain ⟨c0, c1, c2, c3, c4, c5, c6, c7, c8, c9, cf⟩ := ((Row.new w _ 30).below hb).ten)
        go_ret
        exact ⟨rfl, (below_new w _).trans (hb.mono (by simp))⟩
    · have hx : risesR ⟨f, k, a0, a1, a2, a3, u, l0, l1, l2⟩ = false := by simp [risesR, h1]
      rw [hx]
      have h3 : (k == f) = false := by simp [h1]
      have h3' : (k != f) = true := by simp [h1]
      have HC := Lib.hid hc
      clear hc hx h1
      go_enter Try.func28, Try.ntmps28
      go_wp2_with (go_at_call 24; refine (rcheck_any ⟨f, k, a0, a1, a2, a3, u, l0, l1, l2⟩ _).mono ?_; rw [HC.out]; rintro e w1 ⟨rfl, hb⟩; obtain ⟨c0, c1, c2, c3, c4, c5, c6, c7, c8, c9, cf⟩ := ((Row.new w _ 30).below hb).ten)
      go_ret
      exact ⟨rfl, (below_new w _).trans (hb.mono (by simp))⟩
  · have hx : risesR ⟨f, k, a0, a1, a2, a3, u, l0, l1, l2⟩ = false := by simp [risesR, hc]
    rw [hx]
    have hne : (chk ⟨f, k, a0, a1, a2, a3, u, l0, l1, l2⟩ == 0) = false := by simp [hc]
    obtain ⟨c, hcc⟩ : ∃ c, chk ⟨f, k, a0, a1, a2, a3, u, l0, l1, l2⟩ = c := ⟨_, rfl⟩
    rw [hcc] at hne
    have hne2 : (c != 0) = true := by simpa using hne
    have HC := Lib.hid hcc
    clear hc hx hcc
    go_enter Try.func28, Try.ntmps28
    go_wp2_with (go_at_call 24; refine (rcheck_any ⟨f, k, a0, a1, a2, a3, u, l0, l1, l2⟩ _).mono ?_; rw [HC.out]; rintro e w1 ⟨rfl, hb⟩; obtain ⟨c0, c1, c2, c3, c4, c5, c6, c7, c8, c9, cf⟩ := ((Row.new w _ 30).below hb).ten)
    go_ret
    exact ⟨rfl, (below_new w _).trans (hb.mono (by simp))⟩
end Go.Proofs.Ytfmnbkcjibhloaa
