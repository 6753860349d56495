/- BeatFinds: who is heard of often enough is never taken for dead; who is heard of no more is, behind as many ticks, and stays so. Condition: none but that the slice lies in memory as it was read. THE WALK. -/
import Derived.Test.YtioeahmimcnjpaaBeats
namespace Go.Proofs.Ytioeahmimcnjpaa
open Go.RowKit
set_option linter.unusedVariables false
set_option linter.unusedSimpArgs false

/-- A slice that came in holds these numbers. -/
def GIn (w : World) (a : Option Addr) (len : Nat) (zs : List Int) : Prop := len ≤ maxLen ∧ (0 < len → ∃ b o, a = some ⟨b, o, none⟩ ∧ b < w.heap.size ∧ ∀ i, i < len → w.cell? ⟨b, o + i, none⟩ = some (.int .i64 (zs.getD i 0)))
theorem GIn.at {w : World} {a : Option Addr} {len : Nat} {zs : List Int} (h : GIn w a len zs) {i : Nat} (hi : i < len) : ∃ b o z, a = some ⟨b, o, none⟩ ∧ ∀ w', Below w.heap.size w w' → w'.cell? ⟨b, o + i, none⟩ = some (.int .i64 z) := by
  obtain ⟨b, o, e, hlt, hc⟩ := h.2 (by omega)
  exact ⟨b, o, _, e, fun w' hb => by rw [World.cell?_of_block (w := w) (hb.block b hlt)]; exact hc i hi⟩

theorem gin_nil (w : World) : GIn w none 0 [] := ⟨by unfold maxLen; omega, fun h => absurd h (by omega)⟩
theorem gin_of {w : World} {x : Addr} {len cap : Nat} {zs : List Int} (hl : len ≤ cap) (hm : cap ≤ maxLen) (hz : zs.length = cap) (hc : ∀ i, i < zs.length → w.cell? (x.add i) = some (.int .i64 (zs.getD i 0))) : GIn w (some x) len zs := by
  refine ⟨Nat.le_trans hl hm, fun hp => ?_⟩
  have h0 := hc 0 (by omega)
  obtain ⟨b, o, s⟩ := x
  have hs : s = none := by
    cases s with
    | none => rfl
    | some s =>
      simp only [Addr.add, World.cell?] at h0
      split at h0
      · simp at h0
      · cases h0
  subst hs
  have hb : b < w.heap.size := by
    rcases Nat.lt_or_ge b w.heap.size with q | q
    · exact q
    · simp only [Addr.add, World.cell?] at h0
      simp [Array.getElem?_eq_none q] at h0
  refine ⟨b, o, rfl, hb, fun i hi => ?_⟩
  have := hc i (by omega)
  by_cases e : i = 0
  · subst e; simpa [Addr.add] using this
  · simpa [Addr.add, e] using this

/-- What the law keeps of the numbers: how many, what the one asked for and the detector itself have, the bounds. -/
structure FI (xs : List Int) (n wh : Nat) (lim c : Int) : Prop where
  len : xs.length = n
  at_wh : xs[wh]? = some c
  at_0 : xs[0]? = some 0
  bd : ∀ (i : Nat) (x : Int), xs[i]? = some x → 0 ≤ x ∧ x ≤ lim
theorem FI.small {xs : List Int} {n wh : Nat} {lim c : Int} (h : FI xs n wh lim c) (hl : lim ≤ 1000) : ∀ i (hi : i < xs.length), 0 ≤ xs[i] ∧ xs[i] ≤ 1000000 := by
  intro i hi
  have := h.bd i xs[i] (List.getElem?_eq_getElem hi)
  omega
theorem tickL_get (me limit : Int) (xs : List Int) (i : Nat) : (tickL me limit xs)[i]? = (xs[i]?).map fun x => if (i : Int) ≠ me then (if limit < x + 1 then limit else x + 1) else x := by
  unfold tickL tickN
  rw [List.getElem?_mapIdx]
  cases h : xs[i]? with
  | none => rfl
  | some x =>
    have : i < xs.length := by
      rcases Nat.lt_or_ge i xs.length with q | q
      · exact q
      · rw [List.getElem?_eq_none q] at h; cases h
    simp [this]
theorem FI.tick {xs : List Int} {n wh : Nat} {lim c : Int} (h : FI xs n wh lim c) (hw : 0 < wh) (hl : 0 ≤ lim) : FI (tickL 0 lim xs) n wh lim (if lim < c + 1 then lim else c + 1) := by
  refine ⟨by rw [← h.len]; exact tickN_len _ _ _ _, ?_, ?_, ?_⟩
  · rw [tickL_get, h.at_wh]; simp; omega
  · rw [tickL_get, h.at_0]; simp
  · intro i x hx
    rw [tickL_get] at hx
    cases hi : xs[i]? with
    | none => rw [hi] at hx; cases hx
    | some y =>
      rw [hi] at hx
      have hb := h.bd i y hi
      simp only [Option.map_some, Option.some.injEq] at hx
      subst hx
      split
      · split <;> omega
      · exact hb
theorem FI.inR {xs : List Int} {n wh : Nat} {lim c : Int} (h : FI xs n wh lim c) (hw : wh < n) : inR (wh : Int) xs.length = true := by
  simp [Ytioeahmimcnjpaa.inR, h.len]; omega
theorem FI.heard {xs : List Int} {n wh : Nat} {lim c : Int} (h : FI xs n wh lim c) (hw : 0 < wh) (hn : wh < n) (hl : 0 ≤ lim) : FI (heardR xs wh) n wh lim 0 := by
  unfold heardR
  rw [if_pos (h.inR hn)]
  have hlen := h.len
  refine ⟨by simpa using h.len, ?_, ?_, ?_⟩
  · simp [List.getElem?_set]; omega
  · rw [List.getElem?_set, if_neg (by omega)]; exact h.at_0
  · intro i x hx
    rw [List.getElem?_set] at hx
    by_cases e : (wh : Int).toNat = i
    · rw [if_pos e] at hx
      split at hx
      · cases hx; omega
      · cases hx
    · rw [if_neg e] at hx; exact h.bd i x hx
theorem FI.alive {xs : List Int} {n wh : Nat} {lim c : Int} (h : FI xs n wh lim c) (hn : wh < n) : aliveB xs lim wh = decide (c < lim) := by
  unfold aliveB at_
  rw [h.inR hn]
  simp [List.getD_eq_getElem?_getD, h.at_wh]
theorem FI.alive0 {xs : List Int} {n wh : Nat} {lim c : Int} (h : FI xs n wh lim c) (hn : 0 < n) (hl : 0 < lim) : aliveB xs lim 0 = true := by
  have h0 := h.at_0
  have hp : 0 < xs.length := by rw [h.len]; exact hn
  have e : xs.getD 0 0 = 0 := by rw [List.getD_eq_getElem?_getD, h0]; rfl
  unfold aliveB at_ Ytioeahmimcnjpaa.inR
  rw [show ((0 : Int).toNat) = 0 from rfl, e]
  simp [hp, hl]
theorem FI.silent {xs : List Int} {n wh : Nat} {lim c : Int} (h : FI xs n wh lim c) (hn : wh < n) : silentR xs wh = (c, 0) := by
  unfold silentR at_
  rw [if_pos (h.inR hn)]
  simp [List.getD_eq_getElem?_getD, h.at_wh]
theorem FI.start (n wh : Nat) (lim : Int) (h0 : 0 < wh) (h1 : wh < n) (hl : 0 ≤ lim) : FI (List.replicate n 0) n wh lim 0 := by
  refine ⟨by simp, ?_, ?_, ?_⟩
  · simp [List.getElem?_replicate]; omega
  · simp [List.getElem?_replicate]; omega
  · intro i x hx
    rw [List.getElem?_replicate] at hx
    split at hx
    · cases hx; omega
    · cases hx
/-- The detector, and what the law keeps of it. -/
def FDet (w0 w : World) (P S n wh : Nat) (lim c : Int) : Prop := ∃ xs left, Det w P S xs 0 5 lim left ∧ FI xs n wh lim c ∧ -100 ≤ left ∧ left ≤ 100 ∧ Below w0.heap.size w0 w ∧ w0.heap.size ≤ P ∧ w0.heap.size ≤ S
theorem FDet.below {w0 w : World} {P S n wh : Nat} {lim c : Int} (h : FDet w0 w P S n wh lim c) : Below w0.heap.size w0 w := by
  obtain ⟨_, _, _, _, _, _, hb, _⟩ := h; exact hb
theorem FDet.drewN {w0 w : World} {P S n wh : Nat} {lim c : Int} (h : FDet w0 w P S n wh lim c) (m : Nat) : FDet w0 (w.drewN m) P S n wh lim c := by
  obtain ⟨xs, left, h1, h2, h3, h4, h5, h6, h7⟩ := h
  exact ⟨xs, left, h1.drewN m, h2, h3, h4, ⟨h5.os, h5.tape, h5.output, h5.size, h5.block⟩, h6, h7⟩
theorem ftick {w0 w : World} {P S n wh : Nat} {lim c : Int} (h : FDet w0 w P S n wh lim c) (hw : 0 < wh) (hl0 : 0 ≤ lim) (hl : lim ≤ 1000) :
    Calls Try.prog 8 #[.pointer (some ⟨P, 0, none⟩)] w fun e w' => ∃ b, e = .returned (.bool b) ∧ FDet w0 w' P S n wh lim (if lim < c + 1 then lim else c + 1) := by
  obtain ⟨xs, left, h1, h2, h3, h4, h5, h6, h7⟩ := h
  refine (tick_any h1 (h2.small hl) (by omega) (by omega)).mono ?_
  rintro e w' ⟨rfl, hd, hk⟩
  refine ⟨_, rfl, _, _, hd, h2.tick hw hl0, ?_, ?_, h5.trans (hk.toBelow (by simp; exact ⟨h6, h7⟩) h5.size), h6, h7⟩ <;> (unfold tickLeft; split <;> omega)
theorem fheard {w0 w : World} {P S n wh : Nat} {lim c : Int} (h : FDet w0 w P S n wh lim c) (hw : 0 < wh) (hn : wh < n) (hl0 : 0 ≤ lim) :
    Calls Try.prog 12 #[.pointer (some ⟨P, 0, none⟩), .int .i64 wh] w fun e w' => ∃ er, e = .returned (.int .i64 er) ∧ FDet w0 w' P S n wh lim 0 := by
  obtain ⟨xs, left, h1, h2, h3, h4, h5, h6, h7⟩ := h
  refine (heard_any h1 wh).mono ?_
  rintro e w' ⟨rfl, hd, hk⟩
  exact ⟨_, rfl, _, _, hd, h2.heard hw hn hl0, h3, h4, h5.trans (hk.toBelow (by simp; exact ⟨h6, h7⟩) h5.size), h6, h7⟩
theorem falive {w0 w : World} {P S n wh : Nat} {lim c : Int} (h : FDet w0 w P S n wh lim c) (hn : wh < n) (b : Bool) (hb : decide (c < lim) = b) :
    Calls Try.prog 18 #[.pointer (some ⟨P, 0, none⟩), .int .i64 wh] w fun e w' => ∃ m, e = .returned (.bool b) ∧ w' = w.drewN m ∧ FDet w0 w' P S n wh lim c := by
  have h0 := h
  obtain ⟨xs, left, h1, h2, h3, h4, h5, h6, h7⟩ := h
  refine (alive_at h1 wh b (by rw [h2.alive hn, hb])).mono ?_
  rintro e w' ⟨rfl, m, rfl⟩
  exact ⟨m, rfl, rfl, h0.drewN m⟩
theorem fsilent {w0 w : World} {P S n wh : Nat} {lim c : Int} (h : FDet w0 w P S n wh lim c) (hn : wh < n) :
    Calls Try.prog 16 #[.pointer (some ⟨P, 0, none⟩), .int .i64 wh] w fun e w' => e = .returned (.tuple #[.int .i64 c, .int .i64 0]) ∧ w = w' := by
  obtain ⟨xs, left, h1, h2, h3, h4, h5, h6, h7⟩ := h
  have := silent_any h1 wh
  rw [h2.silent hn] at this
  exact this
theorem falive0 {w0 w : World} {P S n wh : Nat} {lim c : Int} (h : FDet w0 w P S n wh lim c) (hn : 0 < n) (hl : 0 < lim) :
    Calls Try.prog 18 #[.pointer (some ⟨P, 0, none⟩), .int .i64 0] w fun e w' => ∃ m, e = .returned (.bool true) ∧ w' = w.drewN m := by
  obtain ⟨xs, left, h1, h2, h3, h4, h5, h6, h7⟩ := h
  refine (alive_at h1 0 true (h2.alive0 hn hl)).mono ?_
  rintro e w' ⟨rfl, m, rfl⟩
  exact ⟨m, rfl, rfl⟩
theorem rem_nat' (a : Int) (m : Nat) (hm : 0 < m) : ∃ r : Nat, (IntKind.u64.wrap a).tmod m = (r : Int) ∧ r < m := by
  have h0 : 0 ≤ IntKind.u64.wrap a := by rw [IntKind.wrap_u64]; omega
  obtain ⟨u, hu⟩ := Int.eq_ofNat_of_zero_le h0
  rw [hu]
  exact ⟨u % m, rfl, Nat.mod_lt _ hm⟩
set_option maxHeartbeats 4000000 in
set_option maxRecDepth 100000 in
theorem finds_any (a b c : Int) (sa : Option Addr) (len cap : Nat) (zs : List Int) (w : World) (hg : GIn w sa len zs) :
    Calls Try.prog 5 #[.int .i64 a, .int .i64 b, .int .i64 c, .slice sa len cap] w fun e w' => e = .returned (.bool true) ∧ Below w.heap.size w w' := by
  have hml := hg.1
  unfold maxLen at hml
  have HG := Lib.hid hg
  clear hg
  go_enter Try.func5, Try.ntmps5
  go_upto_region 3 with (go_at_call 6; refine (works_any _).mono ?_; rintro e w0 ⟨rfl, hb0⟩)
  go_cut [0, 2] (fun v0 v2 wc => (∃ n : Nat, v0 = .int .i64 n ∧ 2 ≤ n ∧ n ≤ 8) ∧ (∃ lim : Nat, v2 = .int .i64 lim ∧ 1 ≤ lim ∧ lim ≤ 30) ∧ Below w.heap.size w wc)
  case first =>
    go_wp2_with fail
    go_meet
    case rel =>
      obtain ⟨r1, e1, l1⟩ := rem_nat a 7 (by omega) (by omega)
      obtain ⟨r2, e2, l2⟩ := rem_nat c 30 (by omega) (by omega)
      simp only [show ((7 : Nat) : Int) = 7 from rfl, show ((30 : Nat) : Int) = 30 from rfl] at e1 e2
      exact ⟨⟨r1 + 2, by rw [e1]; congr 1; unfold wrap64; omega, by omega, by omega⟩, ⟨r2 + 1, by rw [e2]; congr 1; unfold wrap64; omega, by omega, by omega⟩, hb0⟩
  case rest =>
  clear hb0
  obtain ⟨⟨n, rfl, n0, n1⟩, ⟨lim, rfl, l0, l1⟩, hb0⟩ := hcut
  go_upto_region 4 with (fail)
  go_cut [1] (fun v1 wc' => (∃ wh : Nat, v1 = .int .i64 wh ∧ 1 ≤ wh ∧ wh < n) ∧ Below w.heap.size w wc')
  case first =>
    have hne : ¬ ((n : Int) - 1 = 0) := by omega
    have hu : IntKind.u64.wrap ((n : Int) - 1) = ((n - 1 : Nat) : Int) := by rw [IntKind.wrap_u64]; omega
    have hu2 : ((n - 1 : Nat) : Int) = (n : Int) - 1 := by omega
    obtain ⟨r3, e3, l3⟩ := rem_nat b (n - 1) (by omega) (by omega)
    rw [hu2] at hu e3
    have E3 := Lib.hid e3
    clear e3 hu2
    go_wp2_with fail
    go_meet
    case rel =>
      exact ⟨⟨r3 + 1, by rw [E3.out]; congr 1; unfold wrap64; omega, by omega, by omega⟩, hb0⟩
  case rest =>
  clear hb0
  obtain ⟨⟨wh, rfl, wl0, wl1⟩, hb0⟩ := hcut
  go_upto_region 6 with (go_at_call 7; refine (new_yes n 0 5 lim _ (by simp [newB]; omega)).mono ?_; rintro e w1 ⟨P, S, rfl, hd, hb, hP, hS⟩)
  have hF : FDet w w1 P S n wh lim 0 := ⟨_, _, hd, FI.start n wh lim (by omega) (by omega) (by omega), by omega, by omega, below_of hb0 hb, Nat.le_trans hb0.size hP, Nat.le_trans hb0.size hS⟩
  clear hd hb hP hS hb0
  go_wp2
  go_loopw [11] (fun i wr => ∃ k : Nat, k ≤ len ∧ i = .int .i64 k ∧ FDet w wr P S n wh lim 0) (fun i _ => len - (intOf i).toNat)
  case atStart => exact ⟨0, Nat.zero_le _, rfl, hF⟩
  case round =>
    obtain ⟨k, hk, rfl, hFk⟩ := hrel
    clear hF
    obtain ⟨wo, rfl⟩ : ∃ wo : World, wo = wr := ⟨_, rfl⟩
    by_cases hlt : k < len
    · by_cases h20 : k < 20
      · obtain ⟨b0, o0, z, rfl, hz⟩ := HG.out.at hlt
        obtain ⟨r, hr, hrl⟩ := rem_nat' z lim (by omega)
        have hd20 : decide ((k : Int) < 20) = true := by simp; omega
        have hu : IntKind.u64.wrap (lim : Int) = (lim : Int) := by rw [IntKind.wrap_u64]; omega
        have HZ := Lib.hid hz
        clear hz
        go_wp2
        go_loopw [12] (fun i wr => ∃ j : Nat, j ≤ r ∧ i = .int .i64 j ∧ FDet w wr P S n wh lim j) (fun i _ => r - (intOf i).toNat)
        case atStart => exact ⟨0, Nat.zero_le _, rfl, hFk⟩
        case round =>
          obtain ⟨j, hj, rfl, hFj⟩ := hrel
          have hz : wr.cell? ⟨b0, o0 + k, none⟩ = some (.int .i64 z) := HZ.out wr hFj.below
          by_cases hjr : j < r
          · have hnot : ¬ ((lim : Int) < (j : Int) + 1) := by omega
            have ht := ftick hFj wl0 (by omega) (by omega)
            rw [if_neg hnot] at ht
            have HT := Lib.hid ht
            clear ht hnot hFj hFk
            go_wp2_with (first | (go_at_call 8; refine HT.out.mono ?_; rintro e w' ⟨b', rfl, hF'⟩) | (go_at_call 18; refine (falive hF' wl1 true (by simp; omega)).mono ?_; rintro e w' ⟨m, rfl, rfl, hF''⟩))
            go_roundw
            case rel => exact ⟨j + 1, by omega, by go_num, by simpa using hF''⟩
            case measure => simp [intOf]; omega
          · obtain rfl : j = r := by omega
            go_wp2_with (go_at_call 12; refine (fheard hFj wl0 wl1 (by omega)).mono ?_; rintro e w' ⟨er, rfl, hF'⟩)
            go_roundw
            case rel => exact ⟨k + 1, by omega, by go_num, hF'⟩
            case measure => simp [intOf]; omega
      · have hd20 : decide ((k : Int) < 20) = false := by simp; omega
        go_wp2
        go_loopw [13] (fun i wr => ∃ j : Nat, j ≤ lim + 5 ∧ i = .int .i64 j ∧ FDet w wr P S n wh lim (if j < lim then j else lim)) (fun i _ => lim + 5 - (intOf i).toNat)
        case atStart => exact ⟨0, Nat.zero_le _, rfl, by rw [if_pos (by omega)]; exact hFk⟩
        case round =>
          obtain ⟨j, hj, rfl, hFj⟩ := hrel
          by_cases hjr : j < lim + 5
          · have ht := ftick hFj wl0 (by omega) (by omega)
            have e1 : (if (lim : Int) < (if j < lim then (j : Int) else (lim : Int)) + 1 then (lim : Int) else (if j < lim then (j : Int) else (lim : Int)) + 1) = (if j + 1 < lim then ((j + 1 : Nat) : Int) else (lim : Int)) := by
              split <;> split <;> split <;> omega
            rw [e1] at ht
            have HT := Lib.hid ht
            clear ht hFj hFk e1
            by_cases hl : j + 1 < lim
            · have HL : decide ((if j + 1 < lim then ((j + 1 : Nat) : Int) else (lim : Int)) < (lim : Int)) = true := by rw [if_pos hl]; simp; omega
              have HLL := Lib.hid HL
              clear HL
              have hlz : decide ((j : Int) + 1 < (lim : Int)) = true := by simp; omega
              go_wp2_with (first | (go_at_call 8; refine HT.out.mono ?_; rintro e w' ⟨b', rfl, hF'⟩; have HF' := Lib.hid hF'; clear hF') | (go_at_call 18; refine (falive HF'.out wl1 true HLL.out).mono ?_; rintro e w' ⟨m, rfl, rfl, hF''⟩; have HF'' := Lib.hid hF''; clear hF''))
              go_roundw
              case rel => exact ⟨j + 1, by omega, by go_num, HF''.out⟩
              case measure => simp [intOf]; omega
            · have HL : decide ((if j + 1 < lim then ((j + 1 : Nat) : Int) else (lim : Int)) < (lim : Int)) = false := by rw [if_neg hl]; simp
              have HLL := Lib.hid HL
              clear HL
              have hlz : decide ((j : Int) + 1 < (lim : Int)) = false := by simp; omega
              go_wp2_with (first | (go_at_call 8; refine HT.out.mono ?_; rintro e w' ⟨b', rfl, hF'⟩; have HF' := Lib.hid hF'; clear hF') | (go_at_call 18; refine (falive HF'.out wl1 false HLL.out).mono ?_; rintro e w' ⟨m, rfl, rfl, hF''⟩; have HF'' := Lib.hid hF''; clear hF''))
              go_roundw
              case rel => exact ⟨j + 1, by omega, by go_num, HF''.out⟩
              case measure => simp [intOf]; omega
          · obtain rfl : j = lim + 5 := by omega
            rw [if_neg (by omega)] at hFj
            have HF := Lib.hid hFj
            clear hFj hFk
            go_wp2_with (first | (go_at_call 16; refine (fsilent HF.out wl1).mono ?_; rintro e w' ⟨rfl, rfl⟩) | (go_at_call 18; refine (falive0 HF.out (by omega) (by omega)).mono ?_; rintro e w' ⟨m, rfl, rfl⟩))
            go_ret
            exact ⟨rfl, (HF.out.drewN m).below⟩
    · obtain rfl : k = len := by omega
      go_wp2
      go_loopw [13] (fun i wr => ∃ j : Nat, j ≤ lim + 5 ∧ i = .int .i64 j ∧ FDet w wr P S n wh lim (if j < lim then j else lim)) (fun i _ => lim + 5 - (intOf i).toNat)
      case atStart => exact ⟨0, Nat.zero_le _, rfl, by rw [if_pos (by omega)]; exact hFk⟩
      case round =>
        obtain ⟨j, hj, rfl, hFj⟩ := hrel
        by_cases hjr : j < lim + 5
        · have ht := ftick hFj wl0 (by omega) (by omega)
          have e1 : (if (lim : Int) < (if j < lim then (j : Int) else (lim : Int)) + 1 then (lim : Int) else (if j < lim then (j : Int) else (lim : Int)) + 1) = (if j + 1 < lim then ((j + 1 : Nat) : Int) else (lim : Int)) := by
            split <;> split <;> split <;> omega
          rw [e1] at ht
          have HT := Lib.hid ht
          clear ht hFj hFk e1
          by_cases hl : j + 1 < lim
          · have HL : decide ((if j + 1 < lim then ((j + 1 : Nat) : Int) else (lim : Int)) < (lim : Int)) = true := by rw [if_pos hl]; simp; omega
            have HLL := Lib.hid HL
            clear HL
            have hlz : decide ((j : Int) + 1 < (lim : Int)) = true := by simp; omega
            go_wp2_with (first | (go_at_call 8; refine HT.out.mono ?_; rintro e w' ⟨b', rfl, hF'⟩; have HF' := Lib.hid hF'; clear hF') | (go_at_call 18; refine (falive HF'.out wl1 true HLL.out).mono ?_; rintro e w' ⟨m, rfl, rfl, hF''⟩; have HF'' := Lib.hid hF''; clear hF''))
            go_roundw
            case rel => exact ⟨j + 1, by omega, by go_num, HF''.out⟩
            case measure => simp [intOf]; omega
          · have HL : decide ((if j + 1 < lim then ((j + 1 : Nat) : Int) else (lim : Int)) < (lim : Int)) = false := by rw [if_neg hl]; simp
            have HLL := Lib.hid HL
            clear HL
            have hlz : decide ((j : Int) + 1 < (lim : Int)) = false := by simp; omega
            go_wp2_with (first | (go_at_call 8; refine HT.out.mono ?_; rintro e w' ⟨b', rfl, hF'⟩; have HF' := Lib.hid hF'; clear hF') | (go_at_call 18; refine (falive HF'.out wl1 false HLL.out).mono ?_; rintro e w' ⟨m, rfl, rfl, hF''⟩; have HF'' := Lib.hid hF''; clear hF''))
            go_roundw
            case rel => exact ⟨j + 1, by omega, by go_num, HF''.out⟩
            case measure => simp [intOf]; omega
        · obtain rfl : j = lim + 5 := by omega
          rw [if_neg (by omega)] at hFj
          have HF := Lib.hid hFj
          clear hFj hFk
          go_wp2_with (first | (go_at_call 16; refine (fsilent HF.out wl1).mono ?_; rintro e w' ⟨rfl, rfl⟩) | (go_at_call 18; refine (falive0 HF.out (by omega) (by omega)).mono ?_; rintro e w' ⟨m, rfl, rfl⟩))
          go_ret
          exact ⟨rfl, (HF.out.drewN m).below⟩
end Go.Proofs.Ytioeahmimcnjpaa
