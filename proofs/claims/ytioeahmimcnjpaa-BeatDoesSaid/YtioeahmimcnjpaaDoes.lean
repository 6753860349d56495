/- BeatDoes: whoever is heard of, however many ticks go by, each answer of the program is the reference's. Condition: none but that the slice lies in memory as it was read. THE WALK. -/
import Derived.Test.YtioeahmimcnjpaaFinds
import Derived.Test.YtioeahmimcnjpaaRef
namespace Go.Proofs.Ytioeahmimcnjpaa
open Go.RowKit
set_option linter.unusedVariables false
set_option linter.unusedSimpArgs false

theorem Sync.tick {xs ats : List Int} {n : Nat} {me limit : Int} {now : Nat} (h : Sync xs ats n me limit now) (hn : now + 1 ≤ 1000) : Sync (tickL me limit xs) ats n me limit (now + 1) := by
  refine ⟨by rw [← h.len]; exact tickN_len _ _ _ _, h.alen, h.n1, h.lim, h.lim2, hn, ?_, ?_⟩
  · intro k a hk
    have := h.at_ k a hk
    omega
  · intro k a hkn hk
    have h1 := h.at_ k a hk
    rw [tickL_get, h.eq k a hkn hk]
    simp only [Option.map_some]
    congr 1
    by_cases e : (k : Int) = me
    · simp [e]
    · rw [if_neg e, if_neg e, if_pos e]
      have hl := h.lim
      have hnow : ((now + 1 : Nat) : Int) = (now : Int) + 1 := by omega
      rw [hnow]
      by_cases g : (now : Int) - a < limit
      · rw [if_pos g]
        split <;> split <;> omega
      · rw [if_neg g]
        split <;> split <;> omega
theorem Sync.small {xs ats : List Int} {n : Nat} {me limit : Int} {now : Nat} (h : Sync xs ats n me limit now) : ∀ i (hi : i < xs.length), 0 ≤ xs[i] ∧ xs[i] ≤ 1000000 := by
  intro i hi
  obtain ⟨a, ha, h0, h1, hx⟩ := h.get (k := i) (by rw [← h.len]; exact hi)
  rw [List.getElem?_eq_getElem hi] at hx
  have e : xs[i] = _ := Option.some.inj hx
  have hl := h.lim
  have hl2 := h.lim2
  have hn := h.now2
  rw [e]
  split
  · omega
  · split <;> omega
theorem Sync.start (n : Nat) (me limit : Int) (hn : n ≤ 8) (h1 : 1 ≤ limit) (h2 : limit ≤ 1000) : Sync (List.replicate n 0) [0, 0, 0, 0, 0, 0, 0, 0] n me limit 0 := by
  refine ⟨by simp, rfl, hn, h1, h2, by omega, ?_, ?_⟩
  · intro k a hk
    have := List.mem_of_getElem? hk
    simp at this
    omega
  · intro k a hkn hk
    have := List.mem_of_getElem? hk
    simp at this
    subst this
    rw [List.getElem?_replicate, if_pos hkn]
    have h1' : 0 < limit := by omega
    simp [h1']
/-- Both detectors, alike, in new memory. -/
structure BD (W w : World) (P S Q n : Nat) (me limit : Int) (ev now : Nat) (xs ats : List Int) : Prop where
  d : Det w P S xs me ev limit ((ev : Int) - ((now % ev : Nat) : Int))
  r : RDet w Q n me ev limit now ats
  s : Sync xs ats n me limit now
  b : Below W.heap.size W w
theorem BD.drewN {W w : World} {P S Q n : Nat} {me limit : Int} {ev now : Nat} {xs ats : List Int} (h : BD W w P S Q n me limit ev now xs ats) (m : Nat) : BD W (w.drewN m) P S Q n me limit ev now xs ats := ⟨h.d.drewN m, h.r.drewN m, h.s, below_dn h.b m⟩
theorem BD.below {W w w' : World} {P S Q n : Nat} {me limit : Int} {ev now : Nat} {xs ats : List Int} (h : BD W w P S Q n me limit ev now xs ats) (hb : Below w.heap.size w w') : BD W w' P S Q n me limit ev now xs ats := ⟨h.d.below hb, h.r.below hb, h.s, below_of h.b hb⟩
theorem Reads.below {w w' : World} {v : Value} {zs : List Int} (h : Reads w v zs) (hb : Below w.heap.size w w') : Reads w' v zs := by
  rcases h with h | ⟨g, cap, cur, hv, hr, hh⟩
  · exact .inl h
  · exact .inr ⟨g, cap, cur, hv, hr.below hb, hh⟩
theorem Sync.dead_len {xs ats : List Int} {n : Nat} {me limit : Int} {now : Nat} (h : Sync xs ats n me limit now) : (deadL xs limit).length ≤ 1000 := by
  rw [h.alive_len]
  have := List.length_filter_le (fun k => !aliveB xs limit k) (upTo n)
  rw [upTo_len] at this
  have := h.n1
  omega
theorem BD.PQ {W w : World} {P S Q n : Nat} {me limit : Int} {ev now : Nat} {xs ats : List Int} (h : BD W w P S Q n me limit ev now xs ats) : P ≠ Q ∧ S ≠ Q := ⟨h.d.p.ne h.r.q (by decide), h.d.s.ne h.r.q (by decide)⟩
theorem tick_next (now ev : Nat) (h0 : 0 < ev) : tickB ((ev : Int) - ((now % ev : Nat) : Int)) = decide ((now + 1) % ev = 0) ∧ tickLeft ev ((ev : Int) - ((now % ev : Nat) : Int)) = (ev : Int) - (((now + 1) % ev : Nat) : Int) := by
  have hm := Nat.mod_lt now h0
  by_cases h : now % ev + 1 = ev
  · obtain ⟨n1, n2⟩ := next_yes now ev h0 h
    rw [n2]
    generalize now % ev = r at *
    constructor
    · simp [tickB]; omega
    · unfold tickLeft; rw [if_pos (by omega)]; simp
  · obtain ⟨n1, n2⟩ := next_no now ev h0 h
    rw [n2]
    generalize now % ev = r at *
    constructor
    · simp [tickB]; omega
    · unfold tickLeft; rw [if_neg (by omega)]; omega
def Some2 (W w : World) (P S Q n : Nat) (me limit : Int) (ev most : Nat) : Prop := ∃ now xs ats, now ≤ most ∧ BD W w P S Q n me limit ev now xs ats
set_option maxHeartbeats 4000000 in
set_option maxRecDepth 100000 in
theorem does_any (n me every limit : Int) (sa : Option Addr) (len cap : Nat) (zs : List Int) (w : World) (hg : GIn w sa len zs) :
    Calls Try.prog 4 #[.int .i64 n, .int .i64 me, .int .i64 every, .int .i64 limit, .slice sa len cap] w fun e w' => e = .returned (.bool true) ∧ Below w.heap.size w w' := by
  have hml := hg.1
  unfold maxLen at hml
  have HG := Lib.hid hg
  clear hg
  rcases hnb : newB n me every limit with _ | _
  · have HN := Lib.hid hnb
    clear hnb
    go_enter Try.func4, Try.ntmps4
    go_wp2_with (first | (go_at_call 7; refine (new_no _ _ _ _ _ HN.out).mono ?_; rintro e w' ⟨rfl, rfl⟩) | (go_at_call 10; refine (rnew_no _ _ _ _ _ HN.out).mono ?_; rintro e w' ⟨rfl, rfl⟩))
    go_ret
    exact ⟨rfl, Below.refl _ _⟩
  · have hn : (1 ≤ n ∧ n ≤ 8 ∧ 0 ≤ me ∧ me < n ∧ 1 ≤ every ∧ every ≤ 100 ∧ 1 ≤ limit ∧ limit ≤ 1000) := by simpa only [newB, decide_eq_true_iff] using hnb
    obtain ⟨h0, h1, h2, h3, h4, h5, h6, h7⟩ := hn
    obtain ⟨nn, rfl⟩ := Int.eq_ofNat_of_zero_le (show 0 ≤ n by omega)
    obtain ⟨ev, rfl⟩ := Int.eq_ofNat_of_zero_le (show 0 ≤ every by omega)
    have HN := Lib.hid hnb
    clear hnb
    go_enter Try.func4, Try.ntmps4
    go_upto_region 5 with (first | (go_at_call 7; refine (new_yes nn _ _ _ _ HN.out).mono ?_; rintro e w1 ⟨P, S, rfl, hd, hb, hP, hS⟩) | (go_at_call 10; refine (rnew_yes nn _ _ _ _ HN.out).mono ?_; rintro e w2 ⟨Q, rfl, hr, hb2, hQ⟩))
    have hB : BD w w2 P S Q nn me limit ev 0 (List.replicate nn 0) [0, 0, 0, 0, 0, 0, 0, 0] := ⟨by simpa using hd.below hb2, hr, Sync.start nn me limit (by omega) h6 h7, below_of hb hb2⟩
    have hQ' : w.heap.size ≤ Q := Nat.le_trans hb.size hQ
    clear hd hr hb hb2 hQ HN h2 h3
    go_wp2
    go_loopw [15, 10, 16, 17, 18, 19, 20] (fun i _ _ _ _ _ _ wr => ∃ k : Nat, k ≤ len ∧ k ≤ 200 ∧ i = .int .i64 k ∧ Some2 w wr P S Q nn me limit ev k) (fun i _ _ _ _ _ _ _ => len - (intOf i).toNat)
    case atStart => exact ⟨0, Nat.zero_le _, Nat.zero_le _, rfl, 0, _, _, Nat.le_refl _, hB⟩
    case round =>
      obtain ⟨k, hk, hk2, rfl, hS2⟩ := hrel
      clear hB
      obtain ⟨wo, rfl⟩ : ∃ wo : World, wo = wr := ⟨_, rfl⟩
      by_cases hlt : k < len
      · by_cases h200 : k < 200
        · obtain ⟨b0, o0, z, rfl, hz⟩ := HG.out.at hlt
          have hd200 : decide ((k : Int) < 200) = true := by simp; omega
          obtain ⟨now, xs, ats, hnow, hB⟩ := hS2
          have hc := hz wo hB.b
          have HZ := Lib.hid hz
          clear hz
          go_upto_if 73 with (fail)
          obtain ⟨hPQ, hSQ⟩ := hB.PQ
          go_cut [] (fun wc => Some2 w wc P S Q nn me limit ev (k + 1))
          case first =>
            by_cases hz0 : z < 0
            · obtain ⟨e1, e2⟩ := tick_next now ev (by omega)
              obtain ⟨b, hb⟩ : ∃ b, decide ((now + 1) % ev = 0) = b := ⟨_, rfl⟩
              have T1 := Lib.hid (tick_at hB.d (tickL me limit xs) b ((ev : Int) - (((now + 1) % ev : Nat) : Int)) hB.s.small (by have := Nat.mod_lt now (show 0 < ev by omega); omega) (by omega) rfl (by rw [e1, hb]) e2)
              have HB := Lib.hid hb
              clear e1 e2 hb
              go_wp2_with (first | (go_at_call 8; refine T1.out.mono ?_; rintro e w1 ⟨rfl, hd1, k1⟩; have hr1 := hB.r.kept k1 (by simp; exact ⟨hPQ.symm, hSQ.symm⟩)) | (go_at_call 11; refine (rtick_any hr1 (by omega) (by omega) (by omega) b HB.out).mono ?_; rintro e w2 ⟨rfl, hr2, k2⟩))
              go_meet
              case rel =>
                refine ⟨now + 1, _, _, by omega, ⟨hd1.kept k2 (by simp; exact hPQ) (by simp; exact hSQ), hr2, hB.s.tick (by omega), ?_⟩⟩
                exact (hB.b.trans (k1.toBelow (by simp; exact ⟨hP, hS⟩) hB.b.size)).trans (k2.toBelow (by simp; exact hQ') (Nat.le_trans hB.b.size k1.size))
            · have d0 : Det wo.drew P S xs me ev limit ((ev : Int) - ((now % ev : Nat) : Int)) := hB.d.drew
              have r0 : RDet wo.drew Q nn me ev limit now ats := hB.r.drewN 1
              have bb0 : Below w.heap.size w wo.drew := hB.b.drew
              have sy := hB.s
              clear hB hc
              go_wp2
              go_region_held3 (fun w' => w'.cell? ⟨b0, o0 + k, none⟩ = some (.int .i64 z) ∧ Below w.heap.size w w')
                (first | (with_reducible exact ⟨HZ.out _ bb0, bb0⟩) | (with_reducible exact ⟨HZ.out _ bw1, bw1⟩) | (with_reducible exact ⟨HZ.out _ bw2, bw2⟩))
                (first
                  | (go_at_call 12; with_reducible refine (heard_any d0 z).mono ?_; rintro e w1 ⟨rfl, hd1, k1⟩; have bw1 := bb0.trans (k1.toBelow (by simp; exact ⟨hP, hS⟩) bb0.size))
                  | (go_at_call 12; with_reducible refine (heard_any (d0.kept k2 (by simp; exact hPQ) (by simp; exact hSQ)) z).mono ?_; rintro e w1 ⟨rfl, hd1, k1⟩; have bw1 := bw2.trans (k1.toBelow (by simp; exact ⟨hP, hS⟩) bw2.size))
                  | (go_at_call 13; with_reducible refine (rheard_any r0 sy z).mono ?_; rintro e w2 ⟨rfl, hr2, k2⟩; have bw2 := bb0.trans (k2.toBelow (by simp; exact hQ') bb0.size))
                  | (go_at_call 13; with_reducible refine (rheard_any (r0.kept k1 (by simp; exact ⟨hPQ.symm, hSQ.symm⟩)) sy z).mono ?_; rintro e w2 ⟨rfl, hr2, k2⟩; have bw2 := bw1.trans (k2.toBelow (by simp; exact hQ') bw1.size)))
              go_wp2
              go_meet
              case rel => exact ⟨now, _, _, by omega, ⟨hd1.kept k2 (by simp; exact hPQ) (by simp; exact hSQ), hr2, sy.heardR z, bw2⟩⟩
          case rest =>
          clear hB HZ hc
          obtain ⟨now', xs', ats', hnow', hB'⟩ := hcut
          clear hnow now xs ats
          go_upto_region 15 with (first | (go_at_call 9; refine (dead_any hB'.d).mono ?_; rintro e w1 ⟨va, rfl, hra, _, b1⟩; have HA := Lib.hid hra; clear hra; have B1 := hB'.below b1) | (go_at_call 15; refine (rdead_any B1.r B1.s).mono ?_; rintro e w2 ⟨vb, rfl, hrb, _, b2⟩; have HBB := Lib.hid hrb; clear hrb; have B2 := B1.below b2) | (go_at_call 14; refine (same_any (HA.out.below b2) HBB.out B1.s.dead_len).mono ?_; rintro e w3 ⟨rfl, m, rfl⟩; have B3 := B2.drewN m))
          clear hB' B1 B2 b1 b2 HA HBB
          go_wp2
          go_loopw [16, 10, 17, 18, 19, 20] (fun i _ _ _ _ _ wr => ∃ j : Nat, j ≤ 10 ∧ i = .int .i64 ((j : Int) - 1) ∧ BD w wr P S Q nn me limit ev now' xs' ats') (fun i _ _ _ _ _ _ => 10 - (intOf i + 1).toNat)
          case atStart => exact ⟨0, Nat.zero_le _, rfl, B3⟩
          case round =>
            obtain ⟨j, hj, rfl, hBj⟩ := hrel
            clear B3
            by_cases hj10 : j < 10
            · have hle : decide ((j : Int) - 1 ≤ 8) = true := by simp; omega
              obtain ⟨⟨x, er⟩, hsr⟩ : ∃ r, silentR xs' ((j : Int) - 1) = r := ⟨_, rfl⟩
              obtain ⟨b, hal⟩ : ∃ b, aliveB xs' limit ((j : Int) - 1) = b := ⟨_, rfl⟩
              have t1 := silent_any hBj.d ((j : Int) - 1)
              have t2 := rsilent_any hBj.r hBj.s ((j : Int) - 1)
              rw [hsr] at t1 t2
              have T1 := Lib.hid t1
              have T2 := Lib.hid t2
              have AL := Lib.hid hal
              clear t1 t2 hsr hal
              go_wp2_with (first | (go_at_call 16; refine T1.out.mono ?_; rintro e w' ⟨rfl, rfl⟩) | (go_at_call 17; refine T2.out.mono ?_; rintro e w' ⟨rfl, m1, rfl⟩) | (go_at_call 18; refine (alive_at (hBj.d.drewN _) _ b AL.out).mono ?_; rintro e w' ⟨rfl, m2, rfl⟩) | (go_at_call 19; refine (ralive_any (hBj.r.drewN _) hBj.s _ b AL.out).mono ?_; rintro e w' ⟨rfl, m3, rfl⟩))
              go_roundw
              case rel => exact ⟨j + 1, by omega, by congr 1; omega, hBj.drewN _⟩
              case measure => simp [intOf]; omega
            · obtain rfl : j = 10 := by omega
              go_wp2
              go_roundw
              case rel => exact ⟨k + 1, by omega, by omega, by go_num, now', _, _, by omega, hBj⟩
              case measure => simp [intOf]; omega
        · obtain rfl : k = 200 := by omega
          obtain ⟨now, xs, ats, hnow, hB⟩ := hS2
          have HB := Lib.hid hB.b
          clear hB
          go_wp2
          go_ret
          exact ⟨rfl, HB.out⟩
      · obtain rfl : k = len := by omega
        obtain ⟨now, xs, ats, hnow, hB⟩ := hS2
        have HB := Lib.hid hB.b
        clear hB
        go_wp2
        go_ret
        exact ⟨rfl, HB.out⟩
end Go.Proofs.Ytioeahmimcnjpaa
