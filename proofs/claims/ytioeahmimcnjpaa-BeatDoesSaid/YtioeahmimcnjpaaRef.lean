/- The reference's detector: what each of its methods does to it. Conditions: it lies whole in memory; its numbers are within bounds. -/
import Derived.Test.YtioeahmimcnjpaaBeats
namespace Go.Proofs.Ytioeahmimcnjpaa
open Go.RowKit
set_option linter.unusedVariables false
set_option linter.unusedSimpArgs false

/-- The reference's detector at block Q. -/
structure RDet (w : World) (Q : Nat) (n : Nat) (me every limit : Int) (now : Nat) (ats : List Int) : Prop where
  q : Row w Q (ints ([(n : Int), me, every, limit, (now : Int)] ++ ats)) 46
  len : ats.length = 8
  n1 : n ≤ 8
theorem RDet.five {w : World} {Q n : Nat} {me every limit : Int} {now : Nat} {ats : List Int} (h : RDet w Q n me every limit now ats) :
    w.cell? ⟨Q, 0, none⟩ = some (.int .i64 n) ∧ w.cell? ⟨Q, 1, none⟩ = some (.int .i64 me) ∧ w.cell? ⟨Q, 2, none⟩ = some (.int .i64 every) ∧ w.cell? ⟨Q, 3, none⟩ = some (.int .i64 limit) ∧ w.cell? ⟨Q, 4, none⟩ = some (.int .i64 now) ∧ ∀ i, w.frozen? ⟨Q, i, none⟩ = false :=
  ⟨h.q.int rfl, h.q.int rfl, h.q.int rfl, h.q.int rfl, h.q.int rfl, h.q.free⟩
theorem RDet.kept {F : List Nat} {w w' : World} {Q n : Nat} {me every limit : Int} {now : Nat} {ats : List Int} (h : RDet w Q n me every limit now ats) (hk : Kept F w w') (hQ : Q ∉ F) : RDet w' Q n me every limit now ats := ⟨h.q.kept hk hQ, h.len, h.n1⟩
theorem RDet.below {w w' : World} {Q n : Nat} {me every limit : Int} {now : Nat} {ats : List Int} (h : RDet w Q n me every limit now ats) (hb : Below w.heap.size w w') : RDet w' Q n me every limit now ats := ⟨h.q.below hb, h.len, h.n1⟩
theorem RDet.drewN {w : World} {Q n : Nat} {me every limit : Int} {now : Nat} {ats : List Int} (h : RDet w Q n me every limit now ats) (m : Nat) : RDet (w.drewN m) Q n me every limit now ats := ⟨h.q, h.len, h.n1⟩
theorem RDet.at {w : World} {Q n : Nat} {me every limit : Int} {now : Nat} {ats : List Int} (h : RDet w Q n me every limit now ats) {k : Nat} {x : Int} (hx : ats[k]? = some x) : w.cell? ⟨Q, 5 + k, none⟩ = some (.int .i64 x) := by
  refine h.q.int ?_
  rw [List.getElem?_append_right (by simp), show 5 + k - [(n : Int), me, every, limit, (now : Int)].length = k by simp]
  exact hx
set_option maxHeartbeats 1000000 in
theorem rnew_no (n me every limit : Int) (w : World) (h : newB n me every limit = false) :
    Calls Try.prog 10 #[.int .i64 n, .int .i64 me, .int .i64 every, .int .i64 limit] w fun e w' => e = .returned (.tuple #[.pointer none, .int .i64 1]) ∧ w = w' := by
  have hn : ¬ (1 ≤ n ∧ n ≤ 8 ∧ 0 ≤ me ∧ me < n ∧ 1 ≤ every ∧ every ≤ 100 ∧ 1 ≤ limit ∧ limit ≤ 1000) := by simpa only [newB, decide_eq_false_iff_not] using h
  clear h
  by_cases g0 : n < 1
  · clear hn
    go_enter Try.func10, Try.ntmps10
    go_wp2
    go_ret2
    exact ⟨rfl, rfl⟩
  by_cases g1 : 8 < n
  · clear hn
    go_enter Try.func10, Try.ntmps10
    go_wp2
    go_ret2
    exact ⟨rfl, rfl⟩
  by_cases g2 : me < 0
  · clear hn
    go_enter Try.func10, Try.ntmps10
    go_wp2
    go_ret2
    exact ⟨rfl, rfl⟩
  by_cases g3 : n ≤ me
  · clear hn
    go_enter Try.func10, Try.ntmps10
    go_wp2
    go_ret2
    exact ⟨rfl, rfl⟩
  by_cases g4 : every < 1
  · clear hn
    go_enter Try.func10, Try.ntmps10
    go_wp2
    go_ret2
    exact ⟨rfl, rfl⟩
  by_cases g5 : 100 < every
  · clear hn
    go_enter Try.func10, Try.ntmps10
    go_wp2
    go_ret2
    exact ⟨rfl, rfl⟩
  by_cases g6 : limit < 1
  · clear hn
    go_enter Try.func10, Try.ntmps10
    go_wp2
    go_ret2
    exact ⟨rfl, rfl⟩
  by_cases g7 : 1000 < limit
  · clear hn
    go_enter Try.func10, Try.ntmps10
    go_wp2
    go_ret2
    exact ⟨rfl, rfl⟩
  exact absurd ⟨by omega, by omega, by omega, by omega, by omega, by omega, by omega, by omega⟩ hn
set_option maxHeartbeats 1000000 in
theorem rnew_yes (n : Nat) (me every limit : Int) (w : World) (h : newB n me every limit = true) :
    Calls Try.prog 10 #[.int .i64 n, .int .i64 me, .int .i64 every, .int .i64 limit] w fun e w' => ∃ Q, e = .returned (.tuple #[.pointer (some ⟨Q, 0, none⟩), .int .i64 0]) ∧ RDet w' Q n me every limit 0 [0, 0, 0, 0, 0, 0, 0, 0] ∧ Below w.heap.size w w' ∧ w.heap.size ≤ Q := by
  have hn : (1 ≤ (n : Int) ∧ (n : Int) ≤ 8 ∧ 0 ≤ me ∧ me < n ∧ 1 ≤ every ∧ every ≤ 100 ∧ 1 ≤ limit ∧ limit ≤ 1000) := by simpa only [newB, decide_eq_true_iff] using h
  clear h
  obtain ⟨h0, h1, h2, h3, h4, h5, h6, h7⟩ := hn
  go_enter Try.func10, Try.ntmps10
  go_wp2
  go_ret2
  exact ⟨w.heap.size, rfl, ⟨Row.new _ _ _, rfl, by omega⟩, below_new _ _, Nat.le_refl _⟩
set_option maxHeartbeats 1000000 in
theorem rtick_any {w : World} {Q n : Nat} {me limit : Int} {every now : Nat} {ats : List Int} (h : RDet w Q n me every limit now ats) (h1 : 1 ≤ every) (h2 : every ≤ 100) (h3 : now ≤ 1000000) (b : Bool) (hb : decide ((now + 1) % every = 0) = b) :
    Calls Try.prog 11 #[.pointer (some ⟨Q, 0, none⟩)] w fun e w' => e = .returned (.bool b) ∧ RDet w' Q n me every limit (now + 1) ats ∧ Kept [Q] w w' := by
  obtain ⟨c0, c1, c2, c3, c4, cf⟩ := h.five
  have hq := h.q
  have hbb : (((now : Int) + 1) % (every : Int) == 0) = b := by
    rw [← hb]
    have : (((now : Int) + 1) % (every : Int)) = (((now + 1) % every : Nat) : Int) := by simp
    rw [this]
    by_cases e : (now + 1) % every = 0 <;> simp [e]
    omega
  have HB := Lib.hid hbb
  clear hb hbb
  go_enter Try.func11, Try.ntmps11
  go_wp2
  go_quiet (fail)
  go_wp2
  go_ret
  refine ⟨by rw [← HB.out]; rfl, ⟨?_, h.len, h.n1⟩, ?_⟩
  · refine Row.drewN ?_ _
    simpa using hq.setInt 4 ((now : Int) + 1)
  · exact ((Kept.refl _ w).set Q 4 (.inl (by simp)) _).drewN _

/-- Both detectors agree: xs the program's ticks, ats the reference's times. -/
structure Sync (xs ats : List Int) (n : Nat) (me limit : Int) (now : Nat) : Prop where
  len : xs.length = n
  alen : ats.length = 8
  n1 : n ≤ 8
  lim : 1 ≤ limit
  lim2 : limit ≤ 1000
  now2 : now ≤ 1000
  at_ : ∀ (k : Nat) (a : Int), ats[k]? = some a → 0 ≤ a ∧ a ≤ now
  eq : ∀ (k : Nat) (a : Int), k < n → ats[k]? = some a → xs[k]? = some (if (k : Int) = me then 0 else if (now : Int) - a < limit then (now : Int) - a else limit)
theorem Sync.get {xs ats : List Int} {n : Nat} {me limit : Int} {now : Nat} (h : Sync xs ats n me limit now) {k : Nat} (hk : k < n) : ∃ a, ats[k]? = some a ∧ 0 ≤ a ∧ a ≤ now ∧ xs[k]? = some (if (k : Int) = me then 0 else if (now : Int) - a < limit then (now : Int) - a else limit) := by
  have h8 := h.n1
  have hl := h.alen
  have : k < ats.length := by omega
  exact ⟨ats[k], List.getElem?_eq_getElem this, (h.at_ k _ (List.getElem?_eq_getElem this)).1, (h.at_ k _ (List.getElem?_eq_getElem this)).2, h.eq k _ hk (List.getElem?_eq_getElem this)⟩
theorem Sync.silent {xs ats : List Int} {n : Nat} {me limit : Int} {now : Nat} (h : Sync xs ats n me limit now) {k : Nat} (hk : k < n) {a : Int} (ha : ats[k]? = some a) : silentR xs k = (if (k : Int) = me then 0 else if (now : Int) - a < limit then (now : Int) - a else limit, 0) := by
  unfold silentR Ytioeahmimcnjpaa.at_
  have hi : inR (k : Int) xs.length = true := by simp [inR, h.len]; omega
  rw [if_pos hi]
  simp [List.getD_eq_getElem?_getD, h.eq k a hk ha]
theorem rsilent_any {w : World} {Q n : Nat} {me every limit : Int} {now : Nat} {xs ats : List Int} (h : RDet w Q n me every limit now ats) (hs : Sync xs ats n me limit now) (k : Int) :
    Calls Try.prog 17 #[.pointer (some ⟨Q, 0, none⟩), .int .i64 k] w fun e w' => e = .returned (.tuple #[.int .i64 (silentR xs k).1, .int .i64 (silentR xs k).2]) ∧ ∃ m, w' = w.drewN m := by
  obtain ⟨c0, c1, c2, c3, c4, cf⟩ := h.five
  have hn := h.n1
  have hnow := hs.now2
  rcases hk : inR k xs.length with _ | _
  · have hx : silentR xs k = (0, 1) := by simp [silentR, hk]
    rw [hx]
    rw [hs.len] at hk
    rcases inR_no hk with g | g
    · go_enter Try.func17, Try.ntmps17
      go_wp2
      go_ret2
      exact ⟨rfl, 0, rfl⟩
    · have g2 : ¬ k < 0 := by omega
      go_enter Try.func17, Try.ntmps17
      go_wp2
      go_ret2
      exact ⟨rfl, 0, rfl⟩
  · have hk0 := hk
    rw [hs.len] at hk
    obtain ⟨g1, g2⟩ := inR_yes hk
    obtain ⟨kk, rfl⟩ := Int.eq_ofNat_of_zero_le g1
    have g3 : kk < n := by omega
    obtain ⟨a, ha, ha0, ha1, _⟩ := hs.get g3
    rw [hs.silent g3 ha]
    have hc := h.at ha
    clear hk hk0
    by_cases e : (kk : Int) = me
    · rw [if_pos e]
      subst e
      go_enter Try.func17, Try.ntmps17
      go_wp2
      go_ret2
      exact ⟨rfl, 0, rfl⟩
    · rw [if_neg e]
      have hlim := hs.lim2
      have hlim1 := hs.lim
      go_enter Try.func17, Try.ntmps17
      go_wp2
      go_region
      go_wp2
      all_goals (go_ret2; exact ⟨rfl, 1, rfl⟩)
theorem ralive_any {w : World} {Q n : Nat} {me every limit : Int} {now : Nat} {xs ats : List Int} (h : RDet w Q n me every limit now ats) (hs : Sync xs ats n me limit now) (k : Int) (b : Bool) (hb : aliveB xs limit k = b) :
    Calls Try.prog 19 #[.pointer (some ⟨Q, 0, none⟩), .int .i64 k] w fun e w' => e = .returned (.bool b) ∧ ∃ m, w' = w.drewN m := by
  obtain ⟨c0, c1, c2, c3, c4, cf⟩ := h.five
  have hsl := rsilent_any h hs k
  unfold aliveB at hb
  rcases hk : inR k xs.length with _ | _
  · have hx : silentR xs k = (0, 1) := by simp [silentR, hk]
    rw [hx] at hsl
    have hb2 : b = false := by rw [← hb, hk]; rfl
    subst hb2
    have HS := Lib.hid hsl
    clear hsl hb hk hx
    go_enter Try.func19, Try.ntmps19
    go_wp2_with (go_at_call 17; refine HS.out.mono ?_; rintro e w' ⟨rfl, m, rfl⟩)
    go_ret
    exact ⟨rfl, m, rfl⟩
  · have hx : silentR xs k = (at_ xs k, 0) := by simp [silentR, hk]
    rw [hx] at hsl
    have hb2 : decide (at_ xs k < limit) = b := by rw [← hb, hk]; simp
    have HS := Lib.hid hsl
    have HB := Lib.hid hb2
    clear hsl hb hk hx hb2
    generalize at_ xs k = v at HS HB
    go_enter Try.func19, Try.ntmps19
    go_wp2_with (go_at_call 17; refine HS.out.mono ?_; rintro e w' ⟨rfl, m, rfl⟩)
    go_ret
    exact ⟨by rw [← HB.out]; rfl, m, rfl⟩
theorem Sync.heard {xs ats : List Int} {n : Nat} {me limit : Int} {now : Nat} (h : Sync xs ats n me limit now) (k : Int) (hk : inR k n = true) : Sync (heardR xs k) (ats.set k.toNat now) n me limit now := by
  have hl := h.lim
  have hi : inR k xs.length = true := by rw [h.len]; exact hk
  obtain ⟨g1, g2⟩ := inR_yes hk
  have h8 := h.n1
  have ha := h.alen
  refine ⟨?_, by simpa using h.alen, h.n1, h.lim, h.lim2, h.now2, ?_, ?_⟩
  · unfold heardR; rw [if_pos hi]; simpa using h.len
  · intro j a hj
    rw [List.getElem?_set] at hj
    by_cases e : k.toNat = j
    · rw [if_pos e, if_pos (by omega)] at hj; cases hj; omega
    · rw [if_neg e] at hj; exact h.at_ j a hj
  · intro j a hjn hj
    unfold heardR; rw [if_pos hi]
    rw [List.getElem?_set] at hj ⊢
    by_cases e : k.toNat = j
    · rw [if_pos e, if_pos (by omega)] at hj
      cases hj
      rw [if_pos e, if_pos (by rw [h.len]; omega)]
      simp
      intro _
      omega
    · rw [if_neg e] at hj ⊢
      exact h.eq j a hjn hj
theorem Sync.heard_no {xs ats : List Int} {n : Nat} {me limit : Int} {now : Nat} (h : Sync xs ats n me limit now) (k : Int) (hk : inR k n = false) : heardR xs k = xs := by
  unfold heardR; rw [h.len, hk]; rfl
def ratsR (ats : List Int) (n : Nat) (now : Nat) (k : Int) : List Int := if inR k n = true then ats.set k.toNat now else ats
theorem Sync.heardR {xs ats : List Int} {n : Nat} {me limit : Int} {now : Nat} (h : Sync xs ats n me limit now) (k : Int) : Sync (heardR xs k) (ratsR ats n now k) n me limit now := by
  unfold ratsR
  rcases hk : inR k n with _ | _
  · rw [if_neg (by simp), h.heard_no k hk]; exact h
  · rw [if_pos rfl]; exact h.heard k hk
theorem rheard_any {w : World} {Q n : Nat} {me every limit : Int} {now : Nat} {xs ats : List Int} (h : RDet w Q n me every limit now ats) (hs : Sync xs ats n me limit now) (k : Int) :
    Calls Try.prog 13 #[.pointer (some ⟨Q, 0, none⟩), .int .i64 k] w fun e w' => e = .returned (.int .i64 (heardE xs k)) ∧ RDet w' Q n me every limit now (ratsR ats n now k) ∧ Kept [Q] w w' := by
  obtain ⟨c0, c1, c2, c3, c4, cf⟩ := h.five
  have hn := h.n1
  have hlen := hs.len
  rcases hk : inR k n with _ | _
  · have hx : heardE xs k = 1 := by simp [heardE, hlen, hk]
    have hy : ratsR ats n now k = ats := by simp [ratsR, hk]
    rw [hx, hy]
    clear hlen
    rcases inR_no hk with g | g
    · go_enter Try.func13, Try.ntmps13
      go_wp2
      go_ret
      exact ⟨rfl, h, Kept.refl _ _⟩
    · have g2 : ¬ k < 0 := by omega
      go_enter Try.func13, Try.ntmps13
      go_wp2
      go_ret
      exact ⟨rfl, h, Kept.refl _ _⟩
  · obtain ⟨g1, g2⟩ := inR_yes hk
    obtain ⟨kk, rfl⟩ := Int.eq_ofNat_of_zero_le g1
    have hx : heardE xs kk = 0 := by simp [heardE, hlen, hk]
    have hy : ratsR ats n now kk = ats.set kk now := by simp [ratsR, hk]
    rw [hx, hy]
    have g3 : kk < n := by omega
    obtain ⟨a, ha, ha0, ha1, _⟩ := hs.get g3
    have hc := h.at ha
    have hnew : RDet ((w.setCell ⟨Q, 5 + kk, none⟩ (.int .i64 now)).drew) Q n me every limit now (ats.set kk now) := by
      refine ⟨?_, by simpa using h.len, h.n1⟩
      have := h.q.setInt (5 + kk) now
      rw [List.set_append_right _ _ (by simp), show 5 + kk - [(n : Int), me, every, limit, (now : Int)].length = kk by simp] at this
      exact this.drew
    have HN := Lib.hid hnew
    clear hlen hk hx hy hnew
    go_enter Try.func13, Try.ntmps13
    go_wp2
    go_region
    go_wp2
    go_ret
    exact ⟨rfl, HN.out, ((Kept.refl _ w).set Q (5 + kk) (.inl (by simp)) _).drew⟩
theorem Sync.alive_len {xs ats : List Int} {n : Nat} {me limit : Int} {now : Nat} (h : Sync xs ats n me limit now) : deadL xs limit = (upTo n).filter fun k => !aliveB xs limit k := by
  unfold deadL upTo; rw [h.len]
theorem below_dn {B : Nat} {a w : World} (h : Below B a w) (m : Nat) : Below B a (w.drewN m) := ⟨h.os, h.tape, h.output, h.size, h.block⟩
theorem own_drewN {w : World} {B : Nat} {v : Value} {n : Nat} {ys : List Value} (h : w.ownsRow B 3 1 v n ys) (m : Nat) : (w.drewN m).ownsRow B 3 1 v n ys := h
theorem own_reads {w : World} {B : Nat} {v : Value} {zs : List Int} (h : w.ownsRow B 3 1 v zs.length (zs.map (Value.int .i64))) : Reads w v zs := by
  by_cases hp : 0 < zs.length
  · obtain ⟨g, cap, cur, hv, hg, hr, hh, hc⟩ := own_row h hp
    exact .inr ⟨g, cap, cur, hv, hr, hh⟩
  · have hz : zs = [] := by cases zs with
      | nil => rfl
      | cons a r => simp at hp
    subst hz
    rcases h.2 with ⟨hv, _⟩ | ⟨g, cap, cur, hv, hg, hb, hc, _, hs, ht⟩
    · exact .inl ⟨hv, rfl⟩
    · exact .inr ⟨g, cap, cur, hv, hb, fun i x hx => by cases hx⟩
set_option maxHeartbeats 2000000 in
theorem rdead_any {w : World} {Q n : Nat} {me every limit : Int} {now : Nat} {xs ats : List Int} (h : RDet w Q n me every limit now ats) (hs : Sync xs ats n me limit now) :
    Calls Try.prog 15 #[.pointer (some ⟨Q, 0, none⟩)] w fun e w' => ∃ v, e = .returned v ∧ Reads w' v (deadL xs limit) ∧ (∀ k, v.ownBlock = some k → w.heap.size ≤ k) ∧ Below w.heap.size w w' := by
  have hn := h.n1
  obtain ⟨i0, hi, hz0, hz1, hz2⟩ := info_parts info3
  rw [hs.alive_len]
  go_enter Try.func15, Try.ntmps15
  go_wp2
  go_loopw [3, 4] (fun v i wr => ∃ k : Nat, k ≤ n ∧ i = .int .i64 k ∧ wr.ownsRow w.heap.size 3 1 v ((upTo k).filter fun k => !aliveB xs limit k).length (((upTo k).filter fun k => !aliveB xs limit k).map (Value.int .i64)) ∧ Below w.heap.size w wr) (fun _ i _ => n - (intOf i).toNat)
  case atStart => exact ⟨0, Nat.zero_le _, rfl, ⟨rfl, .inl ⟨rfl, rfl⟩⟩, Below.refl _ _⟩
  case round =>
    obtain ⟨k, hk, rfl, hown, hb⟩ := hrel
    have hrd := h.below hb
    obtain ⟨c0, _, _, _, _, _⟩ := hrd.five
    by_cases hlt : k < n
    · rcases hq : aliveB xs limit k with _ | _
      · have hal := ralive_any hrd hs k false hq
        have hlen : ((upTo k).filter fun k => !aliveB xs limit k).length ≤ k := by
          have := List.length_filter_le (fun k => !aliveB xs limit k) (upTo k); rw [upTo_len] at this; exact this
        have e2 : (upTo (k + 1)).filter (fun k => !aliveB xs limit k) = (upTo k).filter (fun k => !aliveB xs limit k) ++ [(k : Int)] := by
          rw [upTo_succ, List.filter_append]; simp [hq]
        have E2 := Lib.hid e2
        generalize (upTo k).filter (fun k => !aliveB xs limit k) = ys at hown hlen E2
        have s3 : ys.length + 1 ≤ maxLen := by unfold maxLen; omega
        have s4 : (ys.length + 1) * 8 ≤ 140737488355328 := by omega
        have sN : ∀ u ∈ [Value.int .i64 (k : Int)], u.oneCell' = true := by intro u hu; simp at hu; subst hu; rfl
        have SB := Lib.hid (And.intro hb (own_base hown))
        have SN := Lib.hid sN
        have AL := Lib.hid hal
        clear sN hal hq e2
        go_wp2_with (first | (go_at_call 19; refine AL.out.mono ?_; rintro e w1 ⟨rfl, m, rfl⟩) | (at_builtin; refine wpList_append_own _ rfl _ _ 28 rfl w.heap.size 3 i0 (.int .i64 0) 1 8 Try.underlying28 hi hz0 hz1 hz2 rfl (by decide) _ _ _ rfl ((own_drewN hown m).alloc _) ⟨wr.heap.size, 0, none⟩ 1 1 [.int .i64 k] rfl rfl (cell_one_new _ _ _) SN.out s3 s4 (by simp; have := SB.out.1.size; omega) ?_; intro v' w1 hown' hgrow _))
        go_roundw
        case rel => exact ⟨k + 1, by omega, by go_num, by rw [E2.out]; simpa using hown', (((below_dn SB.out.1 m).alloc (by have := SB.out.1.size; simp; omega) _).grown hgrow (by have := SB.out.1.size; simp; omega) SB.out.2)⟩
        case measure => simp [intOf]; omega
      · have hal := ralive_any hrd hs k true hq
        have e2 : (upTo (k + 1)).filter (fun k => !aliveB xs limit k) = (upTo k).filter (fun k => !aliveB xs limit k) := by
          rw [upTo_succ, List.filter_append]; simp [hq]
        have E2 := Lib.hid e2
        have AL := Lib.hid hal
        clear hal hq e2
        go_wp2_with (go_at_call 19; refine AL.out.mono ?_; rintro e w1 ⟨rfl, m, rfl⟩)
        go_roundw
        case rel => exact ⟨k + 1, by omega, by go_num, by rw [E2.out]; exact own_drewN hown m, below_dn hb m⟩
        case measure => simp [intOf]; omega
    · obtain rfl : k = n := by omega
      have HO := Lib.hid (And.intro (own_reads hown) (own_base hown))
      clear hown
      go_wp2
      go_ret
      exact ⟨_, rfl, HO.out.1, HO.out.2, hb⟩

/-- Two slices that read as the same numbers. -/
def Reads' (w : World) (a : Option Addr) (cap : Nat) (zs : List Int) : Prop := (a = none ∧ zs = []) ∨ ∃ g cur, a = some ⟨g, 0, none⟩ ∧ Row w g cur 3 ∧ Holds cur zs
theorem Reads.form {w : World} {v : Value} {zs : List Int} (h : Reads w v zs) : ∃ a cap, v = .slice a zs.length cap ∧ (0 < zs.length → ∃ g, a = some ⟨g, 0, none⟩ ∧ ∀ i x, zs[i]? = some x → w.cell? ⟨g, i, none⟩ = some (.int .i64 x)) := by
  rcases h with ⟨rfl, rfl⟩ | ⟨g, cap, cur, rfl, hr, hh⟩
  · exact ⟨none, 0, rfl, fun h => absurd h (by simp)⟩
  · exact ⟨_, cap, rfl, fun _ => ⟨g, rfl, fun i x hx => hr.hold hh hx⟩⟩
set_option maxHeartbeats 1000000 in
theorem same_any {w : World} {v v' : Value} {zs : List Int} (h : Reads w v zs) (h' : Reads w v' zs) (hz : zs.length ≤ 1000) :
    Calls Try.prog 14 #[v, v'] w fun e w' => e = .returned (.bool true) ∧ ∃ m, w' = w.drewN m := by
  obtain ⟨a, cap, rfl, ha⟩ := h.form
  obtain ⟨a', cap', rfl, ha'⟩ := h'.form
  clear h h'
  by_cases hp : 0 < zs.length
  · obtain ⟨g, rfl, hg⟩ := ha hp
    obtain ⟨g', rfl, hg'⟩ := ha' hp
    have HG := Lib.hid (And.intro hg hg')
    clear ha ha' hg hg'
    go_enter Try.func14, Try.ntmps14
    go_wp2
    go_loopw [5] (fun i wr => ∃ k : Nat, k ≤ zs.length ∧ i = .int .i64 k ∧ ∃ m, wr = w.drewN m) (fun i _ => zs.length - (intOf i).toNat)
    case atStart => exact ⟨0, Nat.zero_le _, rfl, 0, rfl⟩
    case round =>
      obtain ⟨k, hk, rfl, m, rfl⟩ := hrel
      by_cases hlt : k < zs.length
      · have c1 := HG.out.1 k _ (List.getElem?_eq_getElem hlt)
        have c2 := HG.out.2 k _ (List.getElem?_eq_getElem hlt)
        generalize zs[k] = x at c1 c2
        have hl1 : (k : Int) < (zs.length : Int) := by omega
        go_wp2
        go_quiet (fail)
        go_wp2
        go_roundw
        case rel => exact ⟨k + 1, by omega, by go_num, m + nq, rfl⟩
        case measure => simp [intOf]; omega
      · obtain rfl : k = zs.length := by omega
        go_wp2
        go_ret
        exact ⟨rfl, m, rfl⟩
  · have hz0 : zs.length = 0 := by omega
    rw [hz0]
    clear ha ha' hp hz0
    go_enter Try.func14, Try.ntmps14
    go_wp2
    go_loop [5] (fun i => i = .int .i64 0) (fun i => 0)
    case atStart => rfl
    case round =>
      subst hrel
      go_wp2
      go_ret
      exact ⟨rfl, 0, rfl⟩
end Go.Proofs.Ytioeahmimcnjpaa
