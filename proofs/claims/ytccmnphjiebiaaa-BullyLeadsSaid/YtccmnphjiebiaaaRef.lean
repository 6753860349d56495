/- The reference's detector: what each of its methods does to it. Conditions: it lies whole in memory; its numbers are within bounds. -/
import Derived.Test.YtccmnphjiebiaaaTick
namespace Go.Proofs.Ytccmnphjiebiaaa
open Go.RowKit
set_option linter.unusedVariables false
set_option linter.unusedSimpArgs false

/-- The reference's detector at block Q. -/
structure RDet (w : World) (Q : Nat) (n : Nat) (me every limit : Int) (now : Nat) (ats : List Int) : Prop where
  q : Row w Q (ints ([(n : Int), me, every, limit, (now : Int)] ++ ats)) 79
  len : ats.length = 8
  n1 : n ≤ 8
theorem RDet.five {w : World} {Q n : Nat} {me every limit : Int} {now : Nat} {ats : List Int} (h : RDet w Q n me every limit now ats) :
    w.cell? ⟨Q, 0, none⟩ = some (.int .i64 n) ∧ w.cell? ⟨Q, 1, none⟩ = some (.int .i64 me) ∧ w.cell? ⟨Q, 2, none⟩ = some (.int .i64 every) ∧ w.cell? ⟨Q, 3, none⟩ = some (.int .i64 limit) ∧ w.cell? ⟨Q, 4, none⟩ = some (.int .i64 now) ∧ ∀ i, w.frozen? ⟨Q, i, none⟩ = false :=
  ⟨h.q.int rfl, h.q.int rfl, h.q.int rfl, h.q.int rfl, h.q.int rfl, h.q.free⟩
theorem RDet.kept {F : List Nat} {w w' : World} {Q n : Nat} {me every limit : Int} {now : Nat} {ats : List Int} (h : RDet w Q n me every limit now ats) (hk : Kept F w w') (hQ : Q ∉ F) : RDet w' Q n me every limit now ats := ⟨h.q.kept hk hQ, h.len, h.n1⟩
theorem RDet.below {w w' : World} {Q n : Nat} {me every limit : Int} {now : Nat} {ats : List Int} (h : RDet w Q n me every limit now ats) (hb : Below w.heap.size w w') : RDet w' Q n me every limit now ats := ⟨h.q.below hb, h.len, h.n1⟩
theorem RDet.drewN {w : World} {Q n : Nat} {me every limit : Int} {now : Nat} {ats : List Int} (h : RDet w Q n me every limit now ats) (m : Nat) : RDet (w.drewN m) Q n me every limit now ats := ⟨h.q, h.len, h.n1⟩
theorem RDet.at {w : World} {Q n : Nat} {me every limit : Int} {now : Nat} {ats : List Int} (h : RDet w Q n me every limit now ats) {k : Nat} {x : Int} (hx : ats[k]? = some x) : w.cell? ⟨Q, 5 + k, none⟩ = some (.int .i64 x) := by
  refine h.q.int ?_
  rw [List.getElem?_append_right (by simp), show 5 + k - [(n : Int), me, every, limit, (now : Int)].length = k by simp]
  exact hx
set_option maxHeartbeats 1000000 in
theorem rnew_no (n me every limit : Int) (w : World) (h : newB n me every limit = false) :
    Calls Try.prog 28 #[.int .i64 n, .int .i64 me, .int .i64 every, .int .i64 limit] w fun e w' => e = .returned (.tuple #[.pointer none, .int .i64 1]) ∧ w = w' := by
  have hn : ¬ (1 ≤ n ∧ n ≤ 8 ∧ 0 ≤ me ∧ me < n ∧ 1 ≤ every ∧ every ≤ 100 ∧ 1 ≤ limit ∧ limit ≤ 1000) := by simpa only [newB, decide_eq_false_iff_not] using h
  clear h
  by_cases g0 : n < 1
  · clear hn
    go_enter Try.func28, Try.ntmps28
    go_wp2
    go_ret2
    exact ⟨rfl, rfl⟩
  by_cases g1 : 8 < n
  · clear hn
    go_enter Try.func28, Try.ntmps28
    go_wp2
    go_ret2
    exact ⟨rfl, rfl⟩
  by_cases g2 : me < 0
  · clear hn
    go_enter Try.func28, Try.ntmps28
    go_wp2
    go_ret2
    exact ⟨rfl, rfl⟩
  by_cases g3 : n ≤ me
  · clear hn
    go_enter Try.func28, Try.ntmps28
    go_wp2
    go_ret2
    exact ⟨rfl, rfl⟩
  by_cases g4 : every < 1
  · clear hn
    go_enter Try.func28, Try.ntmps28
    go_wp2
    go_ret2
    exact ⟨rfl, rfl⟩
  by_cases g5 : 100 < every
  · clear hn
    go_enter Try.func28, Try.ntmps28
    go_wp2
    go_ret2
    exact ⟨rfl, rfl⟩
  by_cases g6 : limit < 1
  · clear hn
    go_enter Try.func28, Try.ntmps28
    go_wp2
    go_ret2
    exact ⟨rfl, rfl⟩
  by_cases g7 : 1000 < limit
  · clear hn
    go_enter Try.func28, Try.ntmps28
    go_wp2
    go_ret2
    exact ⟨rfl, rfl⟩
  exact absurd ⟨by omega, by omega, by omega, by omega, by omega, by omega, by omega, by omega⟩ hn
set_option maxHeartbeats 1000000 in
theorem rnew_yes (n : Nat) (me every limit : Int) (w : World) (h : newB n me every limit = true) :
    Calls Try.prog 28 #[.int .i64 n, .int .i64 me, .int .i64 every, .int .i64 limit] w fun e w' => ∃ Q, e = .returned (.tuple #[.pointer (some ⟨Q, 0, none⟩), .int .i64 0]) ∧ RDet w' Q n me every limit 0 [0, 0, 0, 0, 0, 0, 0, 0] ∧ Below w.heap.size w w' ∧ w.heap.size ≤ Q := by
  have hn : (1 ≤ (n : Int) ∧ (n : Int) ≤ 8 ∧ 0 ≤ me ∧ me < n ∧ 1 ≤ every ∧ every ≤ 100 ∧ 1 ≤ limit ∧ limit ≤ 1000) := by simpa only [newB, decide_eq_true_iff] using h
  clear h
  obtain ⟨h0, h1, h2, h3, h4, h5, h6, h7⟩ := hn
  go_enter Try.func28, Try.ntmps28
  go_wp2
  go_ret2
  exact ⟨w.heap.size, rfl, ⟨Row.new _ _ _, rfl, by omega⟩, below_new _ _, Nat.le_refl _⟩
set_option maxHeartbeats 1000000 in
theorem rtick_any {w : World} {Q n : Nat} {me limit : Int} {every now : Nat} {ats : List Int} (h : RDet w Q n me every limit now ats) (h1 : 1 ≤ every) (h2 : every ≤ 100) (h3 : now ≤ 1000000) (b : Bool) (hb : decide ((now + 1) % every = 0) = b) :
    Calls Try.prog 34 #[.pointer (some ⟨Q, 0, none⟩)] w fun e w' => e = .returned (.bool b) ∧ RDet w' Q n me every limit (now + 1) ats ∧ Kept [Q] w w' := by
  obtain ⟨c0, c1, c2, c3, c4, cf⟩ := h.five
  have hq := h.q
  have hbb : (((now : Int) + 1) % (every : Int) == 0) = b := by
    rw [← hb]
    have : (((now : Int) + 1) % (every : Int)) = (((now + 1) % every : Nat) : Int) := by simp
    rw [this]
    by_cases e : (now + 1) % every = 0 <;> simp [e]
    omega
  have HB := Lib.hid hbb
  clear hb hbb
  go_enter Try.func34, Try.ntmps34
  go_wp2
  go_quiet (fail)
  go_wp2
  go_ret
  refine ⟨by rw [← HB.out]; rfl, ⟨?_, h.len, h.n1⟩, ?_⟩
  · refine Row.drewN ?_ _
    simpa using hq.setInt 4 ((now : Int) + 1)
  · exact ((Kept.refl _ w).set Q 4 (.inl (by simp)) _).drewN _

/-- Both detectors agree: xs the program's ticks, ats the reference's times. -/
structure Sync (xs ats : List Int) (n : Nat) (me limit : Int) (now : Nat) : Prop where
  len : xs.length = n
  alen : ats.length = 8
  n1 : n ≤ 8
  lim : 1 ≤ limit
  lim2 : limit ≤ 1000
  now2 : now ≤ 1000
  at_ : ∀ (k : Nat) (a : Int), ats[k]? = some a → 0 ≤ a ∧ a ≤ now
  eq : ∀ (k : Nat) (a : Int), k < n → ats[k]? = some a → xs[k]? = some (if (k : Int) = me then 0 else if (now : Int) - a < limit then (now : Int) - a else limit)
theorem Sync.get {xs ats : List Int} {n : Nat} {me limit : Int} {now : Nat} (h : Sync xs ats n me limit now) {k : Nat} (hk : k < n) : ∃ a, ats[k]? = some a ∧ 0 ≤ a ∧ a ≤ now ∧ xs[k]? = some (if (k : Int) = me then 0 else if (now : Int) - a < limit then (now : Int) - a else limit) := by
  have h8 := h.n1
  have hl := h.alen
  have : k < ats.length := by omega
  exact ⟨ats[k], List.getElem?_eq_getElem this, (h.at_ k _ (List.getElem?_eq_getElem this)).1, (h.at_ k _ (List.getElem?_eq_getElem this)).2, h.eq k _ hk (List.getElem?_eq_getElem this)⟩
theorem Sync.silent {xs ats : List Int} {n : Nat} {me limit : Int} {now : Nat} (h : Sync xs ats n me limit now) {k : Nat} (hk : k < n) {a : Int} (ha : ats[k]? = some a) : silentR xs k = (if (k : Int) = me then 0 else if (now : Int) - a < limit then (now : Int) - a else limit, 0) := by
  unfold silentR Ytccmnphjiebiaaa.at_
  have hi : inR (k : Int) xs.length = true := by simp [inR, h.len]; omega
  rw [if_pos hi]
  simp [List.getD_eq_getElem?_getD, h.eq k a hk ha]
theorem rsilent_any {w : World} {Q n : Nat} {me every limit : Int} {now : Nat} {xs ats : List Int} (h : RDet w Q n me every limit now ats) (hs : Sync xs ats n me limit now) (k : Int) :
    Calls Try.prog 44 #[.pointer (some ⟨Q, 0, none⟩), .int .i64 k] w fun e w' => e = .returned (.tuple #[.int .i64 (silentR xs k).1, .int .i64 (silentR xs k).2]) ∧ ∃ m, w' = w.drewN m := by
  obtain ⟨c0, c1, c2, c3, c4, cf⟩ := h.five
  have hn := h.n1
  have hnow := hs.now2
  rcases hk : inR k xs.length with _ | _
  · have hx : silentR xs k = (0, 1) := by simp [silentR, hk]
    rw [hx]
    rw [hs.len] at hk
    rcases inR_no hk with g | g
    · go_enter Try.func44, Try.ntmps44
      go_wp2
      go_ret2
      exact ⟨rfl, 0, rfl⟩
    · have g2 : ¬ k < 0 := by omega
      go_enter Try.func44, Try.ntmps44
      go_wp2
      go_ret2
      exact ⟨rfl, 0, rfl⟩
  · have hk0 := hk
    rw [hs.len] at hk
    obtain ⟨g1, g2⟩ := inR_yes hk
    obtain ⟨kk, rfl⟩ := Int.eq_ofNat_of_zero_le g1
    have g3 : kk < n := by omega
    obtain ⟨a, ha, ha0, ha1, _⟩ := hs.get g3
    rw [hs.silent g3 ha]
    have hc := h.at ha
    clear hk hk0
    by_cases e : (kk : Int) = me
    · rw [if_pos e]
      subst e
      go_enter Try.func44, Try.ntmps44
      go_wp2
      go_ret2
      exact ⟨rfl, 0, rfl⟩
    · rw [if_neg e]
      have hlim := hs.lim2
      have hlim1 := hs.lim
      go_enter Try.func44, Try.ntmps44
      go_wp2
      go_region
      go_wp2
      all_goals (go_ret2; exact ⟨rfl, 1, rfl⟩)
theorem ralive_any {w : World} {Q n : Nat} {me every limit : Int} {now : Nat} {xs ats : List Int} (h : RDet w Q n me every limit now ats) (hs : Sync xs ats n me limit now) (k : Int) (b : Bool) (hb : aliveB xs limit k = b) :
    Calls Try.prog 36 #[.pointer (some ⟨Q, 0, none⟩), .int .i64 k] w fun e w' => e = .returned (.bool b) ∧ ∃ m, w' = w.drewN m := by
  obtain ⟨c0, c1, c2, c3, c4, cf⟩ := h.five
  have hsl := rsilent_any h hs k
  unfold aliveB at hb
  rcases hk : inR k xs.length with _ | _
  · have hx : silentR xs k = (0, 1) := by simp [silentR, hk]
    rw [hx] at hsl
    have hb2 : b = false := by rw [← hb, hk]; rfl
    subst hb2
    have HS := Lib.hid hsl
    clear hsl hb hk hx
    go_enter Try.func36, Try.ntmps36
    go_wp2_with (go_at_call 44; refine HS.out.mono ?_; rintro e w' ⟨rfl, m, rfl⟩)
    go_ret
    exact ⟨rfl, m, rfl⟩
  · have hx : silentR xs k = (at_ xs k, 0) := by simp [silentR, hk]
    rw [hx] at hsl
    have hb2 : decide (at_ xs k < limit) = b := by rw [← hb, hk]; simp
    have HS := Lib.hid hsl
    have HB := Lib.hid hb2
    clear hsl hb hk hx hb2
    generalize at_ xs k = v at HS HB
    go_enter Try.func36, Try.ntmps36
    go_wp2_with (go_at_call 44; refine HS.out.mono ?_; rintro e w' ⟨rfl, m, rfl⟩)
    go_ret
    exact ⟨by rw [← HB.out]; rfl, m, rfl⟩
theorem Sync.heard {xs ats : List Int} {n : Nat} {me limit : Int} {now : Nat} (h : Sync xs ats n me limit now) (k : Int) (hk : inR k n = true) : Sync (heardR xs k) (ats.set k.toNat now) n me limit now := by
  have hl := h.lim
  have hi : inR k xs.length = true := by rw [h.len]; exact hk
  obtain ⟨g1, g2⟩ := inR_yes hk
  have h8 := h.n1
  have ha := h.alen
  refine ⟨?_, by simpa using h.alen, h.n1, h.lim, h.lim2, h.now2, ?_, ?_⟩
  · unfold heardR; rw [if_pos hi]; simpa using h.len
  · intro j a hj
    rw [List.getElem?_set] at hj
    by_cases e : k.toNat = j
    · rw [if_pos e, if_pos (by omega)] at hj; cases hj; omega
    · rw [if_neg e] at hj; exact h.at_ j a hj
  · intro j a hjn hj
    unfold heardR; rw [if_pos hi]
    rw [List.getElem?_set] at hj ⊢
    by_cases e : k.toNat = j
    · rw [if_pos e, if_pos (by omega)] at hj
      cases hj
      rw [if_pos e, if_pos (by rw [h.len]; omega)]
      simp
      intro _
      omega
    · rw [if_neg e] at hj ⊢
      exact h.eq j a hjn hj
theorem Sync.heard_no {xs ats : List Int} {n : Nat} {me limit : Int} {now : Nat} (h : Sync xs ats n me limit now) (k : Int) (hk : inR k n = false) : heardR xs k = xs := by
  unfold heardR; rw [h.len, hk]; rfl
def ratsR (ats : List Int) (n : Nat) (now : Nat) (k : Int) : List Int := if inR k n = true then ats.set k.toNat now else ats
theorem Sync.heardR {xs ats : List Int} {n : Nat} {me limit : Int} {now : Nat} (h : Sync xs ats n me limit now) (k : Int) : Sync (heardR xs k) (ratsR ats n now k) n me limit now := by
  unfold ratsR
  rcases hk : inR k n with _ | _
  · rw [if_neg (by simp), h.heard_no k hk]; exact h
  · rw [if_pos rfl]; exact h.heard k hk
theorem rheard_any {w : World} {Q n : Nat} {me every limit : Int} {now : Nat} {xs ats : List Int} (h : RDet w Q n me every limit now ats) (hs : Sync xs ats n me limit now) (k : Int) :
    Calls Try.prog 41 #[.pointer (some ⟨Q, 0, none⟩), .int .i64 k] w fun e w' => e = .returned (.int .i64 (heardE xs k)) ∧ RDet w' Q n me every limit now (ratsR ats n now k) ∧ Kept [Q] w w' := by
  obtain ⟨c0, c1, c2, c3, c4, cf⟩ := h.five
  have hn := h.n1
  have hlen := hs.len
  rcases hk : inR k n with _ | _
  · have hx : heardE xs k = 1 := by simp [heardE, hlen, hk]
    have hy : ratsR ats n now k = ats := by simp [ratsR, hk]
    rw [hx, hy]
    clear hlen
    rcases inR_no hk with g | g
    · go_enter Try.func41, Try.ntmps41
      go_wp2
      go_ret
      exact ⟨rfl, h, Kept.refl _ _⟩
    · have g2 : ¬ k < 0 := by omega
      go_enter Try.func41, Try.ntmps41
      go_wp2
      go_ret
      exact ⟨rfl, h, Kept.refl _ _⟩
  · obtain ⟨g1, g2⟩ := inR_yes hk
    obtain ⟨kk, rfl⟩ := Int.eq_ofNat_of_zero_le g1
    have hx : heardE xs kk = 0 := by simp [heardE, hlen, hk]
    have hy : ratsR ats n now kk = ats.set kk now := by simp [ratsR, hk]
    rw [hx, hy]
    have g3 : kk < n := by omega
    obtain ⟨a, ha, ha0, ha1, _⟩ := hs.get g3
    have hc := h.at ha
    have hnew : RDet ((w.setCell ⟨Q, 5 + kk, none⟩ (.int .i64 now)).drew) Q n me every limit now (ats.set kk now) := by
      refine ⟨?_, by simpa using h.len, h.n1⟩
      have := h.q.setInt (5 + kk) now
      rw [List.set_append_right _ _ (by simp), show 5 + kk - [(n : Int), me, every, limit, (now : Int)].length = kk by simp] at this
      exact this.drew
    have HN := Lib.hid hnew
    clear hlen hk hx hy hnew
    go_enter Try.func41, Try.ntmps41
    go_wp2
    go_region
    go_wp2
    go_ret
    exact ⟨rfl, HN.out, ((Kept.refl _ w).set Q (5 + kk) (.inl (by simp)) _).drew⟩
end Go.Proofs.Ytccmnphjiebiaaa
