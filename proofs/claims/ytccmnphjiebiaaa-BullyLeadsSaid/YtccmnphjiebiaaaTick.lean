/- The detector's Alive, Tick and New. Conditions: it lies whole in memory; its numbers are within its limit. -/
import Derived.Test.YtccmnphjiebiaaaDet
import Derived.BigQuiet
import Derived.Deep.OwnRows
namespace Go.Proofs.Ytccmnphjiebiaaa
open Go.RowKit
set_option linter.unusedVariables false
set_option linter.unusedSimpArgs false

theorem Det.drewN {w : World} {P S : Nat} {xs : List Int} {me every limit left : Int} (h : Det w P S xs me every limit left) (n : Nat) : Det (w.drewN n) P S xs me every limit left := ⟨h.p, h.s, h.pos, h.le⟩
theorem Det.drew {w : World} {P S : Nat} {xs : List Int} {me every limit left : Int} (h : Det w P S xs me every limit left) : Det w.drew P S xs me every limit left := ⟨h.p, h.s, h.pos, h.le⟩
theorem Det.kept {F : List Nat} {w w' : World} {P S : Nat} {xs : List Int} {me every limit left : Int} (h : Det w P S xs me every limit left) (hk : Kept F w w') (hP : P ∉ F) (hS : S ∉ F) : Det w' P S xs me every limit left := ⟨h.p.kept hk hP, h.s.kept hk hS, h.pos, h.le⟩
theorem Det.below {w w' : World} {P S : Nat} {xs : List Int} {me every limit left : Int} (h : Det w P S xs me every limit left) (hk : Below w.heap.size w w') : Det w' P S xs me every limit left := ⟨h.p.below hk, h.s.below hk, h.pos, h.le⟩
theorem there_lit {w : World} {P S : Nat} {xs : List Int} {me every limit left : Int} (h : Det w P S xs me every limit left) (k : Int) (b : Bool) (hb : inR k xs.length = b) :
    Calls Try.prog 43 #[.pointer (some ⟨P, 0, none⟩), .int .i64 k] w fun e w' => e = .returned (.bool b) ∧ w' = w :=
  (there_any h k).mono fun _ _ hh => ⟨hb ▸ hh.1, hh.2.symm⟩
def aliveB (xs : List Int) (limit k : Int) : Bool := inR k xs.length && decide (at_ xs k < limit)
theorem alive_any {w : World} {P S : Nat} {xs : List Int} {me every limit left : Int} (h : Det w P S xs me every limit left) (k : Int) :
    Calls Try.prog 31 #[.pointer (some ⟨P, 0, none⟩), .int .i64 k] w fun e w' => e = .returned (.bool (aliveB xs limit k)) ∧ ∃ m, w' = w.drewN m := by
  obtain ⟨c0, c1, c2, c3, c4, cf⟩ := h.p.five
  unfold aliveB
  rcases hk : inR k xs.length with _ | _
  · have H := Lib.hid hk
    clear hk
    go_enter Try.func31, Try.ntmps31
    go_wp2
    go_quiet ((go_at_call 43; exact Calls.quiet_of_same (there_lit (h.drewN _) _ false H.out)))
    go_wp2
    go_ret
    exact ⟨rfl, _, rfl⟩
  · have ha := h.at hk
    have hl := h.le
    obtain ⟨h0, h1⟩ := inR_yes hk
    have H := Lib.hid hk
    clear hk
    go_enter Try.func31, Try.ntmps31
    go_wp2
    go_quiet ((go_at_call 43; exact Calls.quiet_of_same (there_lit (h.drewN _) _ true H.out)))
    go_wp2
    go_ret
    exact ⟨by simp, _, rfl⟩

/-- The ticks behind k rounds. -/
def tickN (me limit : Int) (k : Nat) (xs : List Int) : List Int := xs.mapIdx fun i x => if i < k ∧ (i : Int) ≠ me then (if limit < x + 1 then limit else x + 1) else x
theorem tickN_len (me limit : Int) (k : Nat) (xs : List Int) : (tickN me limit k xs).length = xs.length := by simp [tickN]
theorem tickN_zero (me limit : Int) (xs : List Int) : tickN me limit 0 xs = xs := by
  unfold tickN
  apply List.ext_getElem (by simp)
  intro i h1 h2
  simp
theorem tickN_at (me limit : Int) (k : Nat) (xs : List Int) (hk : k < xs.length) : (tickN me limit k xs)[k]? = some xs[k] := by
  unfold tickN
  simp [List.getElem?_mapIdx, List.getElem?_eq_getElem hk]
theorem tickN_me (me limit : Int) (k : Nat) (xs : List Int) (hm : (k : Int) = me) : tickN me limit (k + 1) xs = tickN me limit k xs := by
  unfold tickN
  apply List.ext_getElem (by simp)
  intro i h1 h2
  simp only [List.getElem_mapIdx]
  by_cases h : i < k
  · have : i < k + 1 := by omega
    simp [h, this]
  · by_cases hi : i = k
    · subst hi; simp [hm]
    · have : ¬ i < k + 1 := by omega
      simp [h, this]
theorem tickN_other (me limit : Int) (k : Nat) (xs : List Int) (hk : k < xs.length) (hm : (k : Int) ≠ me) : tickN me limit (k + 1) xs = (tickN me limit k xs).set k (if limit < xs[k] + 1 then limit else xs[k] + 1) := by
  unfold tickN
  apply List.ext_getElem (by simp)
  intro i h1 h2
  simp only [List.getElem_mapIdx, List.getElem_set]
  by_cases hi : k = i
  · subst hi; simp [hm]
  · rw [if_neg hi]
    by_cases h : i < k
    · have : i < k + 1 := by omega
      simp [h, this]
    · have : ¬ i < k + 1 := by omega
      simp [h, this]
def tickL (me limit : Int) (xs : List Int) : List Int := tickN me limit xs.length xs
def tickB (left : Int) : Bool := decide (left ≤ 1)
def tickLeft (every left : Int) : Int := if left ≤ 1 then every else left - 1

set_option maxHeartbeats 1000000 in
theorem tick_any {w : World} {P S : Nat} {xs : List Int} {me every limit left : Int} (h : Det w P S xs me every limit left)
    (hx : ∀ i (hi : i < xs.length), 0 ≤ xs[i] ∧ xs[i] ≤ 1000000) (hl0 : -1000000 ≤ left) (hl1 : left ≤ 1000000) :
    Calls Try.prog 29 #[.pointer (some ⟨P, 0, none⟩)] w fun e w' => e = .returned (.bool (tickB left)) ∧ Det w' P S (tickL me limit xs) me every limit (tickLeft every left) ∧ Kept [P, S] w w' := by
  obtain ⟨c0, c1, c2, c3, c4, cf⟩ := h.p.five
  have hn := h.ne
  have hle := h.le
  go_enter Try.func29, Try.ntmps29
  go_wp2
  clear c0 c1 c2 c3 c4 cf
  go_loopw [3, 4, 10] (fun _ _ i wr => ∃ k : Nat, k ≤ xs.length ∧ i = .int .i64 k ∧ Det wr P S (tickN me limit k xs) me every limit left ∧ Kept [P, S] w wr) (fun _ _ i _ => xs.length - (intOf i).toNat)
  case atStart => exact ⟨0, Nat.zero_le _, rfl, by rw [tickN_zero]; exact h, Kept.refl _ _⟩
  case round =>
    obtain ⟨k, hk, rfl, hd, hkept⟩ := hrel
    obtain ⟨c0, c1, c2, c3, c4, cf⟩ := hd.p.five
    rw [tickN_len] at c0
    by_cases hlt : k < xs.length
    · have hxk := hx k hlt
      have hs := hd.s.int (tickN_at me limit k xs hlt)
      have hsf := hd.s.free k
      by_cases hm : (k : Int) = me
      · subst hm
        generalize hv : xs[k] = v at hxk hs
        clear hv
        go_wp2
        go_roundw
        case rel => exact ⟨k + 1, by omega, by go_num, by rw [tickN_me _ _ _ _ rfl]; exact hd, hkept⟩
        case measure => simp [intOf]; omega
      · have hnew : Det (wr.setCell ⟨S, k, none⟩ (.int .i64 (if limit < xs[k] + 1 then limit else xs[k] + 1))).drew P S (tickN me limit (k + 1) xs) me every limit left := by
          rw [tickN_other _ _ _ _ hlt hm]
          refine Det.drew ⟨?_, hd.s.setInt _ _, by simpa using hd.pos, by simpa using hd.le⟩
          simpa using hd.p.setOther S k hn.symm (.int .i64 (if limit < xs[k] + 1 then limit else xs[k] + 1))
        have hk2 : Kept [P, S] w (wr.setCell ⟨S, k, none⟩ (.int .i64 (if limit < xs[k] + 1 then limit else xs[k] + 1))).drew := (hkept.set S k (by simp) _).drew
        have HN := Lib.hid (And.intro hnew hk2)
        clear hnew hk2
        generalize hv : xs[k] = v at hxk hs HN
        clear hv
        go_wp2
        go_region
        go_wp2
        go_roundw
        case rel => exact ⟨k + 1, by omega, by go_num, HN.out.1, HN.out.2⟩
        case measure => simp [intOf]; omega
    · obtain rfl : k = xs.length := by omega
      have hf := hd
      by_cases hl : left ≤ 1
      · have e1 : tickB left = true := by simp [tickB, hl]
        have e2 : tickLeft every left = every := by simp [tickLeft, hl]
        have E := Lib.hid (And.intro e1 e2)
        clear e1 e2
        go_wp2
        go_ret
        rw [E.out.1, E.out.2]
        refine ⟨rfl, ⟨?_, ?_, by simpa [tickL] using hd.pos, by simpa [tickL] using hd.le⟩, ?_⟩
        · simpa [tickL] using (hd.p.set 4 (.int .i64 (left - 1))).set 4 (.int .i64 every)
        · exact (hd.s.setOther P 4 hn _).setOther P 4 hn _
        · exact (hkept.set P 4 (by simp) _).set P 4 (by simp) _
      · have e1 : tickB left = false := by simp [tickB, hl]
        have e2 : tickLeft every left = left - 1 := by simp [tickLeft, hl]
        have E := Lib.hid (And.intro e1 e2)
        clear e1 e2
        go_wp2
        go_ret
        rw [E.out.1, E.out.2]
        refine ⟨rfl, ⟨?_, ?_, by simpa [tickL] using hd.pos, by simpa [tickL] using hd.le⟩, ?_⟩
        · simpa [tickL] using (hd.p.set 4 (.int .i64 (left - 1)))
        · exact (hd.s.setOther P 4 hn _)
        · exact (hkept.set P 4 (by simp) _)

def newB (n me every limit : Int) : Bool := decide (1 ≤ n ∧ n ≤ 8 ∧ 0 ≤ me ∧ me < n ∧ 1 ≤ every ∧ every ≤ 100 ∧ 1 ≤ limit ∧ limit ≤ 1000)
set_option maxHeartbeats 1000000 in
theorem new_no (n me every limit : Int) (w : World) (h : newB n me every limit = false) :
    Calls Try.prog 27 #[.int .i64 n, .int .i64 me, .int .i64 every, .int .i64 limit] w fun e w' => e = .returned (.tuple #[.pointer none, .int .i64 1]) ∧ w = w' := by
  have hn : ¬ (1 ≤ n ∧ n ≤ 8 ∧ 0 ≤ me ∧ me < n ∧ 1 ≤ every ∧ every ≤ 100 ∧ 1 ≤ limit ∧ limit ≤ 1000) := by simpa only [newB, decide_eq_false_iff_not] using h
  clear h
  by_cases g0 : n < 1
  · clear hn
    go_enter Try.func27, Try.ntmps27
    go_wp2
    go_ret2
    exact ⟨rfl, rfl⟩
  by_cases g1 : 8 < n
  · clear hn
    go_enter Try.func27, Try.ntmps27
    go_wp2
    go_ret2
    exact ⟨rfl, rfl⟩
  by_cases g2 : me < 0
  · clear hn
    go_enter Try.func27, Try.ntmps27
    go_wp2
    go_ret2
    exact ⟨rfl, rfl⟩
  by_cases g3 : n ≤ me
  · clear hn
    go_enter Try.func27, Try.ntmps27
    go_wp2
    go_ret2
    exact ⟨rfl, rfl⟩
  by_cases g4 : every < 1
  · clear hn
    go_enter Try.func27, Try.ntmps27
    go_wp2
    go_ret2
    exact ⟨rfl, rfl⟩
  by_cases g5 : 100 < every
  · clear hn
    go_enter Try.func27, Try.ntmps27
    go_wp2
    go_ret2
    exact ⟨rfl, rfl⟩
  by_cases g6 : limit < 1
  · clear hn
    go_enter Try.func27, Try.ntmps27
    go_wp2
    go_ret2
    exact ⟨rfl, rfl⟩
  by_cases g7 : 1000 < limit
  · clear hn
    go_enter Try.func27, Try.ntmps27
    go_wp2
    go_ret2
    exact ⟨rfl, rfl⟩
  exact absurd ⟨by omega, by omega, by omega, by omega, by omega, by omega, by omega, by omega⟩ hn
theorem made_ints (n : Nat) : madeCells #[Value.int .i64 0] n = ints (List.replicate n 0) := by
  apply Array.ext_getElem?
  intro i
  simp [madeCells, ints]
  by_cases h : i < n
  · simp [h, Nat.mod_one]
  · simp [h]
theorem info3 : (Try.prog.info? 3).map (fun i => (i.zero, i.size, i.bytes)) = some (some (.int .i64 0), 1, 8) := by kernel_rfl
set_option maxHeartbeats 1000000 in
theorem new_yes (n : Nat) (me every limit : Int) (w : World) (h : newB n me every limit = true) :
    Calls Try.prog 27 #[.int .i64 n, .int .i64 me, .int .i64 every, .int .i64 limit] w fun e w' => ∃ P S, e = .returned (.tuple #[.pointer (some ⟨P, 0, none⟩), .int .i64 0]) ∧ Det w' P S (List.replicate n 0) me every limit every ∧ Below w.heap.size w w' ∧ w.heap.size ≤ P ∧ w.heap.size ≤ S := by
  have hn : (1 ≤ (n : Int) ∧ (n : Int) ≤ 8 ∧ 0 ≤ me ∧ me < n ∧ 1 ≤ every ∧ every ≤ 100 ∧ 1 ≤ limit ∧ limit ≤ 1000) := by simpa only [newB, decide_eq_true_iff] using h
  clear h
  obtain ⟨h0, h1, h2, h3, h4, h5, h6, h7⟩ := hn
  have hmk := run_make_row' (P := Try.prog) 58 3 (.int .i64 0) 8 Try.underlying58 info3 rfl .i64 .i64 n (by omega) (by omega)
  go_enter Try.func27, Try.ntmps27
  go_wp2
  go_ret2
  refine ⟨w.heap.size + 1, w.heap.size, rfl, ⟨?_, ?_, by simp; omega, by simp; omega⟩, (below_new _ _).trans ((below_new _ _).mono (by simp)), by omega, Nat.le_refl _⟩
  · have := Row.new (w.alloc (.cells (madeCells #[.int .i64 0] n) 3)) #[.slice (some ⟨w.heap.size, 0, none⟩) n n, .int .i64 me, .int .i64 every, .int .i64 limit, .int .i64 every] 76
    simpa using this
  · exact ((Row.new w _ 3).alloc _).cast (made_ints n)
end Go.Proofs.Ytccmnphjiebiaaa
