/- BeatBeats: of ticks in a row just one of every so many is one to beat at; for every input, no condition. THE WALK. -/
import Derived.Test.YtioeahmimcnjpaaWorks
namespace Go.Proofs.Ytioeahmimcnjpaa
open Go.RowKit
set_option linter.unusedVariables false
set_option linter.unusedSimpArgs false
theorem next_no (k ev : Nat) (h0 : 0 < ev) (h : k % ev + 1 ≠ ev) : (k + 1) / ev = k / ev ∧ (k + 1) % ev = k % ev + 1 := by
  have h1 := Nat.div_add_mod k ev
  have h2 := Nat.mod_lt k h0
  generalize k / ev = q at *
  generalize k % ev = r at *
  subst h1
  constructor
  · rw [Nat.add_assoc, Nat.mul_add_div h0, Nat.div_eq_of_lt (by omega)]; rfl
  · rw [Nat.add_assoc, Nat.mul_add_mod, Nat.mod_eq_of_lt (by omega)]
theorem next_yes (k ev : Nat) (h0 : 0 < ev) (h : k % ev + 1 = ev) : (k + 1) / ev = k / ev + 1 ∧ (k + 1) % ev = 0 := by
  have h1 := Nat.div_add_mod k ev
  generalize k / ev = q at *
  generalize k % ev = r at *
  have e : k + 1 = ev * (q + 1) := by rw [Nat.mul_add, Nat.mul_one]; omega
  rw [e]
  exact ⟨Nat.mul_div_cancel_left _ h0, Nat.mul_mod_right _ _⟩
theorem rem_nat (a : Int) (m : Nat) (hm : 0 < m) (hm' : m ≤ 100000) : ∃ r : Nat, wrap64 ((IntKind.u64.wrap a).tmod m) = (r : Int) ∧ r < m := by
  have h0 : 0 ≤ IntKind.u64.wrap a := by rw [IntKind.wrap_u64]; omega
  obtain ⟨u, hu⟩ := Int.eq_ofNat_of_zero_le h0
  rw [hu]
  refine ⟨u % m, ?_, Nat.mod_lt _ hm⟩
  have := Nat.mod_lt u hm
  have e : ((u : Int).tmod m) = ((u % m : Nat) : Int) := rfl
  rw [e]
  unfold wrap64; omega
theorem small1 (a : Int) (ha : 0 ≤ a ∧ a ≤ 1000000) : ∀ i (hi : i < [a].length), 0 ≤ [a][i] ∧ [a][i] ≤ 1000000 := by
  intro i hi
  match i, hi with
  | 0, _ => exact ha
theorem dead_none {w : World} {P S : Nat} {xs : List Int} {me every limit left : Int} (h : Det w P S xs me every limit left) (hz : deadL xs limit = []) :
    Calls Try.prog 9 #[.pointer (some ⟨P, 0, none⟩)] w fun e w' => ∃ a cap, e = .returned (.slice a 0 cap) ∧ Below w.heap.size w w' := by
  refine (dead_any h).mono ?_
  rintro e w' ⟨v, rfl, hr, hbase, hb⟩
  rw [hz] at hr
  rcases hr with ⟨rfl, h0⟩ | ⟨g, cap, cur, rfl, hrow, hh⟩
  · exact ⟨_, _, rfl, hb⟩
  · exact ⟨_, _, rfl, hb⟩
set_option maxHeartbeats 2000000 in
theorem beats_any (a b : Int) (w : World) :
    Calls Try.prog 3 #[.int .i64 a, .int .i64 b] w fun e w' => e = .returned (.bool true) ∧ Below w.heap.size w w' := by
  go_enter Try.func3, Try.ntmps3
  go_upto_region 3 with (go_at_call 6; refine (works_any _).mono ?_; rintro e w0 ⟨rfl, hb0⟩)
  go_cut [0, 1] (fun v0 v1 wc => (∃ ev : Nat, v0 = .int .i64 ev ∧ 1 ≤ ev ∧ ev ≤ 100) ∧ (∃ tk : Nat, v1 = .int .i64 tk ∧ tk < 1000) ∧ Below w.heap.size w wc)
  case first =>
    go_wp2_with fail
    go_meet
    case rel =>
      obtain ⟨r1, e1, l1⟩ := rem_nat a 100 (by omega) (by omega)
      obtain ⟨tk, e2, l2⟩ := rem_nat b 1000 (by omega) (by omega)
      simp only [show ((100 : Nat) : Int) = 100 from rfl, show ((1000 : Nat) : Int) = 1000 from rfl] at e1 e2
      exact ⟨⟨r1 + 1, by rw [e1]; congr 1; unfold wrap64; omega, by omega, by omega⟩, ⟨tk, by rw [e2], l2⟩, hb0⟩
  case rest =>
  clear hb0
  obtain ⟨⟨ev, rfl, g1, g2⟩, ⟨tk, rfl, l2⟩, hb0⟩ := hcut
  go_upto_region 5 with (go_at_call 7; refine (new_yes 1 0 ev 10 _ (by simp [newB]; omega)).mono ?_; rintro e w1 ⟨P, S, rfl, hd, hb, hP, hS⟩)
  go_upto_region 8 with (fail)
  have hd0 : Det w1 P S [0] 0 ev 10 ev := hd
  clear hd
  go_wp2
  go_loopw [7, 8] (fun n i wr => ∃ k : Nat, k ≤ tk ∧ i = .int .i64 k ∧ n = .int .i64 (k / ev : Nat) ∧ Det wr P S [0] 0 ev 10 ((ev : Int) - (k % ev : Nat)) ∧ Kept [P, S] w1 wr) (fun _ i _ => tk - (intOf i).toNat)
  case atStart => exact ⟨0, Nat.zero_le _, rfl, by simp, by simpa using hd0, Kept.refl _ _⟩
  case round =>
    obtain ⟨k, hk, rfl, rfl, hdk, hkk⟩ := hrel
    have hm := Nat.mod_lt k (show 0 < ev by omega)
    have hq := Nat.div_le_self k ev
    by_cases hlt : k < tk
    · by_cases hn : k % ev + 1 = ev
      · obtain ⟨n1, n2⟩ := next_yes k ev (by omega) hn
        have ht := tick_at hdk [0] true ev (small1 _ (by omega)) (by omega) (by omega) (by simp [tickL, tickN]) (by simp [tickB]; omega) (by simp [tickLeft]; omega)
        have HT := Lib.hid ht
        have HN := Lib.hid (And.intro n1 n2)
        clear ht n1 n2 hn hdk hd0
        generalize k / ev = q at hq HN
        go_wp2_with (go_at_call 8; refine HT.out.mono ?_; rintro e w' ⟨rfl, hd', hk'⟩)
        go_roundw
        case rel => exact ⟨k + 1, by omega, by go_num, by rw [HN.out.1]; go_num, by rw [HN.out.2]; simpa using hd', hkk.trans hk'⟩
        case measure => simp [intOf]; omega
      · obtain ⟨n1, n2⟩ := next_no k ev (by omega) hn
        have ht := tick_at hdk [0] false ((ev : Int) - (k % ev : Nat) - 1) (small1 _ (by omega)) (by omega) (by omega) (by simp [tickL, tickN]) (by simp [tickB]; omega) (by unfold tickLeft; rw [if_neg (by omega)])
        have HT := Lib.hid ht
        have HN := Lib.hid (And.intro n1 n2)
        clear ht n1 n2 hn hdk hd0
        generalize k / ev = q at hq HN
        go_wp2_with (go_at_call 8; refine HT.out.mono ?_; rintro e w' ⟨rfl, hd', hk'⟩)
        go_roundw
        case rel => exact ⟨k + 1, by omega, by go_num, by rw [HN.out.1], by rw [HN.out.2, show (ev : Int) - ((k % ev + 1 : Nat) : Int) = (ev : Int) - (k % ev : Nat) - 1 by omega]; exact hd', hkk.trans hk'⟩
        case measure => simp [intOf]; omega
    · obtain rfl : k = tk := by omega
      have HD := Lib.hid (dead_none hdk (by decide))
      have hz1 : 0 ≤ (k : Int) / (ev : Int) := Int.ediv_nonneg (by omega) (by omega)
      clear hd0 hdk
      go_wp2_with (go_at_call 9; refine HD.out.mono ?_; rintro e w' ⟨va, cap, rfl, hb'⟩)
      go_ret
      refine ⟨rfl, ?_⟩
      exact below_of hb0 (hb.trans ((hkk.below hb').toBelow (by simp; exact ⟨hP, hS⟩) hb.size))
end Go.Proofs.Ytioeahmimcnjpaa
