/- A new node, the program's and the reference's. Condition of the good way: the numbers are within the bounds. -/
import Derived.Test.YtccmnphjiebiaaaWhole
namespace Go.Proofs.Ytccmnphjiebiaaa
open Go.RowKit G
set_option linter.unusedVariables false
set_option linter.unusedSimpArgs false
def nodeB (n self wait every : Int) : Bool := decide (1 ≤ n ∧ n ≤ 8 ∧ 0 ≤ self ∧ self < n ∧ 1 ≤ wait ∧ wait ≤ 100 ∧ 1 ≤ every ∧ every ≤ 100)
def PN.new (n : Nat) (self wait every : Int) : PN := ⟨⟨n, self, wait, 0, -1, 0, 0, []⟩, List.replicate n 0, every, 3 * every + wait, every⟩
def RN.new (n : Nat) (self wait : Int) (every : Nat) : RN := ⟨⟨n, self, wait, 0, -1, 0, 0, []⟩, every, 3 * every + wait, 0, [0, 0, 0, 0, 0, 0, 0, 0]⟩
set_option maxHeartbeats 1000000 in
theorem born_no (n self wait every : Int) (w : World) (h : nodeB n self wait every = false) :
    Calls Try.prog 6 #[.int .i64 n, .int .i64 self, .int .i64 wait, .int .i64 every] w fun e w' => e = .returned (.tuple #[.pointer none, .int .i64 1]) ∧ w = w' := by
  have hn : ¬ (1 ≤ n ∧ n ≤ 8 ∧ 0 ≤ self ∧ self < n ∧ 1 ≤ wait ∧ wait ≤ 100 ∧ 1 ≤ every ∧ every ≤ 100) := by simpa only [nodeB, decide_eq_false_iff_not] using h
  clear h
  by_cases g0 : n < 1
  · clear hn
    go_enter Try.func6, Try.ntmps6
    go_wp2
    go_ret2
    exact ⟨rfl, rfl⟩
  by_cases g1 : 8 < n
  · clear hn
    go_enter Try.func6, Try.ntmps6
    go_wp2
    go_ret2
    exact ⟨rfl, rfl⟩
  by_cases g2 : self < 0
  · clear hn
    go_enter Try.func6, Try.ntmps6
    go_wp2
    go_ret2
    exact ⟨rfl, rfl⟩
  by_cases g3 : n ≤ self
  · clear hn
    go_enter Try.func6, Try.ntmps6
    go_wp2
    go_ret2
    exact ⟨rfl, rfl⟩
  by_cases g4 : wait < 1
  · clear hn
    go_enter Try.func6, Try.ntmps6
    go_wp2
    go_ret2
    exact ⟨rfl, rfl⟩
  by_cases g5 : 100 < wait
  · clear hn
    go_enter Try.func6, Try.ntmps6
    go_wp2
    go_ret2
    exact ⟨rfl, rfl⟩
  by_cases g6 : every < 1
  · clear hn
    go_enter Try.func6, Try.ntmps6
    go_wp2
    go_ret2
    exact ⟨rfl, rfl⟩
  by_cases g7 : 100 < every
  · clear hn
    go_enter Try.func6, Try.ntmps6
    go_wp2
    go_ret2
    exact ⟨rfl, rfl⟩
  exact absurd ⟨by omega, by omega, by omega, by omega, by omega, by omega, by omega, by omega⟩ hn
set_option maxHeartbeats 1000000 in
theorem rborn_no (n self wait every : Int) (w : World) (h : nodeB n self wait every = false) :
    Calls Try.prog 7 #[.int .i64 n, .int .i64 self, .int .i64 wait, .int .i64 every] w fun e w' => e = .returned (.tuple #[.pointer none, .int .i64 1]) ∧ w = w' := by
  have hn : ¬ (1 ≤ n ∧ n ≤ 8 ∧ 0 ≤ self ∧ self < n ∧ 1 ≤ wait ∧ wait ≤ 100 ∧ 1 ≤ every ∧ every ≤ 100) := by simpa only [nodeB, decide_eq_false_iff_not] using h
  clear h
  by_cases g0 : n < 1
  · clear hn
    go_enter Try.func7, Try.ntmps7
    go_wp2
    go_ret2
    exact ⟨rfl, rfl⟩
  by_cases g1 : 8 < n
  · clear hn
    go_enter Try.func7, Try.ntmps7
    go_wp2
    go_ret2
    exact ⟨rfl, rfl⟩
  by_cases g2 : self < 0
  · clear hn
    go_enter Try.func7, Try.ntmps7
    go_wp2
    go_ret2
    exact ⟨rfl, rfl⟩
  by_cases g3 : n ≤ self
  · clear hn
    go_enter Try.func7, Try.ntmps7
    go_wp2
    go_ret2
    exact ⟨rfl, rfl⟩
  by_cases g4 : wait < 1
  · clear hn
    go_enter Try.func7, Try.ntmps7
    go_wp2
    go_ret2
    exact ⟨rfl, rfl⟩
  by_cases g5 : 100 < wait
  · clear hn
    go_enter Try.func7, Try.ntmps7
    go_wp2
    go_ret2
    exact ⟨rfl, rfl⟩
  by_cases g6 : every < 1
  · clear hn
    go_enter Try.func7, Try.ntmps7
    go_wp2
    go_ret2
    exact ⟨rfl, rfl⟩
  by_cases g7 : 100 < every
  · clear hn
    go_enter Try.func7, Try.ntmps7
    go_wp2
    go_ret2
    exact ⟨rfl, rfl⟩
  exact absurd ⟨by omega, by omega, by omega, by omega, by omega, by omega, by omega, by omega⟩ hn
set_option maxHeartbeats 1000000 in
theorem born_yes (n : Nat) (self wait : Int) (every : Int) (w : World) (h : nodeB n self wait every = true) :
    Calls Try.prog 6 #[.int .i64 n, .int .i64 self, .int .i64 wait, .int .i64 every] w fun e w' => ∃ P D S, e = .returned (.tuple #[ptr P, .int .i64 0]) ∧ PAt w' P D S (.slice none 0 0) (PN.new n self wait every) ∧ Below w.heap.size w w' ∧ ∀ b ∈ fp P D S (.slice none 0 0), w.heap.size ≤ b := by
  have hn : (1 ≤ (n : Int) ∧ (n : Int) ≤ 8 ∧ 0 ≤ self ∧ self < n ∧ 1 ≤ wait ∧ wait ≤ 100 ∧ 1 ≤ (every : Int) ∧ (every : Int) ≤ 100) := by simpa only [nodeB, decide_eq_true_iff] using h
  clear h
  obtain ⟨h0, h1, h2, h3, h4, h5, h6, h7⟩ := hn
  have hw1 : wrap64 (3 * (every : Int)) = 3 * every := wrap64_mid (by omega) (by omega)
  have hw2 : wrap64 (3 * (every : Int) + wait) = 3 * every + wait := wrap64_mid (by omega) (by omega)
  have HB := Lib.hid (show newB n self every (3 * every + wait) = true by simp only [newB, decide_eq_true_iff]; omega)
  go_enter Try.func6, Try.ntmps6
  go_upto_region 4 with (go_at_call 27; (with_reducible refine (new_yes n self every (3 * every + wait) w HB.out).mono ?_); rintro e' w1 ⟨D, S, rfl, hd, hb, hD, hS⟩)
  have hlt : D < w1.heap.size := hd.p.lt
  have hlt2 : S < w1.heap.size := hd.s.lt
  have hsz := hb.size
  have hA : PAt (w1.alloc (.cells (Nd.row ⟨n, self, wait, 0, -1, 0, 0, []⟩ (ptr D) (.slice none 0 0)) 69)) w1.heap.size D S (.slice none 0 0) (PN.new n self wait every) :=
    ⟨⟨Row.new _ _ _, World.ownsRow_nil _ _ _ _, by simp [own_none]⟩, hd.below (below_new _ _), by simp [own_none]; omega, by simp [own_none]; omega⟩
  have hbb : Below w.heap.size w (w1.alloc (.cells (Nd.row ⟨n, self, wait, 0, -1, 0, 0, []⟩ (ptr D) (.slice none 0 0)) 69)) := below_of hb (below_new _ _)
  have HF := Lib.hid (And.intro hA (And.intro hbb (show ∀ b ∈ fp w1.heap.size D S (.slice none 0 0), w.heap.size ≤ b by
    intro b hb'
    simp [fp, own_none] at hb'
    omega)))
  clear hd hb hD hS hlt hlt2 hsz hA hbb
  go_wp2
  go_ret2
  exact ⟨_, _, _, rfl, HF.out⟩
set_option maxHeartbeats 1000000 in
theorem rborn_yes (n : Nat) (self wait : Int) (every : Nat) (w : World) (h : nodeB n self wait every = true) :
    Calls Try.prog 7 #[.int .i64 n, .int .i64 self, .int .i64 wait, .int .i64 every] w fun e w' => ∃ P D, e = .returned (.tuple #[ptr P, .int .i64 0]) ∧ RAt w' P D (.slice none 0 0) n (RN.new n self wait every) ∧ Below w.heap.size w w' ∧ ∀ b ∈ rfp P D (.slice none 0 0), w.heap.size ≤ b := by
  have hn : (1 ≤ (n : Int) ∧ (n : Int) ≤ 8 ∧ 0 ≤ self ∧ self < n ∧ 1 ≤ wait ∧ wait ≤ 100 ∧ 1 ≤ (every : Int) ∧ (every : Int) ≤ 100) := by simpa only [nodeB, decide_eq_true_iff] using h
  clear h
  obtain ⟨h0, h1, h2, h3, h4, h5, h6, h7⟩ := hn
  have hw1 : wrap64 (3 * (every : Int)) = 3 * every := wrap64_mid (by omega) (by omega)
  have hw2 : wrap64 (3 * (every : Int) + wait) = 3 * every + wait := wrap64_mid (by omega) (by omega)
  have HB := Lib.hid (show newB n self every (3 * every + wait) = true by simp only [newB, decide_eq_true_iff]; omega)
  go_enter Try.func7, Try.ntmps7
  go_upto_region 4 with (go_at_call 28; (with_reducible refine (rnew_yes n self every (3 * every + wait) w HB.out).mono ?_); rintro e' w1 ⟨D, rfl, hd, hb, hD⟩)
  have hlt : D < w1.heap.size := hd.q.lt
  have hsz := hb.size
  have hA : RAt (w1.alloc (.cells (Nd.row ⟨n, self, wait, 0, -1, 0, 0, []⟩ (ptr D) (.slice none 0 0)) 52)) w1.heap.size D (.slice none 0 0) n (RN.new n self wait every) :=
    ⟨⟨Row.new _ _ _, World.ownsRow_nil _ _ _ _, by simp [own_none]⟩, hd.below (below_new _ _), by simp [own_none]; omega⟩
  have hbb : Below w.heap.size w (w1.alloc (.cells (Nd.row ⟨n, self, wait, 0, -1, 0, 0, []⟩ (ptr D) (.slice none 0 0)) 52)) := below_of hb (below_new _ _)
  have HF := Lib.hid (And.intro hA (And.intro hbb (show ∀ b ∈ rfp w1.heap.size D (.slice none 0 0), w.heap.size ≤ b by
    intro b hb'
    simp [rfp, own_none] at hb'
    omega)))
  clear hd hb hD hlt hsz hA hbb
  go_wp2
  go_ret2
  exact ⟨_, _, rfl, HF.out⟩
end Go.Proofs.Ytccmnphjiebiaaa
