/- The document's word as the program's; comparing lists of words. Conditions: the lists lie whole in memory. -/
import Derived.Test.YtccmnphjiebiaaaWhole
namespace Go.Proofs.Ytccmnphjiebiaaa
open Go.RowKit G
set_option linter.unusedVariables false
set_option linter.unusedSimpArgs false
attribute [local go_sem] upon_value upon_skip upon_enter runAt_run
theorem word_any (k f t m : Int) (w : World) :
    Calls Try.prog 11 #[.agg #[.int .i64 k, .int .i64 f, .int .i64 t, .int .i64 m]] w fun e w' => e = .returned (.agg #[.int .i64 k, .int .i64 f, .int .i64 t, .int .i64 m]) ∧ Below w.heap.size w w' := by
  go_enter Try.func11, Try.ntmps11
  go_wp2
  refine bodyPost_ret (v := .agg #[.int .i64 k, .int .i64 f, .int .i64 t, .int .i64 m]) (by simp [results, Try.results11, go_sem, *]) rfl ⟨rfl, ?_⟩
  exact below_of (below_new _ _) (below_new _ _)
/-- A slice that reads as these words. -/
def WIn (w : World) (v : Value) (ws : List Wd) : Prop := (v = .slice none 0 0 ∧ ws = []) ∨ ∃ g cap, v = .slice (some ⟨g, 0, none⟩) ws.length cap ∧ ∀ (i : Nat) (y : Wd), ws[i]? = some y →
  w.cell? ⟨g, i * 4, none⟩ = some (.int .i64 y.k) ∧ w.cell? ⟨g, i * 4 + 1, none⟩ = some (.int .i64 y.f) ∧ w.cell? ⟨g, i * 4 + 2, none⟩ = some (.int .i64 y.t) ∧ w.cell? ⟨g, i * 4 + 3, none⟩ = some (.int .i64 y.m)
theorem wds_get (ws : List Wd) (i : Nat) (y : Wd) (h : ws[i]? = some y) (j : Nat) (hj : j < 4) : (wds ws)[i * 4 + j]? = (wdc y)[j]? := by
  induction ws generalizing i with
  | nil => simp at h
  | cons x l ih =>
    have e : wds (x :: l) = wdc x ++ wds l := by simp [wds]
    rw [e]
    cases i with
    | zero =>
      simp at h; subst h
      rw [Nat.zero_mul, Nat.zero_add, List.getElem?_append_left (by simp [wdc]; omega)]
    | succ i =>
      rw [List.getElem?_append_right (by simp [wdc]; omega)]
      have : (i + 1) * 4 + j - (wdc x).length = i * 4 + j := by simp [wdc]; omega
      rw [this]
      exact ih i (by simpa using h)
theorem Sl.read {E : TypeId} {w : World} {v : Value} {ws : List Wd} (h : Sl E w v ws) : WIn w v ws := by
  have h0 := h
  rcases h.2 with ⟨rfl, hn⟩ | ⟨g, cap, cur, rfl, -⟩
  · exact .inl ⟨rfl, List.eq_nil_of_length_eq_zero hn⟩
  · refine .inr ⟨g, cap, rfl, fun i y hy => ?_⟩
    have holds : ∀ j u, (wds ws)[j]? = some u → w.cell? ((⟨g, 0, none⟩ : Addr).add j) = some u := h0.cells (g := g) rfl
    have key : ∀ j u, j < 4 → (wdc y)[j]? = some u → w.cell? ⟨g, i * 4 + j, none⟩ = some u := fun j u hj hu => by
      have := holds (i * 4 + j) u (by rw [wds_get ws i y hy j hj]; exact hu)
      have e : (⟨g, 0, none⟩ : Addr).add (i * 4 + j) = ⟨g, i * 4 + j, none⟩ := by
        by_cases hz : i * 4 + j = 0
        · rw [hz]; rfl
        · have e1 : ¬ (i * 4 = 0 ∧ j = 0) := by omega
          simp [Addr.add, e1]
      rw [e] at this
      exact this
    exact ⟨key 0 _ (by decide) rfl, key 1 _ (by decide) rfl, key 2 _ (by decide) rfl, key 3 _ (by decide) rfl⟩
set_option maxHeartbeats 1000000 in
theorem same_any {w : World} {v v' : Value} {ws : List Wd} (h : WIn w v ws) (h' : WIn w v' ws) (hz : ws.length ≤ 1048576) :
    Calls Try.prog 13 #[v, v'] w fun e w' => e = .returned (.bool true) ∧ ∃ m, w' = w.drewN m := by
  rcases h with ⟨rfl, rfl⟩ | ⟨g, cap, rfl, hg⟩
  · rcases h' with ⟨rfl, -⟩ | ⟨g', cap', rfl, hg'⟩
    · go_enter Try.func13, Try.ntmps13
      go_wp2
      go_loopw [5] (fun i wr => i = .int .i64 0 ∧ wr = w) (fun i _ => 0)
      case atStart => exact ⟨rfl, rfl⟩
      case round =>
        obtain ⟨rfl, rfl⟩ := hrel
        go_wp2
        go_ret
        exact ⟨rfl, 0, rfl⟩
    · clear hg'
      simp only [List.length_nil]
      go_enter Try.func13, Try.ntmps13
      go_wp2
      go_loopw [5] (fun i wr => i = .int .i64 0 ∧ wr = w) (fun i _ => 0)
      case atStart => exact ⟨rfl, rfl⟩
      case round =>
        obtain ⟨rfl, rfl⟩ := hrel
        go_wp2
        go_ret
        exact ⟨rfl, 0, rfl⟩
  · rcases h' with ⟨rfl, rfl⟩ | ⟨g', cap', rfl, hg'⟩
    · clear hg
      simp only [List.length_nil]
      go_enter Try.func13, Try.ntmps13
      go_wp2
      go_loopw [5] (fun i wr => i = .int .i64 0 ∧ wr = w) (fun i _ => 0)
      case atStart => exact ⟨rfl, rfl⟩
      case round =>
        obtain ⟨rfl, rfl⟩ := hrel
        go_wp2
        go_ret
        exact ⟨rfl, 0, rfl⟩
    · have HG := Lib.hid (And.intro hg hg')
      clear hg hg'
      go_enter Try.func13, Try.ntmps13
      go_wp2
      go_loopw [5] (fun i wr => ∃ k : Nat, k ≤ ws.length ∧ i = .int .i64 k ∧ ∃ m, wr = w.drewN m) (fun i _ => ws.length - (intOf i).toNat)
      case atStart => exact ⟨0, Nat.zero_le _, rfl, 0, rfl⟩
      case round =>
        obtain ⟨k, hk, rfl, m, rfl⟩ := hrel
        by_cases hlt : k < ws.length
        · obtain ⟨a0, a1, a2, a3⟩ := HG.out.1 k _ (List.getElem?_eq_getElem hlt)
          obtain ⟨b0, b1, b2, b3⟩ := HG.out.2 k _ (List.getElem?_eq_getElem hlt)
          generalize ws[k].k = x0 at a0 b0
          generalize ws[k].f = x1 at a1 b1
          generalize ws[k].t = x2 at a2 b2
          generalize ws[k].m = x3 at a3 b3
          have hl1 : (k : Int) < (ws.length : Int) := by omega
          go_wp2
          go_quiet (fail)
          go_wp2
          go_roundw
          case rel => exact ⟨k + 1, by omega, by go_num, m + nq, rfl⟩
          case measure => simp [intOf]; omega
        · obtain rfl : k = ws.length := by omega
          go_wp2
          go_ret
          exact ⟨rfl, m, rfl⟩
end Go.Proofs.Ytccmnphjiebiaaa
