/- The program's Check of a way: slices.ContainsFunc, and what is wrong with a way. No condition. -/
import Derived.Test.YtfmnbkcjibhloaaWays
import Derived.Test.YtfmnbkcjibhloaaKeep
namespace Go.Proofs.Ytfmnbkcjibhloaa
open Go.RowKit
set_option linter.unusedVariables false
set_option linter.unusedSimpArgs false

def gr (n : Int) : Bool := decide (1048576 < n)
def so (n : Int) : Bool := n != 0
theorem great_p (n : Int) (w : World) (b : Bool) (h : gr n = b) : Calls Try.prog 41 #[.int .u32 n] w fun e w' => e = .returned (.bool b) ∧ w = w' := h ▸ great_any n w
theorem some_p (n : Int) (w : World) (b : Bool) (h : so n = b) : Calls Try.prog 43 #[.int .u32 n] w fun e w' => e = .returned (.bool b) ∧ w = w' := by
  subst h
  go_enter Try.func43, Try.ntmps43
  go_wp2
  go_ret
  exact ⟨rfl, rfl⟩
theorem index_any (g : Nat) (eg : ∀ args w, (callFunc g args).run Try.prog w = .ok (.enter g args) w) (p : Int → Bool) (hp : ∀ n w b, p n = b → Calls Try.prog g #[.int .u32 n] w fun e w' => e = .returned (.bool b) ∧ w = w')
    (A o cap : Nat) (zs : List Int) (w : World) (hz : zs.length ≤ 1000) (hc : ∀ i x, zs[i]? = some x → w.cell? ⟨A, o + i, none⟩ = some (.int .u32 x)) :
    Calls Try.prog 53 #[.slice (some ⟨A, o, none⟩) zs.length cap, .func (.func g) #[] #[]] w fun e w' => e = .returned (.int .i64 (idx p zs)) ∧ w = w' := by
  have HC := Lib.hid hc
  have HP := Lib.hid hp
  clear hc hp
  go_enter Try.func53, Try.ntmps53
  go_wp2
  go_loop [5, 8] (fun _ i => ∃ k : Nat, k ≤ zs.length ∧ i = .int .i64 k ∧ Hid (∀ j (hj : j < k), ∀ y, zs[j]? = some y → p y = false)) (fun _ i => zs.length - (intOf i).toNat)
  case atStart => exact ⟨0, Nat.zero_le _, rfl, fun j hj => absurd hj (Nat.not_lt_zero _)⟩
  case round =>
    obtain ⟨k, hk, rfl, hno⟩ := hrel
    by_cases hlt : k < zs.length
    · have hc := HC.out k _ (List.getElem?_eq_getElem hlt)
      rcases hq : p zs[k] with _ | _
      · have hnx : Hid (∀ j (hj : j < k + 1), ∀ y, zs[j]? = some y → p y = false) := by
          intro j hj y hy
          by_cases e : j = k
          · subst e; rw [List.getElem?_eq_getElem hlt] at hy; cases hy; exact hq
          · exact hno j (by omega) y hy
        have HQ := Lib.hid hq
        clear hno hq
        generalize zs[k] = v at hc HQ
        go_wp2
        refine (HP.out v w false HQ.out).mono ?_
        rintro e w' ⟨rfl, rfl⟩
        go_wp2
        go_round
        case rel => exact ⟨k + 1, by omega, by go_num, hnx⟩
        case measure => simp [intOf]; omega
      · have hres : idx p zs = (k : Int) := idx_hit hlt hq (fun j hj => hno j hj _ (List.getElem?_eq_getElem (by omega)))
        have HQ := Lib.hid hq
        have HR := Lib.hid hres
        clear hno hq hres
        generalize zs[k] = v at hc HQ
        go_wp2
        refine (HP.out v w true HQ.out).mono ?_
        rintro e w' ⟨rfl, rfl⟩
        go_wp2
        go_ret
        exact ⟨by rw [HR.out]; rfl, rfl⟩
    · obtain rfl : k = zs.length := by omega
      have hres : idx p zs = -1 := idx_none (fun j hj => hno j hj _ (List.getElem?_eq_getElem hj))
      have HR := Lib.hid hres
      clear hres hno
      go_wp2
      go_ret
      exact ⟨by rw [HR.out]; rfl, rfl⟩
theorem contains_any (g : Nat) (eg : ∀ args w, (callFunc g args).run Try.prog w = .ok (.enter g args) w) (p : Int → Bool) (hp : ∀ n w b, p n = b → Calls Try.prog g #[.int .u32 n] w fun e w' => e = .returned (.bool b) ∧ w = w')
    (A o cap : Nat) (zs : List Int) (w : World) (hz : zs.length ≤ 1000) (hc : ∀ i x, zs[i]? = some x → w.cell? ⟨A, o + i, none⟩ = some (.int .u32 x)) (b : Bool) (hb : zs.any p = b) :
    Calls Try.prog 42 #[.slice (some ⟨A, o, none⟩) zs.length cap, .func (.func g) #[] #[]] w fun e w' => e = .returned (.bool b) ∧ w = w' := by
  have hi := index_any g eg p hp A o cap zs w hz hc
  rcases idx_cases p zs with ⟨e1, hall⟩ | ⟨k, hk, e1, ht, hall⟩
  · have hb2 : b = false := by
      rw [← hb, List.any_eq_false]; intro x hx; simp [hall x hx]
    subst hb2
    rw [e1] at hi
    have HI := Lib.hid hi
    clear hi e1 hall hb hc hp eg
    go_enter Try.func42, Try.ntmps42
    go_wp2_with (go_at_call 53; refine HI.out.mono ?_; rintro e w' ⟨rfl, rfl⟩)
    go_ret
    exact ⟨rfl, rfl⟩
  · have hb2 : b = true := by
      rw [← hb, List.any_eq_true]; exact ⟨_, List.getElem_mem hk, ht⟩
    subst hb2
    rw [e1] at hi
    have HI := Lib.hid hi
    clear hi e1 hall hb hc hp ht eg
    go_enter Try.func42, Try.ntmps42
    go_wp2_with (go_at_call 53; refine HI.out.mono ?_; rintro e w' ⟨rfl, rfl⟩)
    go_ret
    exact ⟨rfl, rfl⟩

theorem eg41 (args : Array Value) (w : World) : (callFunc 41 args).run Try.prog w = .ok (.enter 41 args) w := by go_simp
theorem eg43 (args : Array Value) (w : World) : (callFunc 43 args).run Try.prog w = .ok (.enter 43 args) w := by go_simp
def Pa.al (p : Pa) : List Int := [p.a0, p.a1, p.a2, p.a3]
def Pa.ll (p : Pa) : List Int := [p.l0, p.l1, p.l2]
/-- Are a way's depths amiss? -/
def dpt (p : Pa) : Bool := decide (p.f < 0) || decide (3 < p.f) || decide (p.k < 0) || decide (p.f < p.k) || decide (p.u < 0) || decide (3 - p.k < p.u)
/-- What is wrong with a way. -/
def chk (p : Pa) : Int :=
  if dpt p = true then 10 else if (p.al.any gr || p.ll.any gr) = true then 1
  else if ((p.al.drop (1 + p.k).toNat).any so || (p.ll.drop p.u.toNat).any so) = true then 6 else 0
theorem dpt_no {p : Pa} (h : dpt p = false) : 0 ≤ p.f ∧ p.f ≤ 3 ∧ 0 ≤ p.k ∧ p.k ≤ p.f ∧ 0 ≤ p.u ∧ p.u ≤ 3 - p.k := by
  simp [dpt] at h; omega
set_option maxHeartbeats 1000000 in
theorem check_depth (p : Pa) (w : World) (h : dpt p = true) :
    Calls Try.prog 22 #[.agg #[.int .i64 p.f, .int .i64 p.k, .int .u32 p.a0, .int .u32 p.a1, .int .u32 p.a2, .int .u32 p.a3, .int .i64 p.u, .int .u32 p.l0, .int .u32 p.l1, .int .u32 p.l2]] w fun e w' => e = .returned (.int .i64 10) ∧ Below w.heap.size w w' := by
  have hn : p.f < 0 ∨ 3 < p.f ∨ p.k < 0 ∨ p.f < p.k ∨ p.u < 0 ∨ 3 - p.k < p.u := by
    simp [dpt] at h; omega
  clear h
  by_cases g1 : inB p.f = true
  · obtain ⟨x1, x2⟩ := inB_yes g1
    by_cases g2 : p.k < 0
    · clear hn
      go_enter Try.func22, Try.ntmps22
      go_wp2_with (go_at_call 40; refine (there_any _ _).mono ?_; rintro e w' ⟨rfl, rfl⟩)
      go_ret
      exact ⟨rfl, below_new _ _⟩
    by_cases g3 : p.f < p.k
    · clear hn
      go_enter Try.func22, Try.ntmps22
      go_wp2_with (go_at_call 40; refine (there_any _ _).mono ?_; rintro e w' ⟨rfl, rfl⟩)
      go_ret
      exact ⟨rfl, below_new _ _⟩
    rcases g4 : inB p.u with _ | _
    · clear hn
      go_enter Try.func22, Try.ntmps22
      go_wp2_with (go_at_call 40; refine (there_any _ _).mono ?_; rintro e w' ⟨rfl, rfl⟩)
      go_ret
      exact ⟨rfl, below_new _ _⟩
    obtain ⟨y1, y2⟩ := inB_yes g4
    have g5 : inB (p.k + p.u) = false := by simp [inB]; omega
    clear hn
    go_enter Try.func22, Try.ntmps22
    go_wp2_with (go_at_call 40; refine (there_any _ _).mono ?_; rintro e w' ⟨rfl, rfl⟩)
    go_ret
    exact ⟨rfl, below_new _ _⟩
  · have g1' : inB p.f = false := by simpa using g1
    clear hn g1
    go_enter Try.func22, Try.ntmps22
    go_wp2_with (go_at_call 40; refine (there_any _ _).mono ?_; rintro e w' ⟨rfl, rfl⟩)
    go_ret
    exact ⟨rfl, below_new _ _⟩
end Go.Proofs.Ytfmnbkcjibhloaa
