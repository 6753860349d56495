/- A node's small acts: Out, Wants, State. Conditions: the node lies whole in memory; its term is small. -/
import Derived.Test.YtccmnphjiebiaaaAsk
namespace Go.Proofs.Ytccmnphjiebiaaa
open Go.RowKit G
set_option linter.unusedVariables false
set_option linter.unusedSimpArgs false
def Nd.outed (x : Nd) : Nd := { x with ws := [] }
theorem own_none : own (.slice none 0 0) = [] := rfl
def Nd.wants (x : Nd) : Int × Bool := if x.role = 3 then (x.term + 1, true) else (0, false)
theorem wrap64_big {n : Int} (h : -1000000000000000 ≤ n) (h' : n ≤ 1000000000000000) : wrap64 n = n := by unfold wrap64; omega
theorem out_any {w : World} {P : Nat} {x : Nd} {h v : Value} (hN : NodeAt 69 35 w P x h v) :
    Calls Try.prog 15 #[.pointer (some ⟨P, 0, none⟩)] w fun e w' => e = .returned v ∧ NodeAt 69 35 w' P x.outed h (.slice none 0 0) ∧ Kept [P] w w' := by
  obtain ⟨c0, c1, c2, c3, c4, c5, c6, c7, c8, cf⟩ := hN.cells
  obtain ⟨p, sl, sc⟩ := own_slice hN.s
  have hR : Row (w.setCell ⟨P, 8, none⟩ (.slice none 0 0)) P (x.outed.row h (.slice none 0 0)) 69 := (hN.r.set 8 _).cast (by simp [Nd.row, Nd.outed])
  have H := Lib.hid hR
  clear hN hR
  go_enter Try.func15, Try.ntmps15
  go_wp2
  go_ret
  exact ⟨rfl, ⟨H.out, World.ownsRow_nil _ _ _ _, by simp [own_none]⟩, (Kept.refl _ _).set P 8 (.inl (by simp)) _⟩
theorem wants_any {w : World} {P : Nat} {n self wait role lead term ticks : Int} {ws : List Wd} {h v : Value} (hN : NodeAt 69 35 w P ⟨n, self, wait, role, lead, term, ticks, ws⟩ h v) (h0 : 0 ≤ term) (h1 : term ≤ 1000000000000) :
    Calls Try.prog 21 #[.pointer (some ⟨P, 0, none⟩)] w fun e w' => e = .returned (.tuple #[.int .i64 (Nd.wants ⟨n, self, wait, role, lead, term, ticks, ws⟩).1, .bool (Nd.wants ⟨n, self, wait, role, lead, term, ticks, ws⟩).2]) ∧ w' = w := by
  obtain ⟨c0, c1, c2, c3, c4, c5, c6, c7, c8, cf⟩ := hN.cells
  clear hN
  by_cases hr : role = 3
  · subst hr
    have hw : wrap64 (term + 1) = term + 1 := wrap64_big (by omega) (by omega)
    go_enter Try.func21, Try.ntmps21
    go_wp2
    refine bodyPost_ret (v := .tuple #[.int .i64 (term + 1), .bool true]) (by simp [results, Try.results21, go_sem, *]) rfl ⟨by simp [Nd.wants], rfl⟩
  · go_enter Try.func21, Try.ntmps21
    go_wp2
    refine bodyPost_ret (v := .tuple #[.int .i64 0, .bool false]) (by simp [results, Try.results21, go_sem, *]) rfl ⟨by simp [Nd.wants, hr], rfl⟩
theorem rout_any {w : World} {P : Nat} {x : Nd} {h v : Value} (hN : NodeAt 52 31 w P x h v) :
    Calls Try.prog 16 #[.pointer (some ⟨P, 0, none⟩)] w fun e w' => e = .returned v ∧ NodeAt 52 31 w' P x.outed h (.slice none 0 0) ∧ Kept [P] w w' := by
  obtain ⟨c0, c1, c2, c3, c4, c5, c6, c7, c8, cf⟩ := hN.cells
  obtain ⟨p, sl, sc⟩ := own_slice hN.s
  have hR : Row (w.setCell ⟨P, 8, none⟩ (.slice none 0 0)) P (x.outed.row h (.slice none 0 0)) 52 := (hN.r.set 8 _).cast (by simp [Nd.row, Nd.outed])
  have H := Lib.hid hR
  clear hN hR
  go_enter Try.func16, Try.ntmps16
  go_wp2
  go_ret
  exact ⟨rfl, ⟨H.out, World.ownsRow_nil _ _ _ _, by simp [own_none]⟩, (Kept.refl _ _).set P 8 (.inl (by simp)) _⟩
theorem rwants_any {w : World} {P : Nat} {n self wait role lead term ticks : Int} {ws : List Wd} {h v : Value} (hN : NodeAt 52 31 w P ⟨n, self, wait, role, lead, term, ticks, ws⟩ h v) (h0 : 0 ≤ term) (h1 : term ≤ 1000000000000) :
    Calls Try.prog 22 #[.pointer (some ⟨P, 0, none⟩)] w fun e w' => e = .returned (.tuple #[.int .i64 (Nd.wants ⟨n, self, wait, role, lead, term, ticks, ws⟩).1, .bool (Nd.wants ⟨n, self, wait, role, lead, term, ticks, ws⟩).2]) ∧ w' = w := by
  obtain ⟨c0, c1, c2, c3, c4, c5, c6, c7, c8, cf⟩ := hN.cells
  clear hN
  by_cases hr : role = 3
  · subst hr
    have hw : wrap64 (term + 1) = term + 1 := wrap64_big (by omega) (by omega)
    go_enter Try.func22, Try.ntmps22
    go_wp2
    refine bodyPost_ret (v := .tuple #[.int .i64 (term + 1), .bool true]) (by simp [results, Try.results22, go_sem, *]) rfl ⟨by simp [Nd.wants], rfl⟩
  · go_enter Try.func22, Try.ntmps22
    go_wp2
    refine bodyPost_ret (v := .tuple #[.int .i64 0, .bool false]) (by simp [results, Try.results22, go_sem, *]) rfl ⟨by simp [Nd.wants, hr], rfl⟩
theorem state_any {w : World} {P : Nat} {n self wait role lead term ticks : Int} {ws : List Wd} {h v : Value} (hN : NodeAt 69 35 w P ⟨n, self, wait, role, lead, term, ticks, ws⟩ h v) :
    Calls Try.prog 23 #[.pointer (some ⟨P, 0, none⟩)] w fun e w' => e = .returned (.tuple #[.int .i64 role, .int .i64 lead, .int .i64 term]) ∧ w' = w.drew := by
  obtain ⟨c0, c1, c2, c3, c4, c5, c6, c7, c8, cf⟩ := hN.cells
  clear hN
  go_enter Try.func23, Try.ntmps23
  go_wp2
  go_region
  go_wp2
  refine bodyPost_ret (v := .tuple #[.int .i64 role, .int .i64 lead, .int .i64 term]) (by simp [results, Try.results23, go_sem, *]) rfl ⟨rfl, rfl⟩
end Go.Proofs.Ytccmnphjiebiaaa
