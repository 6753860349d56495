/- The detector of package beat: what each of its methods does to it. Conditions: it lies whole in memory. -/
import Derived.Test.YtccmnphjiebiaaaRow
namespace Go.Proofs.Ytccmnphjiebiaaa
open Go.RowKit
set_option linter.unusedVariables false
set_option linter.unusedSimpArgs false

/-- A detector at block P, its ticks at block S. -/
structure Det (w : World) (P S : Nat) (xs : List Int) (me every limit left : Int) : Prop where
  p : Row w P #[.slice (some ⟨S, 0, none⟩) xs.length xs.length, .int .i64 me, .int .i64 every, .int .i64 limit, .int .i64 left] 76
  s : Row w S (ints xs) 3
  pos : 0 < xs.length
  le : xs.length ≤ 8
theorem Det.ne {w : World} {P S : Nat} {xs : List Int} {me every limit left : Int} (h : Det w P S xs me every limit left) : P ≠ S := h.p.ne h.s (by decide)
theorem Row.five {w : World} {b T : Nat} {v0 v1 v2 v3 v4 : Value} (h : Row w b #[v0, v1, v2, v3, v4] T) :
    w.cell? ⟨b, 0, none⟩ = some v0 ∧ w.cell? ⟨b, 1, none⟩ = some v1 ∧ w.cell? ⟨b, 2, none⟩ = some v2 ∧ w.cell? ⟨b, 3, none⟩ = some v3 ∧ w.cell? ⟨b, 4, none⟩ = some v4 ∧ ∀ i, w.frozen? ⟨b, i, none⟩ = false :=
  ⟨h.cell 0 _ rfl, h.cell 1 _ rfl, h.cell 2 _ rfl, h.cell 3 _ rfl, h.cell 4 _ rfl, h.free⟩
def inR (k : Int) (n : Nat) : Bool := decide (0 ≤ k) && decide (k < n)
theorem inR_yes {k : Int} {n : Nat} (h : inR k n = true) : 0 ≤ k ∧ k < n := by simpa [inR] using h
theorem inR_no {k : Int} {n : Nat} (h : inR k n = false) : k < 0 ∨ n ≤ k := by
  simp [inR] at h; omega
theorem there_any {w : World} {P S : Nat} {xs : List Int} {me every limit left : Int} (h : Det w P S xs me every limit left) (k : Int) :
    Calls Try.prog 43 #[.pointer (some ⟨P, 0, none⟩), .int .i64 k] w fun e w' => e = .returned (.bool (inR k xs.length)) ∧ w = w' := by
  obtain ⟨c0, c1, c2, c3, c4, cf⟩ := h.p.five
  clear h
  unfold inR
  by_cases h0 : 0 ≤ k
  · go_enter Try.func43, Try.ntmps43
    go_wp2
    go_ret
    simp [h0]
  · go_enter Try.func43, Try.ntmps43
    go_wp2
    go_ret
    simp
    omega
/-- The number at k. -/
def at_ (xs : List Int) (k : Int) : Int := xs.getD k.toNat 0
theorem Det.at {w : World} {P S : Nat} {xs : List Int} {me every limit left : Int} (h : Det w P S xs me every limit left) {k : Int} (hk : inR k xs.length = true) : w.cell? ⟨S, k.toNat, none⟩ = some (.int .i64 (at_ xs k)) := by
  obtain ⟨h0, h1⟩ := inR_yes hk
  have : k.toNat < xs.length := by omega
  refine h.s.int ?_
  simp [at_, List.getElem?_eq_getElem this]
def silentR (xs : List Int) (k : Int) : Int × Int := if inR k xs.length = true then (at_ xs k, 0) else (0, 1)
def heardR (xs : List Int) (k : Int) : List Int := if inR k xs.length = true then xs.set k.toNat 0 else xs
def heardE (xs : List Int) (k : Int) : Int := if inR k xs.length = true then 0 else 1
theorem heard_any {w : World} {P S : Nat} {xs : List Int} {me every limit left : Int} (h : Det w P S xs me every limit left) (k : Int) :
    Calls Try.prog 39 #[.pointer (some ⟨P, 0, none⟩), .int .i64 k] w fun e w' => e = .returned (.int .i64 (heardE xs k)) ∧ Det w' P S (heardR xs k) me every limit left ∧ Kept [P, S] w w' := by
  obtain ⟨c0, c1, c2, c3, c4, cf⟩ := h.p.five
  rcases hk : inR k xs.length with _ | _
  · have hx : heardE xs k = 1 := by simp [heardE, hk]
    have hy : heardR xs k = xs := by simp [heardR, hk]
    rw [hx, hy]
    go_enter Try.func39, Try.ntmps39
    go_wp2_with (go_at_call 43; refine (there_any h _).mono ?_; rintro e w' ⟨rfl, rfl⟩)
    go_ret
    exact ⟨rfl, h, Kept.refl _ _⟩
  · have hx : heardE xs k = 0 := by simp [heardE, hk]
    have hy : heardR xs k = xs.set k.toNat 0 := by simp [heardR, hk]
    rw [hx, hy]
    have ha := h.at hk
    have hf := h.s.free k.toNat
    have hl := h.le
    obtain ⟨h0, h1⟩ := inR_yes hk
    go_enter Try.func39, Try.ntmps39
    go_wp2_with (go_at_call 43; refine (there_any h _).mono ?_; rintro e w' ⟨rfl, rfl⟩)
    go_ret
    refine ⟨rfl, ⟨?_, h.s.setInt _ _, by simpa using h.pos, by simpa using h.le⟩, (Kept.refl _ _).set S _ (by simp) _⟩
    simpa using h.p.setOther S k.toNat h.ne.symm (.int .i64 0)
end Go.Proofs.Ytccmnphjiebiaaa
