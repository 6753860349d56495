/- An argument that is a list of acts: what its memory holds. No condition. -/
import Derived.Test.YtccmnphjiebiaaaFrom
import Derived.Deep.Slices
import Derived.ChangeSame
namespace Go.Proofs.Ytccmnphjiebiaaa
open Go.RowKit Go.ChangeShapes Go.WideShapes Go.Deep
set_option linter.unusedVariables false
set_option linter.unusedSimpArgs false
structure Opn where
  k : Int
  y : Wd
  term : Int
  own : Bool
def opc (o : Opn) : List Value := [.int .i64 o.k, .int .i64 o.y.k, .int .i64 o.y.f, .int .i64 o.y.t, .int .i64 o.y.m, .int .i64 o.term, .bool o.own]
section
variable {H : Type} {enc : TypeId × Value → H} {w : World} {base : Nat} {spare : Nat → Bool} {held : Bool}
theorem cells3 : Try.prog.cellsOf 3 = 1 := by kernel_rfl
theorem cells4 : Try.prog.cellsOf 4 = 1 := by kernel_rfl
theorem cells31 : Try.prog.cellsOf 31 = 4 := by kernel_rfl
theorem cells33 : Try.prog.cellsOf 33 = 7 := by kernel_rfl
theorem open_wd {n : Nat} {cs : List Value} {x : DataW H × List MemPlace} (h : DataW.trod enc Try.prog w base spare held n 31 cs = some x) : ∃ y, cs = wdc y := by
  obtain ⟨xs, n', rfl, hx, hl, hlen, hf⟩ := DataW.trod_struct Try.underlying31 h
  rw [cells31] at hl
  match cs, hl with
  | [c0, c1, c2, c3], _ =>
    match xs, hlen with
    | [x0, x1, x2, x3], _ =>
      have h0 := hf 0 _ rfl
      have h1 := hf 1 _ rfl
      have h2 := hf 2 _ rfl
      have h3 := hf 3 _ rfl
      simp [cells3] at h0 h1 h2 h3
      obtain ⟨k, e0, -, -⟩ := DataW.trod_int Try.underlying3 h0
      obtain ⟨f, e1, -, -⟩ := DataW.trod_int Try.underlying3 h1
      obtain ⟨t, e2, -, -⟩ := DataW.trod_int Try.underlying3 h2
      obtain ⟨m, e3, -, -⟩ := DataW.trod_int Try.underlying3 h3
      cases e0; cases e1; cases e2; cases e3
      exact ⟨⟨k, f, t, m⟩, rfl⟩
theorem open_opn {n : Nat} {cs : List Value} {x : DataW H × List MemPlace} (h : DataW.trod enc Try.prog w base spare held n 33 cs = some x) : ∃ o, cs = opc o := by
  obtain ⟨xs, n', rfl, hx, hl, hlen, hf⟩ := DataW.trod_struct Try.underlying33 h
  rw [cells33] at hl
  match cs, hl with
  | [c0, c1, c2, c3, c4, c5, c6], _ =>
    match xs, hlen with
    | [x0, x1, x2, x3], _ =>
      have h0 := hf 0 _ rfl
      have h1 := hf 1 _ rfl
      have h2 := hf 2 _ rfl
      have h3 := hf 3 _ rfl
      simp [cells3, cells31, cells4] at h0 h1 h2 h3
      obtain ⟨k, e0, -, -⟩ := DataW.trod_int Try.underlying3 h0
      obtain ⟨y, e1⟩ := open_wd h1
      obtain ⟨t, e2, -, -⟩ := DataW.trod_int Try.underlying3 h2
      obtain ⟨b, e3, -⟩ := DataW.trod_bool Try.underlying4 h3
      cases e0; cases e2; cases e3
      simp [wdc] at e1
      obtain ⟨rfl, rfl, rfl, rfl⟩ := e1
      exact ⟨⟨k, y, t, b⟩, rfl⟩
/-- A slice of acts, wherever it lies. -/
def OIn (w : World) (a : Option Addr) (len : Nat) (ops : Nat → Opn) : Prop := len ≤ maxLen ∧ (0 < len → ∃ b o, a = some ⟨b, o, none⟩ ∧ b < w.heap.size ∧ ∀ i, i < len → ∀ j u, (opc (ops i))[j]? = some u → w.cell? ⟨b, o + i * 7 + j, none⟩ = some u)
theorem open_ops {fuel : Nat} {a : Option Addr} {len cap : Nat} {x : DataW H × List MemPlace} (h : DataW.trod enc Try.prog w base spare held fuel 22 [.slice a len cap] = some x) : ∃ ops, OIn w a len ops := by
  rcases open_slice Try.underlying22 h with ⟨hcs, -⟩ | ⟨a', len', cap', m, n, D, Pl, hcs, hb, hl, hm, hmm, hx, hi⟩
  · simp at hcs
    obtain ⟨rfl, rfl, rfl⟩ := hcs
    exact ⟨fun _ => ⟨0, ⟨0, 0, 0, 0⟩, 0, false⟩, by unfold maxLen; omega, fun h => absurd h (by omega)⟩
  · simp at hcs
    obtain ⟨rfl, rfl, rfl⟩ := hcs
    have hlm : len ≤ m := by rw [hmm]; split <;> omega
    have key : ∀ i, ∃ o : Opn, i < len → ∀ j u, (opc o)[j]? = some u → w.cell? ((a'.add (i * 7)).add j) = some u := by
      intro i
      by_cases hil : i < len
      · obtain ⟨cs', hc, ht⟩ := hi i (by omega)
        rw [cells33] at hc
        obtain ⟨o, rfl⟩ := open_opn ht
        obtain ⟨_, hcl, hat⟩ := World.cells?_some hc
        refine ⟨o, fun _ j u hj => ?_⟩
        have hj7 : j < 7 := (List.getElem?_eq_some_iff.1 hj).1
        rw [hat j hj7]; exact hj
      · exact ⟨⟨0, ⟨0, 0, 0, 0⟩, 0, false⟩, fun h => absurd h hil⟩
    refine ⟨fun i => (key i).choose, Nat.le_trans hl hm, fun hp => ?_⟩
    have hk := fun i => (key i).choose_spec
    have h0 := hk 0 hp 0 _ rfl
    obtain ⟨b, o, s⟩ := a'
    have hs : s = none := by
      cases s with
      | none => rfl
      | some s =>
        simp only [Nat.zero_mul] at h0
        simp only [Addr.add, World.cell?] at h0
        split at h0
        · simp at h0
        · cases h0
    subst hs
    have hb : b < w.heap.size := by
      rcases Nat.lt_or_ge b w.heap.size with q | q
      · exact q
      · simp only [Nat.zero_mul] at h0
        simp only [Addr.add, World.cell?] at h0
        simp [Array.getElem?_eq_none q] at h0
    refine ⟨b, o, rfl, hb, fun i hi j u hj => ?_⟩
    have := hk i hi j u hj
    have e : ((⟨b, o, none⟩ : Addr).add (i * 7)).add j = ⟨b, o + i * 7 + j, none⟩ := by
      have ea : ∀ (p q : Nat), (⟨b, p, none⟩ : Addr).add q = ⟨b, p + q, none⟩ := fun p q => by
        by_cases e : q = 0
        · subst e; rfl
        · simp [Addr.add, e]
      rw [ea, ea]
    rw [e] at this
    exact this
end
theorem OIn.at {w : World} {a : Option Addr} {len : Nat} {ops : Nat → Opn} (h : OIn w a len ops) {i : Nat} (hi : i < len) : ∃ b o, a = some ⟨b, o, none⟩ ∧ ∀ w', Below w.heap.size w w' →
    w'.cell? ⟨b, o + i * 7, none⟩ = some (.int .i64 (ops i).k) ∧ w'.cell? ⟨b, o + i * 7 + 1, none⟩ = some (.int .i64 (ops i).y.k) ∧ w'.cell? ⟨b, o + i * 7 + 2, none⟩ = some (.int .i64 (ops i).y.f) ∧ w'.cell? ⟨b, o + i * 7 + 3, none⟩ = some (.int .i64 (ops i).y.t) ∧
    w'.cell? ⟨b, o + i * 7 + 4, none⟩ = some (.int .i64 (ops i).y.m) ∧ w'.cell? ⟨b, o + i * 7 + 5, none⟩ = some (.int .i64 (ops i).term) ∧ w'.cell? ⟨b, o + i * 7 + 6, none⟩ = some (.bool (ops i).own) := by
  obtain ⟨b, o, e, hlt, hc⟩ := h.2 (by omega)
  refine ⟨b, o, e, fun w' hb => ?_⟩
  have key : ∀ j u, (opc (ops i))[j]? = some u → w'.cell? ⟨b, o + i * 7 + j, none⟩ = some u := fun j u hj => by
    rw [World.cell?_of_block (w := w) (hb.block b hlt)]; exact hc i hi j u hj
  exact ⟨key 0 _ rfl, key 1 _ rfl, key 2 _ rfl, key 3 _ rfl, key 4 _ rfl, key 5 _ rfl, key 6 _ rfl⟩
end Go.Proofs.Ytccmnphjiebiaaa
