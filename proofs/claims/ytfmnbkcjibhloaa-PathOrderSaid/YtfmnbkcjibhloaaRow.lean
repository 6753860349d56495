/- Small lemmas on a block of cells that is known whole ('Row'), and what calls, new blocks, draws and stores leave of it. No condition. -/
import Derived.Test.YtfmnbkcjibhloaaRows
import Derived.WalkKit
import Derived.WalkSpells
import Derived.WalkLawsBesides
import Derived.Lib.Hide
import Derived.Deep.RegionHeld3
import Derived.Deep.DeepCutAuto
namespace Go.Proofs.Ytfmnbkcjibhloaa
open Go.RowKit

/-- Block b is a row of cells, none frozen. -/
def Row (w : World) (b : Nat) (cs : Array Value) (T : Nat) : Prop := w.heap[b]? = some (.cells cs T (0, 0))
theorem Row.lt {w : World} {b T : Nat} {cs : Array Value} (h : Row w b cs T) : b < w.heap.size := by
  unfold Row at h
  by_cases hb : b < w.heap.size
  · exact hb
  · rw [Array.getElem?_eq_none (Nat.le_of_not_lt hb)] at h; cases h
theorem Row.cell {w : World} {b T : Nat} {cs : Array Value} (h : Row w b cs T) (i : Nat) (v : Value) (hi : cs[i]? = some v) : w.cell? ⟨b, i, none⟩ = some v := by
  unfold Row at h; unfold World.cell?; rw [h]; exact hi
theorem Row.free {w : World} {b T : Nat} {cs : Array Value} (h : Row w b cs T) (i : Nat) : w.frozen? ⟨b, i, none⟩ = false := by
  unfold Row at h; unfold World.frozen?; rw [h]; simp
theorem Row.below {w w' : World} {b T : Nat} {cs : Array Value} (h : Row w b cs T) (hb : Below w.heap.size w w') : Row w' b cs T := by
  unfold Row; rw [hb.block b h.lt]; exact h
theorem Row.alloc {w : World} {b T : Nat} {cs : Array Value} (h : Row w b cs T) (o : Obj) : Row (w.alloc o) b cs T := h.below ((Below.refl _ _).alloc (Nat.le_refl _) o)
theorem Row.drew {w : World} {b T : Nat} {cs : Array Value} (h : Row w b cs T) : Row w.drew b cs T := h
theorem Row.drewN {w : World} {b T : Nat} {cs : Array Value} (h : Row w b cs T) (n : Nat) : Row (w.drewN n) b cs T := h
theorem Row.new (w : World) (cs : Array Value) (T : Nat) : Row (w.alloc (.cells cs T)) w.heap.size cs T := by
  show (w.heap.push _)[w.heap.size]? = _
  simp
theorem Row.set {w : World} {b T : Nat} {cs : Array Value} (h : Row w b cs T) (i : Nat) (v : Value) : Row (w.setCell ⟨b, i, none⟩ v) b (cs.setIfInBounds i v) T := by
  unfold Row at *; unfold World.setCell; rw [Array.getElem?_modify, h]; simp
theorem Row.setOther {w : World} {b T : Nat} {cs : Array Value} (h : Row w b cs T) (b' i : Nat) (hb : b' ≠ b) (v : Value) : Row (w.setCell ⟨b', i, none⟩ v) b cs T := by
  unfold Row at *; unfold World.setCell; rw [Array.getElem?_modify, h]; simp [hb]
theorem below_set {w0 w : World} {B : Nat} (h : Below B w0 w) (b i : Nat) (hb : B ≤ b) (v : Value) : Below B w0 (w.setCell ⟨b, i, none⟩ v) := h.setCell (p := ⟨b, i, none⟩) hb v
theorem Row.cast {w : World} {b T : Nat} {cs cs' : Array Value} (h : Row w b cs T) (e : cs = cs') : Row w b cs' T := e ▸ h
theorem size_set (w : World) (a : Addr) (v : Value) : (w.setCell a v).heap.size = w.heap.size := by simp [World.setCell]
theorem below_new (w : World) (o : Obj) : Below w.heap.size w (w.alloc o) := (Below.refl _ _).alloc (Nat.le_refl _) _
theorem below_of {w w1 w2 : World} (h1 : Below w.heap.size w w1) (h2 : Below w1.heap.size w1 w2) : Below w.heap.size w w2 := h1.trans (h2.mono h1.size)

end Go.Proofs.Ytfmnbkcjibhloaa
