/- Small lemmas on a block of cells that is known whole ('Row'), and what calls, new blocks, draws and stores leave of it. No condition. -/
import Derived.Test.YtccmnphjiebiaaaRows
import Derived.WalkKit
import Derived.WalkSpells
import Derived.WalkLawsBesides
import Derived.Lib.Hide
import Derived.Deep.RegionHeld3
import Derived.Deep.DeepCutAuto
namespace Go.Proofs.Ytccmnphjiebiaaa
open Go.RowKit

/-- Block b is a row of cells, none frozen. -/
def Row (w : World) (b : Nat) (cs : Array Value) (T : Nat) : Prop := w.heap[b]? = some (.cells cs T (0, 0))
theorem Row.lt {w : World} {b T : Nat} {cs : Array Value} (h : Row w b cs T) : b < w.heap.size := by
  unfold Row at h
  by_cases hb : b < w.heap.size
  · exact hb
  · rw [Array.getElem?_eq_none (Nat.le_of_not_lt hb)] at h; cases h
theorem Row.cell {w : World} {b T : Nat} {cs : Array Value} (h : Row w b cs T) (i : Nat) (v : Value) (hi : cs[i]? = some v) : w.cell? ⟨b, i, none⟩ = some v := by
  unfold Row at h; unfold World.cell?; rw [h]; exact hi
theorem Row.free {w : World} {b T : Nat} {cs : Array Value} (h : Row w b cs T) (i : Nat) : w.frozen? ⟨b, i, none⟩ = false := by
  unfold Row at h; unfold World.frozen?; rw [h]; simp
theorem Row.below {w w' : World} {b T : Nat} {cs : Array Value} (h : Row w b cs T) (hb : Below w.heap.size w w') : Row w' b cs T := by
  unfold Row; rw [hb.block b h.lt]; exact h
theorem Row.alloc {w : World} {b T : Nat} {cs : Array Value} (h : Row w b cs T) (o : Obj) : Row (w.alloc o) b cs T := h.below ((Below.refl _ _).alloc (Nat.le_refl _) o)
theorem Row.drew {w : World} {b T : Nat} {cs : Array Value} (h : Row w b cs T) : Row w.drew b cs T := h
theorem Row.drewN {w : World} {b T : Nat} {cs : Array Value} (h : Row w b cs T) (n : Nat) : Row (w.drewN n) b cs T := h
theorem Row.new (w : World) (cs : Array Value) (T : Nat) : Row (w.alloc (.cells cs T)) w.heap.size cs T := by
  show (w.heap.push _)[w.heap.size]? = _
  simp
theorem Row.set {w : World} {b T : Nat} {cs : Array Value} (h : Row w b cs T) (i : Nat) (v : Value) : Row (w.setCell ⟨b, i, none⟩ v) b (cs.setIfInBounds i v) T := by
  unfold Row at *; unfold World.setCell; rw [Array.getElem?_modify, h]; simp
theorem Row.setOther {w : World} {b T : Nat} {cs : Array Value} (h : Row w b cs T) (b' i : Nat) (hb : b' ≠ b) (v : Value) : Row (w.setCell ⟨b', i, none⟩ v) b cs T := by
  unfold Row at *; unfold World.setCell; rw [Array.getElem?_modify, h]; simp [hb]
theorem below_set {w0 w : World} {B : Nat} (h : Below B w0 w) (b i : Nat) (hb : B ≤ b) (v : Value) : Below B w0 (w.setCell ⟨b, i, none⟩ v) := h.setCell (p := ⟨b, i, none⟩) hb v
theorem Row.cast {w : World} {b T : Nat} {cs cs' : Array Value} (h : Row w b cs T) (e : cs = cs') : Row w b cs' T := e ▸ h
theorem size_set (w : World) (a : Addr) (v : Value) : (w.setCell a v).heap.size = w.heap.size := by simp [World.setCell]
theorem below_new (w : World) (o : Obj) : Below w.heap.size w (w.alloc o) := (Below.refl _ _).alloc (Nat.le_refl _) _
theorem below_of {w w1 w2 : World} (h1 : Below w.heap.size w w1) (h2 : Below w1.heap.size w1 w2) : Below w.heap.size w w2 := h1.trans (h2.mono h1.size)

/-- Old memory is as it was but for the blocks of F. -/
structure Kept (F : List Nat) (w w' : World) : Prop where
  os : w'.os = w.os
  tape : w'.tape = w.tape
  output : w'.output = w.output
  size : w.heap.size ≤ w'.heap.size
  block : ∀ k, k < w.heap.size → k ∉ F → w'.heap[k]? = w.heap[k]?
theorem Kept.refl (F : List Nat) (w : World) : Kept F w w := ⟨rfl, rfl, rfl, Nat.le_refl _, fun _ _ _ => rfl⟩
theorem Kept.trans {F : List Nat} {a b c : World} (h : Kept F a b) (k : Kept F b c) : Kept F a c :=
  ⟨k.os.trans h.os, k.tape.trans h.tape, k.output.trans h.output, Nat.le_trans h.size k.size, fun i hi hn => (k.block i (Nat.lt_of_lt_of_le hi h.size) hn).trans (h.block i hi hn)⟩
theorem Kept.more {F G : List Nat} {a b : World} (h : Kept F a b) (hs : ∀ k ∈ F, k ∈ G) : Kept G a b :=
  ⟨h.os, h.tape, h.output, h.size, fun i hi hn => h.block i hi (fun hm => hn (hs i hm))⟩
theorem Kept.of_below {F : List Nat} {a b : World} (h : Below a.heap.size a b) : Kept F a b := ⟨h.os, h.tape, h.output, h.size, fun i hi _ => h.block i hi⟩
theorem Kept.below {F : List Nat} {a b c : World} (h : Kept F a b) (k : Below b.heap.size b c) : Kept F a c := h.trans (Kept.of_below k)
theorem Kept.drew {F : List Nat} {a b : World} (h : Kept F a b) : Kept F a b.drew := ⟨h.os, h.tape, h.output, h.size, h.block⟩
theorem Kept.drewN {F : List Nat} {a b : World} (h : Kept F a b) (n : Nat) : Kept F a (b.drewN n) := ⟨h.os, h.tape, h.output, h.size, h.block⟩
theorem Kept.alloc {F : List Nat} {a b : World} (h : Kept F a b) (o : Obj) : Kept F a (b.alloc o) := h.below (below_new b o)
theorem Kept.set {F : List Nat} {a w : World} (h : Kept F a w) (b i : Nat) (hb : b ∈ F ∨ a.heap.size ≤ b) (v : Value) : Kept F a (w.setCell ⟨b, i, none⟩ v) :=
  ⟨h.os, h.tape, h.output, by rw [size_set]; exact h.size, fun k hk hn => by
    rw [Below.heap_setCell w ⟨b, i, none⟩ v k (by
      rcases hb with hb | hb
      · exact fun e => hn (e ▸ hb)
      · show k ≠ b; omega)]
    exact h.block k hk hn⟩
/-- If all that may have turned is new, old memory is as it was. -/
theorem Kept.toBelow {F : List Nat} {a b : World} {B : Nat} (h : Kept F a b) (hF : ∀ k ∈ F, B ≤ k) (hB : B ≤ a.heap.size) : Below B a b :=
  ⟨h.os, h.tape, h.output, h.size, fun i hi => h.block i (Nat.lt_of_lt_of_le hi hB) (fun hm => by have := hF i hm; omega)⟩
theorem Row.kept {F : List Nat} {w w' : World} {b T : Nat} {cs : Array Value} (h : Row w b cs T) (hk : Kept F w w') (hb : b ∉ F) : Row w' b cs T := by
  unfold Row; rw [hk.block b h.lt hb]; exact h
theorem Row.ne {w : World} {b c T T' : Nat} {cs cs' : Array Value} (h : Row w b cs T) (h' : Row w c cs' T') (hT : T ≠ T') : b ≠ c := by
  intro e; subst e; unfold Row at *; rw [h] at h'; injection h' with h'; injection h' with _ h'; exact hT h'

/-- The cells of whole numbers. -/
def ints (xs : List Int) : Array Value := (xs.map (Value.int .i64)).toArray
theorem ints_get {xs : List Int} {i : Nat} {x : Int} (h : xs[i]? = some x) : (ints xs)[i]? = some (.int .i64 x) := by simp [ints, h]
theorem ints_set (xs : List Int) (i : Nat) (x : Int) : (ints xs).setIfInBounds i (.int .i64 x) = ints (xs.set i x) := by
  simp [ints, List.setIfInBounds_toArray, List.map_set]
theorem Row.int {w : World} {b T : Nat} {xs : List Int} (h : Row w b (ints xs) T) {i : Nat} {x : Int} (hi : xs[i]? = some x) : w.cell? ⟨b, i, none⟩ = some (.int .i64 x) := h.cell i _ (ints_get hi)
theorem Row.setInt {w : World} {b T : Nat} {xs : List Int} (h : Row w b (ints xs) T) (i : Nat) (x : Int) : Row (w.setCell ⟨b, i, none⟩ (.int .i64 x)) b (ints (xs.set i x)) T := (h.set i _).cast (ints_set xs i x)

end Go.Proofs.Ytccmnphjiebiaaa
