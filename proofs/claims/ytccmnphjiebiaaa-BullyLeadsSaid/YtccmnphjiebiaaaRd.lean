/- A region that only reads, in whatever order: its worlds differ from the first in what was drawn. No condition. -/
import Derived.Test.YtccmnphjiebiaaaClaim
namespace Go.Proofs.Ytccmnphjiebiaaa
open Go.RowKit G
set_option linter.unusedVariables false
structure Rd (W : World) (σ : St) (w : World) : Prop where
  w : ∃ n, w = W.drewN n
theorem Rd.start (W : World) : Rd W (fun _ => none) W.drew := ⟨1, rfl⟩
theorem Rd.upd {W w : World} {σ : St} {k : Nat} {v : Value} (h : Rd W σ w) : Rd W (σ.upd k v) w := ⟨h.w⟩
theorem Rd.skips {W : World} {k : Nat} : skips (Rd W) k := fun σ w _ h => ⟨h.w⟩
theorem below_drewN {B : Nat} {a b : World} (h : Below B a b) (n : Nat) : Below B a (b.drewN n) := ⟨h.os, h.tape, h.output, h.size, h.block⟩
theorem drewN_drewN (w : World) (a b : Nat) : (w.drewN a).drewN b = w.drewN (a + b) := by simp [World.drewN, Nat.add_assoc]
end Go.Proofs.Ytccmnphjiebiaaa
