/- A region that draws its order, whose operations leave a class of worlds: the lexical walk, at any class. -/
import Derived.Test.YtfmnbkcjibhloaaCmp2
import Derived.Deep.QuietTactic
namespace Go.Proofs.Ytfmnbkcjibhloaa
open Go.RowKit
set_option linter.unusedVariables false
set_option linter.unusedSimpArgs false
section
variable {P : Program} {ops : Array Oper} {C : World → Prop}
/-- The lexical walk, kept whole: an expected type is reduced by the elaborator, and this one must not be. -/
structure Wq (P : Program) (ops : Array Oper) (C : World → Prop) (Q : Act → Prop) (l : List Oper) (a : Act) : Prop where
  q : wpQuiet P ops C Q l a
theorem region_class (C : World → Prop) {id : Nat} {Q : Exit → Act → World → Prop} {a : Act} {w : World} {l : List Oper} (hm : P.follows .mixedOrders = true) (hB : Region.lexB .any l.toArray = true) (hC : C w.drew)
    (h : Wq P l.toArray C (fun a' => ∀ w', C w' → Q .normal a' w') l a) : (Code.region id l.toArray true).wp P Q a w :=
  wp_region_quiet (C := C) hm hB hC (by simpa using h.q)
/-- What is asked of one operation, kept whole. -/
structure Hq (P : Program) (o : Oper) (a : Act) (C : World → Prop) (K : Act → Prop) : Prop where
  q : o.quiet P a C K
theorem Hq.of {o : Oper} {a : Act} {K : Act → Prop} (v : Value) (h1 : ∀ w, C w → o.quietAt P a C w v) (h2 : K (a.put o.dst v)) : Hq P o a C K := ⟨⟨v, h1, h2⟩⟩
theorem step_class {Q : Act → Prop} {a : Act} {o : Oper} {rest : List Oper}
    (h : ∀ K : Act → Prop, (∀ a, Wq P ops C Q rest a → K a) → if Region.wanted o (yielded ops a.tmps) then Hq P o a C K else K (a.put o.dst undef)) : Wq P ops C Q (o :: rest) a := by
  refine ⟨wpQuiet_step fun K hK => ?_⟩
  have := h K fun a h => hK a h.q
  split
  · rename_i hw; rw [if_pos hw] at this; exact this.q
  · rename_i hw; rw [if_neg hw] at this; exact this
theorem nil_class {Q : Act → Prop} {a : Act} (h : Q a) : Wq P ops C Q [] a := ⟨h⟩
end
end Go.Proofs.Ytfmnbkcjibhloaa
