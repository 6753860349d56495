/- A step of a region that draws its order, whose value is kept in mind though it does not vary: calls may stand behind it. No condition. -/
import Derived.Test.YtccmnphjiebiaaaFam2
namespace Go.Proofs.Ytccmnphjiebiaaa.G
open Go.RowKit
set_option linter.unusedVariables false
section
variable {P : Program} {ops : Array Oper} {C : St → World → Prop} {pl : Bool}
/-- What is asked of one operation, kept whole; its value may be kept in mind. -/
structure H2 (P : Program) (pl : Bool) (k : Nat) (o : Oper) (T : Tr) (a : Act) (C : St → World → Prop) (K : Bool → Tr → Act → Prop) : Prop where
  q : (∃ v, (∀ σ w, σ k = none → DepsT o T σ → C σ w → runAt P pl o a (fun u w' => u = v ∧ C (σ.upd k u) w') w) ∧ (K pl T (a.put o.dst v) ∨ K pl ((k, v) :: T) (a.put o.dst v))) ∨
    (∃ V : Value → Prop, (∃ v, V v) ∧ (∀ σ w, σ k = none → DepsT o T σ → C σ w → runAt P true o a (fun u w' => V u ∧ C (σ.upd k u) w') w) ∧ ∀ v, V v → K true ((k, v) :: T) (a.put o.dst v))
theorem H2.one {k : Nat} {o : Oper} {T : Tr} {a : Act} {K : Bool → Tr → Act → Prop} (v : Value) (h1 : ∀ σ w, σ k = none → DepsT o T σ → C σ w → runAt P pl o a (fun u w' => u = v ∧ C (σ.upd k u) w') w) (h2 : K pl T (a.put o.dst v)) : H2 P pl k o T a C K := ⟨.inl ⟨v, h1, .inl h2⟩⟩
theorem H2.tr {k : Nat} {o : Oper} {T : Tr} {a : Act} {K : Bool → Tr → Act → Prop} (v : Value) (h1 : ∀ σ w, σ k = none → DepsT o T σ → C σ w → runAt P pl o a (fun u w' => u = v ∧ C (σ.upd k u) w') w) (h2 : K pl ((k, v) :: T) (a.put o.dst v)) : H2 P pl k o T a C K := ⟨.inl ⟨v, h1, .inr h2⟩⟩
theorem H2.any {k : Nat} {o : Oper} {T : Tr} {a : Act} {K : Bool → Tr → Act → Prop} (V : Value → Prop) (hV : ∃ v, V v) (h1 : ∀ σ w, σ k = none → DepsT o T σ → C σ w → runAt P true o a (fun u w' => V u ∧ C (σ.upd k u) w') w) (h2 : ∀ v, V v → K true ((k, v) :: T) (a.put o.dst v)) : H2 P pl k o T a C K := ⟨.inr ⟨V, hV, h1, h2⟩⟩
theorem step_gen2 {n : Nat} {Q : Act → World → Prop} {T : Tr} {a : Act} {k : Nat} {o : Oper} {rest : List Oper} (hk : k < n) (hT : (T.all fun t => t.1 != k) = true)
    (h : ∀ K : Bool → Tr → Act → Prop, (∀ pl T a, Wf P ops C n Q pl rest (k + 1) T a → K pl T a) → if Region.wanted o (yielded ops a.tmps) then H2 P pl k o T a C K else Sk pl k o T a C K) : Wf P ops C n Q pl (o :: rest) k T a := by
  refine ⟨fun hn x hx => ?_⟩
  have := h (fun pl T a => Wf P ops C n Q pl rest (k + 1) T a) fun pl T a h => h
  unfold wpFam
  have dep : ∀ {σ}, Deps .any o x σ → DepsT o T σ := fun hd t ht ha => (hd.get t.1 ha).trans (by rw [hx t ht])
  have ext1 : ∀ v, ∀ t ∈ (k, v) :: T, t.1 < n := fun v t ht => by
    rcases List.mem_cons.1 ht with rfl | ht
    · exact hk
    · exact hn t ht
  have ext2 : ∀ v, ∀ t ∈ (k, v) :: T, (x.upd k v) t.1 = t.2 := fun v t ht => by
    rcases List.mem_cons.1 ht with rfl | ht
    · unfold Vals.upd; rw [if_pos rfl]
    · exact track hT hx t ht
  by_cases hw : Region.wanted o (yielded ops a.tmps) = true
  · rw [if_pos hw] at this
    rcases this.q with ⟨v, h1, h2 | h2⟩ | ⟨V, hV, h1, h2⟩
    · exact .inl ⟨v, .inl ⟨hw, fun σ w hs hd hC => h1 σ w hs (dep hd) hC⟩, h2.q hn _ (track hT hx)⟩
    · exact .inl ⟨v, .inl ⟨hw, fun σ w hs hd hC => h1 σ w hs (dep hd) hC⟩, h2.q (ext1 v) _ (ext2 v)⟩
    · exact .inr ⟨V, hV, .inl ⟨hw, fun σ w hs hd hC => h1 σ w hs (dep hd) hC⟩, fun v hv => (h2 v hv).q (ext1 v) _ (ext2 v)⟩
  · rw [if_neg hw] at this
    exact .inl ⟨undef, .inr ⟨by simpa using hw, fun _ => Iff.rfl, this.q.1⟩, this.q.2.q hn _ (track hT hx)⟩
end
end Go.Proofs.Ytccmnphjiebiaaa.G
