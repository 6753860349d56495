/- A region that draws its order and whose operations may write: one walk of the order of the text serves every order, where the worlds are told by which operations have been done. No condition. -/
import Derived.Test.YtfmnbkcjibhloaaRow
import Derived.Deep.Quiet
namespace Go.Proofs.Ytfmnbkcjibhloaa
set_option linter.unusedVariables false
/-- Which operations are done: k is, now. -/
def upd (s : Nat → Bool) (k : Nat) : Nat → Bool := fun i => if i = k then true else s i
def flags (L : Array Bool) : Nat → Bool := fun i => L.getD i true
theorem flags_set (L : Array Bool) (k : Nat) : flags (L.setIfInBounds k true) = upd (flags L) k := by
  funext i
  unfold flags upd
  by_cases h : i = k
  · subst h
    rw [if_pos rfl]
    by_cases hl : i < L.size
    · simp [hl]
    · simp [hl]
  · rw [if_neg h, getD_set_ne true (Ne.symm h)]
section
variable {P : Program} {ops : Array Oper} {md : Region.Mode} {C : (Nat → Bool) → World → Prop}
/-- What is asked once an operation has yielded this: the value v (nothing: v is 'undef'), and a world of the class D. -/
def famUpon (P : Program) (D : World → Prop) (v : Value) : Result Next → Prop
  | .ok (.value u) w' => D w' ∧ u = v
  | .ok .skip w' => D w' ∧ v = undef
  | .ok (.enter f args) w' => Calls P f args w' (fun e w'' => e = .returned v ∧ D w'')
  | _ => False
def famAt (P : Program) (o : Oper) (a : Act) (D : World → Prop) (w : World) (v : Value) : Prop := famUpon P D v ((execOp a.eval o).run P w)
/-- All that operation o waits for is done. -/
def Deps (md : Region.Mode) (o : Oper) (s : Nat → Bool) : Prop := ∀ e ∈ o.after, Region.binds md e = true → s e.on = true
theorem Deps.get {o : Oper} {s : Nat → Bool} (h : Deps md o s) (i : Nat) (hi : (o.after.any fun e => e.on == i && Region.binds md e) = true) : s i = true := by
  rw [Array.any_eq_true'] at hi
  obtain ⟨e, he, h1⟩ := hi
  simp only [Bool.and_eq_true, beq_iff_eq] at h1
  rw [← h1.1]
  exact h e he h1.2
/-- Operation k, in every world of the family in which it is not done yet. -/
def famOp (P : Program) (md : Region.Mode) (k : Nat) (o : Oper) (a : Act) (C : (Nat → Bool) → World → Prop) (v : Value) : Prop := ∀ s w, s k = false → Deps md o s → C s w → famAt P o a (C (upd s k)) w v
def famSkip (C : (Nat → Bool) → World → Prop) (k : Nat) : Prop := ∀ s w, s k = false → C s w → C (upd s k) w
/-- In state a operation number i leaves v. -/
def Fam (P : Program) (md : Region.Mode) (ops : Array Oper) (C : (Nat → Bool) → World → Prop) (i : Nat) (o : Oper) (v : Value) (a : Act) : Prop :=
  (Region.wanted o (yielded ops a.tmps) = true ∧ famOp P md i o a C v) ∨ (Region.wanted o (yielded ops a.tmps) = false ∧ v = undef ∧ famSkip C i)
def fOp (P : Program) (md : Region.Mode) (ops : Array Oper) (C : (Nat → Bool) → World → Prop) (i : Nat) (K : Act → Prop) (a : Act) : Prop :=
  match ops[i]? with
  | none => False
  | some o => ∃ v, Fam P md ops C i o v a ∧ K (a.put o.dst v)
theorem fOp_mono {i : Nat} {a : Act} {K K' : Act → Prop} (h : ∀ a, K a → K' a) (hh : fOp P md ops C i K a) : fOp P md ops C i K' a := by
  unfold fOp at *
  split
  · rename_i ho; simp only [ho] at hh
  · rename_i o ho
    simp only [ho] at hh
    obtain ⟨v, h1, h2⟩ := hh
    exact ⟨v, h1, h _ h2⟩
/-- The walk in the order of the text. -/
def wpFam (P : Program) (md : Region.Mode) (ops : Array Oper) (C : (Nat → Bool) → World → Prop) (Q : Act → Prop) : List Oper → Nat → Act → Prop
  | [], _, a => Q a
  | o :: rest, k, a => ∃ v, Fam P md ops C k o v a ∧ wpFam P md ops C Q rest (k + 1) (a.put o.dst v)
def wpAnyF (P : Program) (md : Region.Mode) (ops : Array Oper) (C : (Nat → Bool) → World → Prop) (Q : Act → Prop) : Nat → Array Bool → Act → Prop
  | 0, listed, a => Region.ready md ops listed = [] ∧ (∀ i, flags listed i = true) ∧ Q a
  | fuel + 1, listed, a =>
    Region.ready md ops listed ≠ [] ∧
    ∀ i ∈ Region.ready md ops listed, fOp P md ops C i (wpAnyF P md ops C Q fuel (listed.setIfInBounds i true)) a
theorem wpOp_of_fOp {i : Nat} {a : Act} {K : Act → Prop} {K' : Act → World → Prop} {Q' : Exit → Act → World → Prop} {w : World} {s : Nat → Bool} (hs : s i = false) (hd : ∀ o, ops[i]? = some o → Deps md o s) (hC : C s w)
    (h : ∀ a w', C (upd s i) w' → K a → K' a w') (hh : fOp P md ops C i K a) : wpOp P ops Q' i K' a w := by
  unfold fOp at hh
  unfold wpOp
  split
  · rename_i ho; simp only [ho] at hh
  · rename_i o ho
    simp only [ho] at hh
    obtain ⟨v, ⟨hw, h1⟩ | ⟨hw, rfl, h1⟩, h2⟩ := hh
    · rw [if_pos hw]
      refine .inl ?_
      have h3 := h1 s w hs (hd o ‹_›) hC
      unfold famAt at h3
      unfold Oper.wp
      generalize (execOp a.eval o).run P w = r at *
      cases r with
      | ok n w' =>
        cases n <;> simp only [famUpon] at h3 <;> simp only [Oper.upon]
        case value u =>
          obtain ⟨e1, e2⟩ := h3
          rw [e2]
          exact h _ _ e1 h2
        case skip =>
          obtain ⟨e1, e2⟩ := h3
          rw [← e2]
          exact h _ _ e1 h2
        case enter f args =>
          exact h3.mono fun e w'' ⟨he, hw''⟩ => by subst he; exact h _ _ hw'' h2
      | halt x w' => simp only [famUpon] at h3
    · rw [if_neg (by simp [hw])]
      exact h _ _ (h1 s w hs hC) h2
theorem ready_false {i : Nat} {listed : Array Bool} (h : i ∈ Region.ready md ops listed) : flags listed i = false := by
  have h1 := (mem_ready.1 h).1
  unfold flags
  exact h1
theorem ready_deps {i : Nat} {listed : Array Bool} (h : i ∈ Region.ready md ops listed) : ∀ o, ops[i]? = some o → Deps md o (flags listed) := by
  obtain ⟨_, o', ho', hall⟩ := mem_ready.1 h
  intro o ho e he hb
  rw [ho'] at ho
  cases ho
  have := hall e he hb
  unfold flags
  by_cases hl : e.on < listed.size
  · simp [hl] at this ⊢; exact this
  · simp [Array.getElem?_eq_none (Nat.le_of_not_lt hl)]
theorem wpAny_of_fam {Q : Act → Prop} {Q' : Exit → Act → World → Prop} (hQ : ∀ a w, C (fun _ => true) w → Q a → Q' .normal a w) : ∀ (fuel : Nat) (listed : Array Bool) (a : Act) (w : World), C (flags listed) w →
    wpAnyF P md ops C Q fuel listed a → wpAny P md ops Q' fuel listed a w
  | 0, _, _, _, hw, h => ⟨h.1, hQ _ _ (by rw [show flags _ = fun _ => true from funext h.2.1] at hw; exact hw) h.2.2⟩
  | fuel + 1, listed, _, _, hw, h => ⟨fun h0 => absurd h0 h.1, fun i hi => wpOp_of_fOp (ready_false hi) (ready_deps hi) hw (fun a' w' hw' => wpAny_of_fam hQ fuel _ a' w' (by rw [flags_set]; exact hw')) (h.2 i hi)⟩
theorem Fam.of_same {i : Nat} {o : Oper} {v : Value} {a a' : Act} (hy : Fam P md ops C i o v a) (he : execOp a'.eval o = execOp a.eval o)
    (hw : Region.wanted o (yielded ops a'.tmps) = Region.wanted o (yielded ops a.tmps)) : Fam P md ops C i o v a' := by
  unfold Fam famOp famAt at *
  rw [he, hw]
  exact hy
theorem fOp_put {i j : Nat} {oi oj : Oper} {v : Value} (hj : ops[j]? = some oj) (hap : oi.apart ops oj = true)
    (hsi : ∀ cs b, oi.op ≠ .select cs b) (hsj : ∀ cs b, oj.op ≠ .select cs b) {K : Act → Prop} {a : Act}
    (hy : Fam P md ops C i oi v a) (h : fOp P md ops C j K (a.put oi.dst v)) :
    fOp P md ops C j (fun a' => Fam P md ops C i oi v a' ∧ K (a'.put oi.dst v)) a := by
  obtain ⟨h1, h2, h3⟩ := Oper.apart_spec hap
  unfold fOp at *
  simp only [hj] at *
  obtain ⟨u, hu, hn⟩ := h
  refine ⟨u, hu.of_same (execOp_put oj hsj a oi.dst v h1).symm (wanted_put oj a oi.dst v h1).symm, hy.of_same (execOp_put oi hsi a oj.dst u h3) (wanted_put oi a oj.dst u h3), ?_⟩
  rw [← Act.put_comm a v u h2]
  exact hn
theorem wpAnyF_first {Q : Act → Prop} {i : Nat} {oi : Oper} {v : Value} (hi : ops[i]? = some oi) (hsel : ∀ (j : Nat) (o : Oper) cs b, ops[j]? = some o → o.op ≠ .select cs b) :
    ∀ (fuel : Nat) (listed : Array Bool) (a : Act),
      (∀ j oj, ops[j]? = some oj → j ≠ i → listed.getD j true = false → (∀ e ∈ oj.after, Region.binds md e = true → e.on ≠ i) → oi.apart ops oj = true) →
      i ∈ Region.ready md ops listed → Fam P md ops C i oi v a →
      wpAnyF P md ops C Q fuel (listed.setIfInBounds i true) (a.put oi.dst v) → wpAnyF P md ops C Q (fuel + 1) listed a := by
  intro fuel
  have self : ∀ {K : Act → Prop} {a : Act}, Fam P md ops C i oi v a → K (a.put oi.dst v) → fOp P md ops C i K a := fun {K a} hy h => by
    unfold fOp; simp only [hi]; exact ⟨v, hy, h⟩
  induction fuel with
  | zero =>
    intro listed a _ hr hy H
    refine ⟨fun h => (by rw [h] at hr; cases hr), fun j hj => ?_⟩
    by_cases hji : j = i
    · subst hji; exact self hy H
    · have := ready_mono hj hji
      rw [H.1] at this
      cases this
  | succ fuel ih =>
    intro listed a hfree hr hy H
    refine ⟨fun h => (by rw [h] at hr; cases hr), fun j hj => ?_⟩
    by_cases hji : j = i
    · subst hji; exact self hy H
    · have h1 := H.2 j (ready_mono hj hji)
      obtain ⟨hjun, oj, hoj, hall⟩ := mem_ready.1 hj
      have hnot : ∀ e ∈ oj.after, Region.binds md e = true → e.on ≠ i := fun e he hb heq => by
        have h1 := hall e he hb
        have h0 := (mem_ready.1 hr).1
        rw [heq] at h1
        rcases Nat.lt_or_ge i listed.size with h' | h'
        · simp [h'] at h0 h1; rw [h0] at h1; cases h1
        · simp [Array.getElem?_eq_none h'] at h1
      have h2 := fOp_put hoj (hfree j oj hoj hji hjun hnot) (fun cs b => hsel i oi cs b hi) (fun cs b => hsel j oj cs b hoj) hy h1
      have hfree' : ∀ k ok, ops[k]? = some ok → k ≠ i → (listed.setIfInBounds j true).getD k true = false →
          (∀ e ∈ ok.after, Region.binds md e = true → e.on ≠ i) → oi.apart ops ok = true := fun k ok hk hki hun hno => by
        refine hfree k ok hk hki ?_ hno
        by_cases hjk : j = k
        · subst hjk; exact hjun
        · rw [getD_set_ne true hjk] at hun; exact hun
      refine fOp_mono (fun a' h3 => ih (listed.setIfInBounds j true) a' hfree' (ready_mono hr (Ne.symm hji)) h3.1 ?_) h2
      rw [Array.setIfInBounds_comm _ _ hji]
      exact h3.2
theorem wpAnyF_lex {Q : Act → Prop} (hs : Region.noSelect ops = true) : ∀ (l : List Oper) (k : Nat) (listed : Array Bool) (a : Act), (∀ j, l[j]? = ops[k + j]?) → (∀ i, i < k → flags listed i = true) → listed.size = ops.size →
    Region.lexFrom md ops l.length k listed = true → wpFam P md ops C Q l k a → wpAnyF P md ops C Q l.length listed a
  | [], k, listed, a, hl, hfl, hsz, hB, h => by
    refine ⟨by simpa [Region.lexFrom] using hB, fun i => ?_, h⟩
    by_cases hi : i < k
    · exact hfl i hi
    · have h0 : ops[k + (i - k)]? = none := by rw [← hl]; simp
      have h1 : ops.size ≤ i := by
        rw [Array.getElem?_eq_none_iff] at h0; omega
      unfold flags
      simp [Array.getD, show ¬ i < listed.size by omega]
  | o :: l, k, listed, a, hl, hfl, hsz, hB, h => by
    have h0 : ops[k]? = some o := by simpa using (hl 0).symm
    simp only [List.length_cons, Region.lexFrom, Bool.and_eq_true] at hB
    obtain ⟨⟨hr, hf⟩, hB'⟩ := hB
    obtain ⟨v, hy, hK⟩ := h
    exact wpAnyF_first h0 (Region.noSelect_spec hs) l.length listed a (Region.free_spec h0 hf) (by simpa using hr) hy
      (wpAnyF_lex hs l (k + 1) _ _ (fun j => by have := hl (j + 1); simpa [Nat.add_assoc, Nat.add_comm 1 j] using this)
        (fun i hi => by
          rw [flags_set]; unfold upd
          by_cases e : i = k
          · rw [if_pos e]
          · rw [if_neg e]; exact hfl i (by omega)) (by simpa using hsz) hB' hK)
/-- The walk, kept whole: an expected type is reduced by the elaborator, and this one must not be. -/
structure Wf (P : Program) (ops : Array Oper) (C : (Nat → Bool) → World → Prop) (Q : Act → Prop) (l : List Oper) (k : Nat) (a : Act) : Prop where
  q : wpFam P .any ops C Q l k a
theorem region_fam (C : (Nat → Bool) → World → Prop) {id : Nat} {Q : Exit → Act → World → Prop} {a : Act} {w : World} {l : List Oper} (hm : P.follows .mixedOrders = true) (hB : Region.lexB .any l.toArray = true) (hC : C (fun i => decide (l.length ≤ i)) w.drew)
    (h : Wf P l.toArray C (fun a' => ∀ w', C (fun _ => true) w' → Q .normal a' w') l 0 a) : (Code.region id l.toArray true).wp P Q a w := by
  simp only [Region.lexB, Bool.and_eq_true] at hB
  refine wp_region_any hm (wpAny_of_fam (C := C) (Q := fun a' => ∀ w', C (fun _ => true) w' → Q .normal a' w') (fun _ w' hw' h => h w' hw') _ _ _ _ ?_ ?_)
  · rw [show flags (Array.replicate l.toArray.size false) = fun i => decide (l.length ≤ i) from ?_]
    · exact hC
    · funext i
      unfold flags
      by_cases h : i < l.length
      · simp [Array.getD, h]
      · simp [Array.getD, h]; omega
  · have := wpAnyF_lex (C := C) (md := .any) hB.1 l 0 (Array.replicate l.toArray.size false) a (by simp) (by simp) (by simp) (by simpa using hB.2) h.q
    simpa using this
/-- What is asked of one operation, kept whole. -/
structure Hf (P : Program) (k : Nat) (o : Oper) (a : Act) (C : (Nat → Bool) → World → Prop) (K : Act → Prop) : Prop where
  q : ∃ v, famOp P .any k o a C v ∧ K (a.put o.dst v)
structure Sf (k : Nat) (o : Oper) (a : Act) (C : (Nat → Bool) → World → Prop) (K : Act → Prop) : Prop where
  q : famSkip C k ∧ K (a.put o.dst undef)
theorem Hf.of {k : Nat} {o : Oper} {a : Act} {K : Act → Prop} (v : Value) (h1 : ∀ s w, s k = false → Deps .any o s → C s w → famAt P o a (C (upd s k)) w v) (h2 : K (a.put o.dst v)) : Hf P k o a C K := ⟨⟨v, h1, h2⟩⟩
theorem Sf.of {k : Nat} {o : Oper} {a : Act} {K : Act → Prop} (h1 : famSkip C k) (h2 : K (a.put o.dst undef)) : Sf k o a C K := ⟨⟨h1, h2⟩⟩
theorem step_fam {Q : Act → Prop} {a : Act} {k : Nat} {o : Oper} {rest : List Oper}
    (h : ∀ K : Act → Prop, (∀ a, Wf P ops C Q rest (k + 1) a → K a) → if Region.wanted o (yielded ops a.tmps) then Hf P k o a C K else Sf k o a C K) : Wf P ops C Q (o :: rest) k a := by
  refine ⟨?_⟩
  have := h (fun a => wpFam P .any ops C Q rest (k + 1) a) fun a h => h.q
  unfold wpFam
  by_cases hw : Region.wanted o (yielded ops a.tmps) = true
  · rw [if_pos hw] at this
    obtain ⟨v, h1, h2⟩ := this.q
    exact ⟨v, .inl ⟨hw, h1⟩, h2⟩
  · rw [if_neg hw] at this
    exact ⟨undef, .inr ⟨by simpa using hw, rfl, this.q.1⟩, this.q.2⟩
theorem nil_fam {Q : Act → Prop} {k : Nat} {a : Act} (h : Q a) : Wf P ops C Q [] k a := ⟨h⟩
end
end Go.Proofs.Ytfmnbkcjibhloaa
