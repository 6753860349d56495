/- A region that draws its order and whose operations may write, allocate and append: one walk of the order of the text serves every order; the worlds are told by which operations are done, and with which values. No condition. -/
import Derived.Test.YtccmnphjiebiaaaRow
import Derived.Deep.Quiet
namespace Go.Proofs.Ytccmnphjiebiaaa.G
set_option linter.unusedVariables false
/-- What the operations have yielded that are done. -/
abbrev St := Nat → Option Value
def St.upd (σ : St) (k : Nat) (v : Value) : St := fun i => if i = k then some v else σ i
abbrev Vals := Nat → Value
def Vals.upd (x : Vals) (k : Nat) (v : Value) : Vals := fun i => if i = k then v else x i
theorem Vals.upd_comm (x : Vals) {i j : Nat} (h : i ≠ j) (v u : Value) : (x.upd i v).upd j u = (x.upd j u).upd i v := by
  funext k; unfold Vals.upd
  by_cases e1 : k = i
  · subst e1; simp [h]
  · simp [e1]
section
variable {P : Program} {ops : Array Oper} {md : Region.Mode} {pl : Bool} {C : St → World → Prop}
/-- What is asked once an operation has come to this. -/
def upon (P : Program) (pl : Bool) (R : Value → World → Prop) : Result Next → Prop
  | .ok (.value u) w' => R u w'
  | .ok .skip w' => R undef w'
  | .ok (.enter f args) w' => pl = false ∧ Calls P f args w' (fun e w'' => ∃ v, e = .returned v ∧ R v w'')
  | _ => False
def runAt (P : Program) (pl : Bool) (o : Oper) (a : Act) (R : Value → World → Prop) (w : World) : Prop := upon P pl R ((execOp a.eval o).run P w)
/-- All that operation o waits for is done, and yielded this. -/
def Deps (md : Region.Mode) (o : Oper) (x : Vals) (σ : St) : Prop := ∀ e ∈ o.after, Region.binds md e = true → σ e.on = some (x e.on)
theorem Deps.get {o : Oper} {x : Vals} {σ : St} (h : Deps md o x σ) (i : Nat) (hi : (o.after.any fun e => e.on == i && Region.binds md e) = true) : σ i = some (x i) := by
  rw [Array.any_eq_true'] at hi
  obtain ⟨e, he, h1⟩ := hi
  simp only [Bool.and_eq_true, beq_iff_eq] at h1
  rw [← h1.1]
  exact h e he h1.2
/-- Operation k yields something of V, in every world of the family in which it is not done and its like are. -/
def does (P : Program) (md : Region.Mode) (pl : Bool) (k : Nat) (o : Oper) (x : Vals) (a : Act) (C : St → World → Prop) (V : Value → Prop) : Prop :=
  ∀ σ w, σ k = none → Deps md o x σ → C σ w → runAt P pl o a (fun v w' => V v ∧ C (σ.upd k v) w') w
def skips (C : St → World → Prop) (k : Nat) : Prop := ∀ σ w, σ k = none → C σ w → C (σ.upd k undef) w
def Fam (P : Program) (md : Region.Mode) (pl : Bool) (ops : Array Oper) (C : St → World → Prop) (i : Nat) (o : Oper) (V : Value → Prop) (x : Vals) (a : Act) : Prop :=
  (Region.wanted o (yielded ops a.tmps) = true ∧ does P md pl i o x a C V) ∨ (Region.wanted o (yielded ops a.tmps) = false ∧ (∀ v, V v ↔ v = undef) ∧ skips C i)
def fOp (P : Program) (md : Region.Mode) (pl : Bool) (ops : Array Oper) (C : St → World → Prop) (i : Nat) (K : Vals → Act → Prop) (x : Vals) (a : Act) : Prop :=
  match ops[i]? with
  | none => False
  | some o => ∃ V, Fam P md pl ops C i o V x a ∧ ∀ v, V v → K (x.upd i v) (a.put o.dst v)
theorem fOp_mono {i : Nat} {a : Act} {x : Vals} {K K' : Vals → Act → Prop} (h : ∀ x a, K x a → K' x a) (hh : fOp P md pl ops C i K x a) : fOp P md pl ops C i K' x a := by
  unfold fOp at *
  split
  · rename_i ho; simp only [ho] at hh
  · rename_i o ho
    simp only [ho] at hh
    obtain ⟨V, h1, h2⟩ := hh
    exact ⟨V, h1, fun v hv => h _ _ (h2 v hv)⟩
def wpFam (P : Program) (md : Region.Mode) (ops : Array Oper) (C : St → World → Prop) (Q : Vals → Act → Prop) : Bool → List Oper → Nat → Vals → Act → Prop
  | _, [], _, x, a => Q x a
  | pl, o :: rest, k, x, a => (∃ v, Fam P md pl ops C k o (· = v) x a ∧ wpFam P md ops C Q pl rest (k + 1) (x.upd k v) (a.put o.dst v)) ∨
      (∃ V, (∃ v, V v) ∧ Fam P md true ops C k o V x a ∧ ∀ v, V v → wpFam P md ops C Q true rest (k + 1) (x.upd k v) (a.put o.dst v))
def wpAnyF (P : Program) (md : Region.Mode) (ops : Array Oper) (C : St → World → Prop) (Q : Vals → Act → Prop) (pl : Bool) : Nat → Array Bool → Vals → Act → Prop
  | 0, listed, x, a => Region.ready md ops listed = [] ∧ (∀ i, listed.getD i true = true) ∧ Q x a
  | fuel + 1, listed, x, a =>
    Region.ready md ops listed ≠ [] ∧
    ∀ i ∈ Region.ready md ops listed, fOp P md pl ops C i (wpAnyF P md ops C Q pl fuel (listed.setIfInBounds i true)) x a
theorem upon_less {R : Value → World → Prop} {r : Result Next} (h : upon P true R r) : upon P pl R r := by
  cases r with
  | ok n w' =>
    cases n <;> simp only [upon] at h ⊢
    case value u => exact h
    case skip => exact h
    case enter f args => exact absurd h.1 (by decide)
  | halt y w' => simp only [upon] at h
theorem Fam.less {i : Nat} {o : Oper} {V : Value → Prop} {x : Vals} {a : Act} (h : Fam P md true ops C i o V x a) : Fam P md pl ops C i o V x a := by
  rcases h with ⟨h1, h2⟩ | h
  · exact .inl ⟨h1, fun σ w hs hd hC => upon_less (h2 σ w hs hd hC)⟩
  · exact .inr h
theorem fOp_less {i : Nat} {K : Vals → Act → Prop} {x : Vals} {a : Act} (h : fOp P md true ops C i K x a) : fOp P md pl ops C i K x a := by
  unfold fOp at *
  split
  · rename_i ho; simp only [ho] at h
  · rename_i o ho
    simp only [ho] at h
    obtain ⟨V, h1, h2⟩ := h
    exact ⟨V, h1.less, h2⟩
theorem wpAnyF_less {Q : Vals → Act → Prop} : ∀ (fuel : Nat) (listed : Array Bool) (x : Vals) (a : Act), wpAnyF P md ops C Q true fuel listed x a → wpAnyF P md ops C Q pl fuel listed x a
  | 0, _, _, _, h => h
  | fuel + 1, _, _, _, h => ⟨h.1, fun i hi => fOp_mono (fun x' a' h' => wpAnyF_less fuel _ x' a' h') (fOp_less (h.2 i hi))⟩
theorem wpOp_of_fOp {i : Nat} {a : Act} {x : Vals} {K : Vals → Act → Prop} {K' : Act → World → Prop} {Q' : Exit → Act → World → Prop} {w : World} {σ : St} (hs : σ i = none) (hd : ∀ o, ops[i]? = some o → Deps md o x σ) (hC : C σ w)
    (h : ∀ v a w', C (σ.upd i v) w' → K (x.upd i v) a → K' a w') (hh : fOp P md pl ops C i K x a) : wpOp P ops Q' i K' a w := by
  unfold fOp at hh
  unfold wpOp
  split
  · rename_i ho; simp only [ho] at hh
  · rename_i o ho
    simp only [ho] at hh
    obtain ⟨V, ⟨hw, h1⟩ | ⟨hw, hV, h1⟩, h2⟩ := hh
    · rw [if_pos hw]
      refine .inl ?_
      have h3 := h1 σ w hs (hd o ‹_›) hC
      unfold runAt at h3
      unfold Oper.wp
      generalize (execOp a.eval o).run P w = r at *
      cases r with
      | ok n w' =>
        cases n <;> simp only [upon] at h3 <;> simp only [Oper.upon]
        case value u => exact h _ _ _ h3.2 (h2 u h3.1)
        case skip => exact h _ _ _ h3.2 (h2 undef h3.1)
        case enter f args =>
          exact h3.2.mono fun e w'' ⟨v, he, hV, hw''⟩ => by subst he; exact h _ _ _ hw'' (h2 v hV)
      | halt y w' => simp only [upon] at h3
    · rw [if_neg (by simp [hw])]
      exact h undef _ _ (h1 σ w hs hC) (h2 undef ((hV undef).2 rfl))
/-- The state agrees with what is listed. -/
def Agree (listed : Array Bool) (x : Vals) (σ : St) : Prop := ∀ i, (listed.getD i true = false → σ i = none) ∧ (listed.getD i false = true → σ i = some (x i))
theorem Agree.upd {listed : Array Bool} {x : Vals} {σ : St} (h : Agree listed x σ) (k : Nat) (v : Value) : Agree (listed.setIfInBounds k true) (x.upd k v) (σ.upd k v) := by
  intro i
  by_cases e : i = k
  · subst e
    refine ⟨fun hf => ?_, fun _ => ?_⟩
    · by_cases hl : i < listed.size
      · simp [hl] at hf
      · simp [hl] at hf
    · unfold St.upd Vals.upd; rw [if_pos rfl, if_pos rfl]
  · rw [getD_set_ne true (Ne.symm e), getD_set_ne false (Ne.symm e)]
    unfold St.upd Vals.upd
    rw [if_neg e, if_neg e]
    exact h i
theorem wpAny_of_fam {Q : Vals → Act → Prop} {Q' : Exit → Act → World → Prop} {n : Nat} (hQ : ∀ x σ a w, (∀ i, i < n → σ i = some (x i)) → C σ w → Q x a → Q' .normal a w) : ∀ (fuel : Nat) (listed : Array Bool) (x : Vals) (σ : St) (a : Act) (w : World), listed.size = n → Agree listed x σ → C σ w →
    wpAnyF P md ops C Q pl fuel listed x a → wpAny P md ops Q' fuel listed a w
  | 0, listed, x, σ, _, _, hn, hA, hw, h => ⟨h.1, hQ x σ _ _ (fun i hi => (hA i).2 (by
      have := h.2.1 i
      have hl : i < listed.size := by omega
      simp [hl] at this ⊢; exact this)) hw h.2.2⟩
  | fuel + 1, listed, x, σ, _, _, hn, hA, hw, h => ⟨fun h0 => absurd h0 h.1, fun i hi =>
      wpOp_of_fOp ((hA i).1 (mem_ready.1 hi).1) (fun o ho e he hb => by
        obtain ⟨_, o', ho', hall⟩ := mem_ready.1 hi
        rw [ho'] at ho; cases ho
        exact (hA e.on).2 (hall e he hb)) hw (fun v a' w' hw' hK => wpAny_of_fam hQ fuel _ _ _ a' w' (by simpa using hn) (hA.upd i v) hw' hK) (h.2 i hi)⟩
theorem Fam.of_same {i : Nat} {o : Oper} {V : Value → Prop} {x x' : Vals} {a a' : Act} (hy : Fam P md pl ops C i o V x a) (he : execOp a'.eval o = execOp a.eval o)
    (hw : Region.wanted o (yielded ops a'.tmps) = Region.wanted o (yielded ops a.tmps)) (hx : ∀ e ∈ o.after, Region.binds md e = true → x' e.on = x e.on) : Fam P md pl ops C i o V x' a' := by
  unfold Fam does runAt at *
  rw [he, hw]
  rcases hy with ⟨h1, h2⟩ | h
  · exact .inl ⟨h1, fun σ w hs hd hC => h2 σ w hs (fun e he hb => by rw [hd e he hb, hx e he hb]) hC⟩
  · exact .inr h
/-- j, apart from i, whose value is one: i's may be put behind it. -/
theorem fOp_put1 {i j : Nat} {oi oj : Oper} {v : Value} {pi : Bool} (hij : j ≠ i) (hj : ops[j]? = some oj) (hap : oi.apart ops oj = true)
    (hsi : ∀ cs b, oi.op ≠ .select cs b) (hsj : ∀ cs b, oj.op ≠ .select cs b) (hji : ∀ e ∈ oj.after, Region.binds md e = true → e.on ≠ i) (hiij : ∀ e ∈ oi.after, Region.binds md e = true → e.on ≠ j) {K : Vals → Act → Prop} {a : Act} {x : Vals}
    (hy : Fam P md pi ops C i oi (· = v) x a) (h : fOp P md pl ops C j K (x.upd i v) (a.put oi.dst v)) :
    fOp P md pl ops C j (fun x' a' => Fam P md pi ops C i oi (· = v) x' a' ∧ K (x'.upd i v) (a'.put oi.dst v)) x a := by
  obtain ⟨h1, h2, h3⟩ := Oper.apart_spec hap
  unfold fOp at *
  simp only [hj] at *
  obtain ⟨U, hU, hK⟩ := h
  refine ⟨U, hU.of_same (execOp_put oj hsj a oi.dst v h1).symm (wanted_put oj a oi.dst v h1).symm (fun e he hb => by unfold Vals.upd; rw [if_neg (hji e he hb)]), fun u hu => ⟨?_, ?_⟩⟩
  · exact hy.of_same (execOp_put oi hsi a oj.dst u h3) (wanted_put oi a oj.dst u h3) (fun e he hb => by unfold Vals.upd; rw [if_neg (hiij e he hb)])
  · rw [Vals.upd_comm x hij u v, ← Act.put_comm a v u h2]
    exact hK u hu
/-- j, apart from i, whose value may vary: j is no call of a Go function. -/
theorem fOp_putV {i j : Nat} {oi oj : Oper} {V : Value → Prop} (hij : j ≠ i) (hj : ops[j]? = some oj) (hap : oi.apart ops oj = true)
    (hsi : ∀ cs b, oi.op ≠ .select cs b) (hsj : ∀ cs b, oj.op ≠ .select cs b) (hji : ∀ e ∈ oj.after, Region.binds md e = true → e.on ≠ i) (hiij : ∀ e ∈ oi.after, Region.binds md e = true → e.on ≠ j) {K : Vals → Act → Prop} {a : Act} {x : Vals}
    (hV : ∃ v, V v) (hy : Fam P md true ops C i oi V x a) (h : ∀ v, V v → fOp P md true ops C j K (x.upd i v) (a.put oi.dst v)) :
    fOp P md true ops C j (fun x' a' => Fam P md true ops C i oi V x' a' ∧ ∀ v, V v → K (x'.upd i v) (a'.put oi.dst v)) x a := by
  obtain ⟨h1, h2, h3⟩ := Oper.apart_spec hap
  unfold fOp at *
  simp only [hj] at *
  obtain ⟨v0, hv0⟩ := hV
  have back : ∀ v (U : Value → Prop), Fam P md true ops C j oj U (x.upd i v) (a.put oi.dst v) → Fam P md true ops C j oj U x a := fun v U hU =>
    hU.of_same (execOp_put oj hsj a oi.dst v h1).symm (wanted_put oj a oi.dst v h1).symm (fun e he hb => by unfold Vals.upd; rw [if_neg (hji e he hb)])
  have keep : ∀ u, Fam P md true ops C i oi V (x.upd j u) (a.put oj.dst u) := fun u => hy.of_same (execOp_put oi hsi a oj.dst u h3) (wanted_put oi a oj.dst u h3) (fun e he hb => by unfold Vals.upd; rw [if_neg (hiij e he hb)])
  by_cases hw : Region.wanted oj (yielded ops a.tmps) = true
  · have key : ∀ v, V v → ∃ U : Value → Prop, does P md true j oj x a C U ∧ ∀ u, U u → K ((x.upd i v).upd j u) ((a.put oi.dst v).put oj.dst u) := fun v hv => by
      obtain ⟨U, hU, hK⟩ := h v hv
      rcases back v U hU with ⟨_, hd⟩ | ⟨hw', _⟩
      · exact ⟨U, hd, hK⟩
      · rw [hw] at hw'; cases hw'
    refine ⟨fun u => ∀ v, V v → K ((x.upd i v).upd j u) ((a.put oi.dst v).put oj.dst u), .inl ⟨hw, fun σ w hs hd hC => ?_⟩, fun u hu => ⟨keep u, fun v hv => ?_⟩⟩
    · obtain ⟨U0, hd0, _⟩ := key v0 hv0
      have r0 := hd0 σ w hs hd hC
      have all : ∀ v, V v → ∃ U : Value → Prop, upon P true (fun u w' => U u ∧ C (σ.upd j u) w') ((execOp a.eval oj).run P w) ∧ ∀ u, U u → K ((x.upd i v).upd j u) ((a.put oi.dst v).put oj.dst u) := fun v hv => by
        obtain ⟨U, hd1, hK⟩ := key v hv
        exact ⟨U, hd1 σ w hs hd hC, hK⟩
      unfold runAt at r0 ⊢
      generalize (execOp a.eval oj).run P w = r at *
      cases r with
      | ok n w' =>
        cases n <;> simp only [upon] at r0 ⊢
        case value u => exact ⟨fun v hv => by obtain ⟨U, hd1, hK⟩ := all v hv; exact hK u hd1.1, r0.2⟩
        case skip => exact ⟨fun v hv => by obtain ⟨U, hd1, hK⟩ := all v hv; exact hK undef hd1.1, r0.2⟩
        case enter f args => exact absurd r0.1 (by decide)
      | halt y w' => simp only [upon] at r0
    · rw [Vals.upd_comm x hij u v, ← Act.put_comm a v u h2]
      exact hu v hv
  · have key : ∀ v, V v → skips C j ∧ K ((x.upd i v).upd j undef) ((a.put oi.dst v).put oj.dst undef) := fun v hv => by
      obtain ⟨U, hU, hK⟩ := h v hv
      rcases back v U hU with ⟨hw', _⟩ | ⟨_, hd, hs⟩
      · exact absurd hw' hw
      · exact ⟨hs, hK undef ((hd undef).2 rfl)⟩
    refine ⟨(· = undef), .inr ⟨by simpa using hw, fun _ => Iff.rfl, (key v0 hv0).1⟩, fun u hu => ⟨keep u, fun v hv => ?_⟩⟩
    subst hu
    rw [Vals.upd_comm x hij undef v, ← Act.put_comm a v undef h2]
    exact (key v hv).2
theorem first1 {Q : Vals → Act → Prop} {i : Nat} {oi : Oper} {v : Value} {pi : Bool} (hi : ops[i]? = some oi) (hsel : ∀ (j : Nat) (o : Oper) cs b, ops[j]? = some o → o.op ≠ .select cs b) (hpi : pi = pl) :
    ∀ (fuel : Nat) (listed : Array Bool) (x : Vals) (a : Act),
      (∀ j oj, ops[j]? = some oj → j ≠ i → listed.getD j true = false → (∀ e ∈ oj.after, Region.binds md e = true → e.on ≠ i) → oi.apart ops oj = true) →
      i ∈ Region.ready md ops listed → Fam P md pi ops C i oi (· = v) x a →
      wpAnyF P md ops C Q pl fuel (listed.setIfInBounds i true) (x.upd i v) (a.put oi.dst v) → wpAnyF P md ops C Q pl (fuel + 1) listed x a := by
  subst hpi
  intro fuel
  have self : ∀ {K : Vals → Act → Prop} {x : Vals} {a : Act}, Fam P md pi ops C i oi (· = v) x a → K (x.upd i v) (a.put oi.dst v) → fOp P md pi ops C i K x a := fun {K x a} hy h => by
    unfold fOp; simp only [hi]; exact ⟨_, hy, fun u hu => hu ▸ h⟩
  induction fuel with
  | zero =>
    intro listed x a _ hr hy H
    refine ⟨fun h => (by rw [h] at hr; cases hr), fun j hj => ?_⟩
    by_cases hji : j = i
    · subst hji; exact self hy H
    · have := ready_mono hj hji
      rw [H.1] at this
      cases this
  | succ fuel ih =>
    intro listed x a hfree hr hy H
    refine ⟨fun h => (by rw [h] at hr; cases hr), fun j hj => ?_⟩
    by_cases hji : j = i
    · subst hji; exact self hy H
    · have h1 := H.2 j (ready_mono hj hji)
      obtain ⟨hjun, oj, hoj, hall⟩ := mem_ready.1 hj
      obtain ⟨hiun, oi', hoi, halli⟩ := mem_ready.1 hr
      rw [hi] at hoi; cases hoi
      have hnot : ∀ (k m : Nat), listed.getD k true = false → listed.getD m false = true → m ≠ k := fun k m h0 h1 heq => by
        rw [heq] at h1
        rcases Nat.lt_or_ge k listed.size with h' | h'
        · simp [h'] at h0 h1; rw [h0] at h1; cases h1
        · simp [Array.getElem?_eq_none h'] at h1
      have h2 := fOp_put1 hji hoj (hfree j oj hoj hji hjun (fun e he hb => hnot i e.on hiun (hall e he hb))) (fun cs b => hsel i oi cs b hi) (fun cs b => hsel j oj cs b hoj) (fun e he hb => hnot i e.on hiun (hall e he hb)) (fun e he hb => hnot j e.on hjun (halli e he hb)) hy h1
      have hfree' : ∀ k ok, ops[k]? = some ok → k ≠ i → (listed.setIfInBounds j true).getD k true = false →
          (∀ e ∈ ok.after, Region.binds md e = true → e.on ≠ i) → oi.apart ops ok = true := fun k ok hk hki hun hno => by
        refine hfree k ok hk hki ?_ hno
        by_cases hjk : j = k
        · subst hjk; exact hjun
        · rw [getD_set_ne true hjk] at hun; exact hun
      refine fOp_mono (fun x' a' h3 => ih (listed.setIfInBounds j true) x' a' hfree' (ready_mono hr (Ne.symm hji)) h3.1 ?_) h2
      rw [Array.setIfInBounds_comm _ _ hji]
      exact h3.2
theorem firstV {Q : Vals → Act → Prop} {i : Nat} {oi : Oper} {V : Value → Prop} (hi : ops[i]? = some oi) (hsel : ∀ (j : Nat) (o : Oper) cs b, ops[j]? = some o → o.op ≠ .select cs b) (hV : ∃ v, V v) :
    ∀ (fuel : Nat) (listed : Array Bool) (x : Vals) (a : Act),
      (∀ j oj, ops[j]? = some oj → j ≠ i → listed.getD j true = false → (∀ e ∈ oj.after, Region.binds md e = true → e.on ≠ i) → oi.apart ops oj = true) →
      i ∈ Region.ready md ops listed → Fam P md true ops C i oi V x a →
      (∀ v, V v → wpAnyF P md ops C Q true fuel (listed.setIfInBounds i true) (x.upd i v) (a.put oi.dst v)) → wpAnyF P md ops C Q true (fuel + 1) listed x a := by
  intro fuel
  have self : ∀ {K : Vals → Act → Prop} {x : Vals} {a : Act}, Fam P md true ops C i oi V x a → (∀ v, V v → K (x.upd i v) (a.put oi.dst v)) → fOp P md true ops C i K x a := fun {K x a} hy h => by
    unfold fOp; simp only [hi]; exact ⟨_, hy, h⟩
  obtain ⟨v0, hv0⟩ := hV
  induction fuel with
  | zero =>
    intro listed x a _ hr hy H
    refine ⟨fun h => (by rw [h] at hr; cases hr), fun j hj => ?_⟩
    by_cases hji : j = i
    · subst hji; exact self hy H
    · have := ready_mono hj hji
      rw [(H v0 hv0).1] at this
      cases this
  | succ fuel ih =>
    intro listed x a hfree hr hy H
    refine ⟨fun h => (by rw [h] at hr; cases hr), fun j hj => ?_⟩
    by_cases hji : j = i
    · subst hji; exact self hy H
    · have h1 := fun v hv => (H v hv).2 j (ready_mono hj hji)
      obtain ⟨hjun, oj, hoj, hall⟩ := mem_ready.1 hj
      obtain ⟨hiun, oi', hoi, halli⟩ := mem_ready.1 hr
      rw [hi] at hoi; cases hoi
      have hnot : ∀ (k m : Nat), listed.getD k true = false → listed.getD m false = true → m ≠ k := fun k m h0 h1 heq => by
        rw [heq] at h1
        rcases Nat.lt_or_ge k listed.size with h' | h'
        · simp [h'] at h0 h1; rw [h0] at h1; cases h1
        · simp [Array.getElem?_eq_none h'] at h1
      have h2 := fOp_putV hji hoj (hfree j oj hoj hji hjun (fun e he hb => hnot i e.on hiun (hall e he hb))) (fun cs b => hsel i oi cs b hi) (fun cs b => hsel j oj cs b hoj) (fun e he hb => hnot i e.on hiun (hall e he hb)) (fun e he hb => hnot j e.on hjun (halli e he hb)) ⟨v0, hv0⟩ hy h1
      have hfree' : ∀ k ok, ops[k]? = some ok → k ≠ i → (listed.setIfInBounds j true).getD k true = false →
          (∀ e ∈ ok.after, Region.binds md e = true → e.on ≠ i) → oi.apart ops ok = true := fun k ok hk hki hun hno => by
        refine hfree k ok hk hki ?_ hno
        by_cases hjk : j = k
        · subst hjk; exact hjun
        · rw [getD_set_ne true hjk] at hun; exact hun
      refine fOp_mono (fun x' a' h3 => ih (listed.setIfInBounds j true) x' a' hfree' (ready_mono hr (Ne.symm hji)) h3.1 (fun v hv => ?_)) h2
      rw [Array.setIfInBounds_comm _ _ hji]
      exact h3.2 v hv
theorem lex {Q : Vals → Act → Prop} (hs : Region.noSelect ops = true) : ∀ (l : List Oper) (pl : Bool) (k : Nat) (listed : Array Bool) (x : Vals) (a : Act), (∀ j, l[j]? = ops[k + j]?) → (∀ i, i < k → listed.getD i true = true) → listed.size = ops.size →
    Region.lexFrom md ops l.length k listed = true → wpFam P md ops C Q pl l k x a → wpAnyF P md ops C Q pl l.length listed x a
  | [], pl, k, listed, x, a, hl, hfl, hsz, hB, h => by
    refine ⟨by simpa [Region.lexFrom] using hB, fun i => ?_, h⟩
    by_cases hi : i < k
    · exact hfl i hi
    · have h0 : ops[k + (i - k)]? = none := by rw [← hl]; simp
      have h1 : ops.size ≤ i := by
        rw [Array.getElem?_eq_none_iff] at h0; omega
      simp [Array.getD, show ¬ i < listed.size by omega]
  | o :: l, pl, k, listed, x, a, hl, hfl, hsz, hB, h => by
    have h0 : ops[k]? = some o := by simpa using (hl 0).symm
    simp only [List.length_cons, Region.lexFrom, Bool.and_eq_true] at hB
    obtain ⟨⟨hr, hf⟩, hB'⟩ := hB
    have nl : ∀ j, l[j]? = ops[k + 1 + j]? := fun j => by have := hl (j + 1); simpa [Nat.add_assoc, Nat.add_comm 1 j] using this
    have nf : ∀ i, i < k + 1 → (listed.setIfInBounds k true).getD i true = true := fun i hi => by
      by_cases e : k = i
      · subst e
        by_cases hl : k < listed.size
        · simp [hl]
        · simp [hl]
      · rw [getD_set_ne true e]; exact hfl i (by omega)
    have nz : (listed.setIfInBounds k true).size = ops.size := by simpa using hsz
    rcases h with ⟨v, hy, hK⟩ | ⟨V, hV, hy, hK⟩
    · exact first1 h0 (Region.noSelect_spec hs) rfl l.length listed x a (Region.free_spec h0 hf) (by simpa using hr) hy (lex hs l pl (k + 1) _ _ _ nl nf nz hB' hK)
    · exact wpAnyF_less _ _ _ _ (firstV h0 (Region.noSelect_spec hs) hV l.length listed x a (Region.free_spec h0 hf) (by simpa using hr) hy (fun v hv => lex hs l true (k + 1) _ _ _ nl nf nz hB' (hK v hv)))
/-- The values that are kept in mind: of operations whose values vary. -/
abbrev Tr := List (Nat × Value)
/-- The walk, kept whole: an expected type is reduced by the elaborator, and this one must not be. -/
structure Wf (P : Program) (ops : Array Oper) (C : St → World → Prop) (n : Nat) (Q : Act → World → Prop) (pl : Bool) (l : List Oper) (k : Nat) (T : Tr) (a : Act) : Prop where
  q : (∀ t ∈ T, t.1 < n) → ∀ x : Vals, (∀ t ∈ T, x t.1 = t.2) → wpFam P .any ops C (fun x a' => ∀ σ w', (∀ i, i < n → σ i = some (x i)) → C σ w' → Q a' w') pl l k x a
/-- What operation o waits for, of those that are kept in mind, is done. -/
def DepsT (o : Oper) (T : Tr) (σ : St) : Prop := ∀ t ∈ T, (o.after.any fun e => e.on == t.1 && Region.binds .any e) = true → σ t.1 = some t.2
theorem DepsT.get {o : Oper} {T : Tr} {σ : St} (h : DepsT o T σ) (i : Nat) {v : Value} (hm : (i, v) ∈ T) (hi : (o.after.any fun e => e.on == i && Region.binds .any e) = true) : σ i = some v := h (i, v) hm hi
theorem region_gen (C : St → World → Prop) {id : Nat} {Q : Exit → Act → World → Prop} {a : Act} {w : World} {l : List Oper} (hm : P.follows .mixedOrders = true) (hB : Region.lexB .any l.toArray = true) (hC : C (fun _ => none) w.drew)
    (h : Wf P l.toArray C l.length (fun a' w' => Q .normal a' w') false l 0 [] a) : (Code.region id l.toArray true).wp P Q a w := by
  simp only [Region.lexB, Bool.and_eq_true] at hB
  refine wp_region_any hm (wpAny_of_fam (C := C) (pl := false) (n := l.length) (Q := fun x a' => ∀ σ w', (∀ i, i < l.length → σ i = some (x i)) → C σ w' → Q .normal a' w') (fun x σ _ w' hx hw' h => h σ w' hx hw') _ _ (fun _ => undef) (fun _ => none) _ _ (by simp) (fun i => ⟨fun _ => rfl, fun h => ?_⟩) hC ?_)
  · by_cases hl : i < l.length
    · simp [Array.getD, hl] at h
    · simp [Array.getD, hl] at h
  · have := lex (C := C) (md := .any) hB.1 l false 0 (Array.replicate l.toArray.size false) (fun _ => undef) a (by simp) (by simp) (by simp) (by simpa using hB.2) (h.q (by simp) (fun _ => undef) (by simp))
    simpa using this
/-- What is asked of one operation, kept whole. -/
structure H1 (P : Program) (pl : Bool) (k : Nat) (o : Oper) (T : Tr) (a : Act) (C : St → World → Prop) (K : Bool → Tr → Act → Prop) : Prop where
  q : (∃ v, (∀ σ w, σ k = none → DepsT o T σ → C σ w → runAt P pl o a (fun u w' => u = v ∧ C (σ.upd k u) w') w) ∧ K pl T (a.put o.dst v)) ∨
    (∃ V : Value → Prop, (∃ v, V v) ∧ (∀ σ w, σ k = none → DepsT o T σ → C σ w → runAt P true o a (fun u w' => V u ∧ C (σ.upd k u) w') w) ∧ ∀ v, V v → K true ((k, v) :: T) (a.put o.dst v))
structure Sk (pl : Bool) (k : Nat) (o : Oper) (T : Tr) (a : Act) (C : St → World → Prop) (K : Bool → Tr → Act → Prop) : Prop where
  q : skips C k ∧ K pl T (a.put o.dst undef)
theorem H1.one {k : Nat} {o : Oper} {T : Tr} {a : Act} {K : Bool → Tr → Act → Prop} (v : Value) (h1 : ∀ σ w, σ k = none → DepsT o T σ → C σ w → runAt P pl o a (fun u w' => u = v ∧ C (σ.upd k u) w') w) (h2 : K pl T (a.put o.dst v)) : H1 P pl k o T a C K := ⟨.inl ⟨v, h1, h2⟩⟩
theorem H1.any {k : Nat} {o : Oper} {T : Tr} {a : Act} {K : Bool → Tr → Act → Prop} (V : Value → Prop) (hV : ∃ v, V v) (h1 : ∀ σ w, σ k = none → DepsT o T σ → C σ w → runAt P true o a (fun u w' => V u ∧ C (σ.upd k u) w') w) (h2 : ∀ v, V v → K true ((k, v) :: T) (a.put o.dst v)) : H1 P pl k o T a C K := ⟨.inr ⟨V, hV, h1, h2⟩⟩
theorem Sk.of {k : Nat} {o : Oper} {T : Tr} {a : Act} {K : Bool → Tr → Act → Prop} (h1 : skips C k) (h2 : K pl T (a.put o.dst undef)) : Sk pl k o T a C K := ⟨⟨h1, h2⟩⟩
theorem track {T : Tr} {x : Vals} {k : Nat} {v : Value} (hT : (T.all fun t => t.1 != k) = true) (hx : ∀ t ∈ T, x t.1 = t.2) : ∀ t ∈ T, (x.upd k v) t.1 = t.2 := by
  intro t ht
  have := List.all_eq_true.1 hT t ht
  have hn : t.1 ≠ k := by simpa using this
  unfold Vals.upd
  rw [if_neg hn]
  exact hx t ht
theorem step_gen {n : Nat} {Q : Act → World → Prop} {T : Tr} {a : Act} {k : Nat} {o : Oper} {rest : List Oper} (hk : k < n) (hT : (T.all fun t => t.1 != k) = true)
    (h : ∀ K : Bool → Tr → Act → Prop, (∀ pl T a, Wf P ops C n Q pl rest (k + 1) T a → K pl T a) → if Region.wanted o (yielded ops a.tmps) then H1 P pl k o T a C K else Sk pl k o T a C K) : Wf P ops C n Q pl (o :: rest) k T a := by
  refine ⟨fun hn x hx => ?_⟩
  have := h (fun pl T a => Wf P ops C n Q pl rest (k + 1) T a) fun pl T a h => h
  unfold wpFam
  have dep : ∀ {σ}, Deps .any o x σ → DepsT o T σ := fun hd t ht ha => (hd.get t.1 ha).trans (by rw [hx t ht])
  by_cases hw : Region.wanted o (yielded ops a.tmps) = true
  · rw [if_pos hw] at this
    rcases this.q with ⟨v, h1, h2⟩ | ⟨V, hV, h1, h2⟩
    · exact .inl ⟨v, .inl ⟨hw, fun σ w hs hd hC => h1 σ w hs (dep hd) hC⟩, h2.q hn _ (track hT hx)⟩
    · refine .inr ⟨V, hV, .inl ⟨hw, fun σ w hs hd hC => h1 σ w hs (dep hd) hC⟩, fun v hv => (h2 v hv).q (fun t ht => ?_) _ (fun t ht => ?_)⟩
      · rcases List.mem_cons.1 ht with rfl | ht
        · exact hk
        · exact hn t ht
      · rcases List.mem_cons.1 ht with rfl | ht
        · unfold Vals.upd; rw [if_pos rfl]
        · exact track hT hx t ht
  · rw [if_neg hw] at this
    exact .inl ⟨undef, .inr ⟨by simpa using hw, fun _ => Iff.rfl, this.q.1⟩, this.q.2.q hn _ (track hT hx)⟩
theorem nil_gen {n : Nat} {Q : Act → World → Prop} {k : Nat} {T : Tr} {a : Act} (h : ∀ σ w', (∀ i, i < n → (σ i).isSome = true) → (∀ t ∈ T, σ t.1 = some t.2) → C σ w' → Q a w') : Wf P ops C n Q pl [] k T a :=
  ⟨fun hn x hx σ w' hs hC => h σ w' (fun i hi => by rw [hs i hi]; rfl) (fun t ht => by rw [hs t.1 (hn t ht), hx t ht]) hC⟩
section
variable {R : Value → World → Prop} {u : Value} {w : World}
theorem upon_value : upon P pl R (.ok (.value u) w) = R u w := rfl
theorem upon_skip : upon P pl R (.ok .skip w) = R undef w := rfl
theorem upon_enter {f : FuncId} {args : Array Value} : upon P pl R (.ok (.enter f args) w) = (pl = false ∧ Calls P f args w (fun e w'' => ∃ v, e = .returned v ∧ R v w'')) := rfl
theorem runAt_run {o : Oper} {a : Act} : runAt P pl o a R w = upon P pl R ((execOp a.eval o).run P w) := rfl
end
end
end Go.Proofs.Ytccmnphjiebiaaa.G
