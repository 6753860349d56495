/- Links in new memory, a map and a box beside them: their acts; and the class of a region that counts one more in the map. Conditions: the bounds of WI. -/
import Derived.Test.YtppjjbhbbnnpgaaCnt
namespace Go.Proofs.Ytppjjbhbbnnpgaa
open Go.RowKit G Go.Maps Go.WideShapes Go.WideElems
set_option linter.unusedVariables false
set_option linter.unusedSimpArgs false
structure MW (W w : World) (P : Nat) (v : Value) (x : Wn) (M n : Nat) (D : DataW Unit) : Prop where
  p : WAt 58 34 w P v x
  b : Below W.heap.size W w
  f : ∀ c ∈ wfp P v, W.heap.size ≤ c
  m : Mp w M n D
  d : M ∉ wfp P v
  g : W.heap.size ≤ M
structure MB (W w : World) (P : Nat) (v : Value) (x : Wn) (M n : Nat) (D : DataW Unit) (B : Nat) (bx : Array Value) : Prop where
  o : MW W w P v x M n D
  r : Row w B bx 31
  h : B ∉ wfp P v
  m : B ≠ M
section
variable {W w w' : World} {P m : Nat} {v u : Value} {x x' : Wn} {M n n' B : Nat} {D D' : DataW Unit} {bx : Array Value}
theorem MW.step (h : MW W w P v x M n D) (hp : WAt 58 34 w' P u x') (st : Stp (wfp P v) (wfp P u) w w') : MW W w' P u x' M n D :=
  ⟨hp, h.b.trans (st.keep.toBelow h.f h.b.size), fun c hc => (st.new c hc).elim (h.f c) (fun hh => Nat.le_trans h.b.size hh), own_blk h.m (st.keep.block M h.m.lt h.d), fun hm => (st.new _ hm).elim h.d (fun hh => by have := h.m.lt; omega), h.g⟩
theorem MW.below (h : MW W w P v x M n D) (hb : Below w.heap.size w w') : MW W w' P v x M n D := ⟨h.p.below hb, below_of h.b hb, h.f, own_blk h.m (hb.block M h.m.lt), h.d, h.g⟩
theorem MW.drewN (h : MW W w P v x M n D) (k : Nat) : MW W (w.drewN k) P v x M n D := ⟨h.p.drewN k, below_drewN h.b k, h.f, own_blk h.m rfl, h.d, h.g⟩
theorem MW.put (h : MW W w P v x M n D) (hk : Kept [M] w w') (hm : Mp w' M n' D') : MW W w' P v x M n' D' :=
  ⟨h.p.kept hk (fun b hb hm => h.d (by simp at hm; rw [← hm]; exact hb)), h.b.trans (hk.toBelow (fun c hc => by simp at hc; rw [hc]; exact h.g) h.b.size), h.f, hm, h.d, h.g⟩
theorem MW.mono (h : MW W w P v x M n D) (hn : n ≤ n') : MW W w P v x M n' D := ⟨h.p, h.b, h.f, h.m.mono hn, h.d, h.g⟩
theorem MB.step (h : MB W w P v x M n D B bx) (hp : WAt 58 34 w' P u x') (st : Stp (wfp P v) (wfp P u) w w') : MB W w' P u x' M n D B bx :=
  ⟨h.o.step hp st, h.r.kept st.keep h.h, fun hm => (st.new _ hm).elim h.h (fun hh => by have := h.r.lt; omega), h.m⟩
theorem MB.below (h : MB W w P v x M n D B bx) (hb : Below w.heap.size w w') : MB W w' P v x M n D B bx := ⟨h.o.below hb, h.r.below hb, h.h, h.m⟩
theorem MB.put (h : MB W w P v x M n D B bx) (hk : Kept [M] w w') (hm : Mp w' M n' D') : MB W w' P v x M n' D' B bx :=
  ⟨h.o.put hk hm, h.r.kept hk (fun hm => h.m (by simpa using hm)), h.h, h.m⟩
theorem MB.send (h : MB W w P v x M n D B bx) (q : WI m x) (hm : m ≤ 900000) (f t : Int) (s : ByteArray) (e : Int) (he : x.sendE ⟨f, t, s⟩ = e) : Calls Try.prog 8 #[ptr P, .agg #[.int .i64 f, .int .i64 t, .string s]] w fun r w' => r = .returned (.int .i64 e) ∧ ∃ u, MB W w' P u (x.send ⟨f, t, s⟩) M n D B bx :=
  (send_any h.o.p q.n q.l q.c0 (by have := q.c1; omega) ⟨f, t, s⟩).mono fun _ _ ⟨h1, u, hp, st⟩ => ⟨he ▸ h1, u, h.step hp st⟩
theorem MB.dbl (h : MB W w P v x M n D B bx) (q : WI m x) (i e : Int) (he : x.dblE i = e) : Calls Try.prog 13 #[ptr P, .int .i64 i] w fun r w' => r = .returned (.int .i64 e) ∧ ∃ u, MB W w' P u (x.dbl i) M n D B bx :=
  (dbl_any h.o.p (by have := q.l; omega) i).mono fun _ _ ⟨h1, u, hp, st⟩ => ⟨he ▸ h1, u, h.step hp st⟩
theorem MB.take (h : MB W w P v x M n D B bx) (q : WI m x) (i f t : Int) (s : ByteArray) (e : Int) (hy : atL x.ls i = ⟨f, t, s⟩) (he : atE x.ls i = e) : Calls Try.prog 10 #[ptr P, .int .i64 i] w fun r w' => r = .returned (.tuple #[.agg #[.int .i64 f, .int .i64 t, .string s], .int .i64 e]) ∧ ∃ u, MB W w' P u (x.take i) M n D B bx :=
  (take_any h.o.p (by have := q.l; omega) i).mono fun _ _ ⟨h1, u, hp, st⟩ => ⟨by rw [h1, hy, he], u, h.step hp st⟩
theorem MB.cut (h : MB W w P v x M n D B bx) (q : WI m x) (hm : m ≤ 900000) (a b : Int) (o : Bool) (e : Int) (he : cutE x.n a b = e) : Calls Try.prog 15 #[ptr P, .int .i64 a, .int .i64 b, .bool o] w fun r w' => r = .returned (.int .i64 e) ∧ ∃ u, MB W w' P u (x.cut a b o) M n D B bx :=
  (cut_any h.o.p (by have := q.l; omega) q.c0 (by have := q.c1; omega) q.n a b o).mono fun _ _ ⟨h1, u, hp, st⟩ => ⟨he ▸ h1, u, h.step hp st⟩
theorem MW.waits (h : MW W w P v x M n D) (k : Int) (hk : (x.ls.length : Int) = k) : Calls Try.prog 17 #[ptr P] w fun r w' => r = .returned (.int .i64 k) ∧ w' = w := by
  obtain ⟨p, c, hv⟩ := h.p.s.len
  subst hk
  exact waits_any (by rw [← hv]; exact h.p.c1)
theorem MW.lost (h : MW W w P v x M n D) (k : Int) (hk : x.lost = k) : Calls Try.prog 18 #[ptr P] w fun r w' => r = .returned (.int .i64 k) ∧ w' = w := by
  subst hk
  exact lost_any h.p.cl
theorem MW.out (h : MW W w P v x M n D) (q : WI m x) (a b : Int) (o : Bool) (ho : x.outB a b = o) : Calls Try.prog 19 #[ptr P, .int .i64 a, .int .i64 b] w fun r w' => r = .returned (.bool o) ∧ w' = w := by
  subst ho
  exact out_any h.p q.n a b
end
/-- A statement that counts one more in the map, in whatever order. -/
structure Em (W : World) (M n : Nat) (D : DataW Unit) (y : Lt) (j : Nat) (σ : St) (w : World) : Prop where
  k : Kept [M] W w
  a : σ 10 = none → Mp w M n D
  l : σ 12 = none → (Instr.lookup 54 (.map (some M)) (.agg #[.int .i64 y.f, .int .i64 y.t, .string y.s]) false).run Try.prog w = .ok (.int .i64 j) w
  b : ∀ v0 st, σ 10 = some (.tuple #[v0, .int .i64 st]) → σ 12 = none → ∀ w2 : World, w2.heap[M]? = w.heap[M]? → ∃ w3, (Instr.entryStore 54 (.map (some M)) (.int .i64 st) (.int .i64 (j + 1))).run Try.prog w2 = .ok () w3 ∧ Mp w3 M (n + 1) (D.put (klit y) (cz (j + 1))) ∧ Kept [M] w2 w3
  c : ∀ v, σ 12 = some v → Mp w M (n + 1) (D.put (klit y) (cz (j + 1)))
  d : ∀ v, σ 12 = some v → (σ 8).isSome = true ∧ (σ 10).isSome = true
inductive IsEnt : Value → Prop
  | mk (v0 : Value) (st : Int) : IsEnt (.tuple #[v0, .int .i64 st])
section
variable {W w w' : World} {M n j i : Nat} {D : DataW Unit} {y : Lt} {σ : St} {v : Value}
theorem Em.start (h : Mp W M n D) (hy : Vd y) (hj : D.atKey (klit y) (cz 0) = cz j) : Em W M n D y j (fun _ => none) W.drew :=
  ⟨(Kept.refl _ _).drew, fun _ => own_blk h rfl, fun _ => Mp.look (own_blk (w' := W.drew) h rfl) hy hj, fun _ _ h => (by cases h), fun _ h => (by cases h), fun _ h => (by cases h)⟩
theorem Em.pure (h : Em W M n D y j σ w) (h1 : 8 ≠ i) (h2 : 10 ≠ i) (h3 : 12 ≠ i) : Em W M n D y j (σ.upd i v) w :=
  ⟨h.k, by rw [upd_ne h2]; exact h.a, by rw [upd_ne h3]; exact h.l, by rw [upd_ne h2, upd_ne h3]; exact h.b, by rw [upd_ne h3]; exact h.c, by rw [upd_ne h1, upd_ne h2, upd_ne h3]; exact h.d⟩
theorem Em.skips (h1 : 8 ≠ i) (h2 : 10 ≠ i) (h3 : 12 ≠ i) : skips (Em W M n D y j) i := fun σ w _ h => h.pure h1 h2 h3
theorem Em.look (h : Em W M n D y j σ w) (hk : σ 8 = none) : (Instr.lookup 54 (.map (some M)) (.agg #[.int .i64 y.f, .int .i64 y.t, .string y.s]) false).run Try.prog w = .ok (.int .i64 j) w := by
  refine h.l ?_
  cases e : σ 12 with
  | none => rfl
  | some v => have := (h.d v e).1; rw [hk] at this; cases this
theorem Em.set8 (h : Em W M n D y j σ w) : Em W M n D y j (σ.upd 8 v) w :=
  ⟨h.k, by rw [upd_ne (by omega)]; exact h.a, by rw [upd_ne (by omega)]; exact h.l, by rw [upd_ne (by omega), upd_ne (by omega)]; exact h.b, by rw [upd_ne (by omega)]; exact h.c, by
    rw [upd_ne (show 12 ≠ 8 by omega), upd_ne (show 10 ≠ 8 by omega), upd_eq]; exact fun v hv => ⟨rfl, (h.d v hv).2⟩⟩
theorem Em.entry (h : Em W M n D y j σ w) (hk : σ 10 = none) (hn : n ≤ 100000) (hy : Vd y) (hj : D.atKey (klit y) (cz 0) = cz j) (hj2 : j ≤ 1000) :
    ∃ v0 st w1, (Instr.mapEntry 54 (.map (some M)) (.agg #[.int .i64 y.f, .int .i64 y.t, .string y.s])).run Try.prog w = .ok (.tuple #[v0, .int .i64 st]) w1 ∧ Em W M n D y j (σ.upd 10 (.tuple #[v0, .int .i64 st])) w1 := by
  have h12 : σ 12 = none := by
    cases e : σ 12 with
    | none => rfl
    | some v => have := (h.d v e).2; rw [hk] at this; cases this
  have hm := h.a hk
  obtain ⟨v0, st, w1, hr, he⟩ := Mp.entry hm hn hy hj hj2
  have e12 : (σ.upd 10 (.tuple #[v0, .int .i64 st])) 12 = none := by rw [upd_ne (by omega)]; exact h12
  refine ⟨v0, st, w1, hr, h.k.trans he.k, by rw [upd_eq]; exact (fun h => by cases h), fun _ => Mp.look he.m hy (atKey_put_same ?_ (show WideAt.IsKeyLit (klit y) from trivial) _ _), ?_, by rw [e12]; exact (fun _ h => by cases h), by rw [e12]; exact (fun _ h => by cases h)⟩
  · obtain ⟨es, clock, -, -, -, hD⟩ := hm
    exact ⟨_, hD⟩
  · rw [upd_eq]
    intro a b e _
    injection e with e
    have q : st = b := by
      have := congrArg (fun v => match v with | Value.tuple a => a.getD 1 (.bool false) | x => x) e
      simpa using this
    subst q
    exact he.s
theorem Em.store (h : Em W M n D y j σ w) {v0 v8 : Value} {st : Int} (h10 : σ 10 = some (.tuple #[v0, .int .i64 st])) (h8 : σ 8 = some v8) (hk : σ 12 = none) :
    ∃ w1, (Instr.entryStore 54 (.map (some M)) (.int .i64 st) (.int .i64 (j + 1))).run Try.prog w = .ok () w1 ∧ ∀ v, Em W M n D y j (σ.upd 12 v) w1 := by
  obtain ⟨w1, hr, hm, hk1⟩ := h.b v0 st h10 hk w rfl
  refine ⟨w1, hr, fun v => ⟨h.k.trans hk1, ?_, by rw [upd_eq]; exact (fun h => by cases h), by rw [upd_eq]; exact (fun _ _ _ h => by cases h), fun _ _ => hm, ?_⟩⟩
  · rw [upd_ne (by omega), h10]; exact (fun h => by cases h)
  · rw [upd_ne (show 8 ≠ 12 by omega), upd_ne (show 10 ≠ 12 by omega), h10, h8]; exact (fun _ _ => ⟨rfl, rfl⟩)
end
end Go.Proofs.Ytppjjbhbbnnpgaa
