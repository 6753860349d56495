/- What the counts say, in plain Lean: what waits was sent; how many were sent is how many were taken, were lost, and wait. And the map of what was sent, in memory. No condition. -/
import Derived.Test.YtppjjbhbbnnpgaaDw
import Derived.Maps.Own
import Derived.Maps.Views
import Derived.WideKeyEntry
import Derived.DeepKeys4
namespace Go.Proofs.Ytppjjbhbbnnpgaa
open Go.RowKit G Go.Maps Go.WideShapes Go.ChangeMaps Go.WideElems
set_option linter.unusedVariables false
set_option linter.unusedSimpArgs false
/-- A letter that may wait. -/
structure Vd (y : Lt) : Prop where
  f0 : 0 ≤ y.f
  f1 : y.f < 16
  t0 : 0 ≤ y.t
  t1 : y.t < 16
  s : y.s.size ≤ 8192
def klits (y : Lt) : List Lit := [.int .i64 y.f, .int .i64 y.t, .string y.s.data.toList]
def klit (y : Lt) : Lit := .string (keyBytes (klits y))
theorem wf_small {n : Int} (h0 : 0 ≤ n) (h1 : n < 100000) : (Lit.int .i64 n).wf = true := by
  simp only [Lit.wf, IntKind.min, IntKind.max, IntKind.signed, IntKind.bits, Bool.and_eq_true, decide_eq_true_eq, if_true]
  omega
theorem bsize (s : ByteArray) : s.data.toList.length = s.size := rfl
theorem Vd.wf {y : Lt} (h : Vd y) : ∀ a ∈ klits y, a.keyWf := by
  intro a ha
  unfold klits at ha
  have h1 := h.f0
  have h2 := h.f1
  have h3 := h.t0
  have h4 := h.t1
  have h5 := h.s
  simp only [List.mem_cons, List.mem_nil_iff, or_false] at ha
  rcases ha with rfl | rfl | rfl
  · exact wf_small h1 (by omega)
  · exact wf_small h3 (by omega)
  · show y.s.data.toList.length ≤ maxLen
    rw [bsize]; unfold maxLen; omega
theorem klit_inj {x y : Lt} (hx : Vd x) (hy : Vd y) (h : klit x = klit y) : x = y := by
  unfold klit at h
  have h1 := keyBytes_inj (l := klits x) (l' := klits y) ⟨rfl, rfl, trivial, trivial⟩ hx.wf hy.wf (by injection h)
  obtain ⟨a, b, s⟩ := x
  obtain ⟨c, d, u⟩ := y
  simp only [klits, List.cons.injEq, Lit.int.injEq, Lit.string.injEq, and_true, true_and] at h1
  obtain ⟨rfl, rfl, h3⟩ := h1
  have e : s.data = u.data := Array.ext' h3
  obtain ⟨s⟩ := s
  obtain ⟨u⟩ := u
  simp only at e
  subst e
  rfl
abbrev cz (j : Nat) : DataW Unit := .lit (.int .i64 j)
structure CI (k : Nat) (n : Int) (a b c : Nat) (x : Wn) (D : DataW Unit) : Prop where
  i : x.n = n
  u : n ≤ 16
  e : (a : Int) + c = b + x.ls.length + x.lost
  p : a ≤ k
  q : b ≤ k
  r : c ≤ k
  y : ∀ y ∈ x.ls, Vd y ∧ x.out y.f.toNat y.t.toNat = false
  m : IsMap D
  d : ∀ y, Vd y → ∃ j : Nat, D.atKey (klit y) (cz 0) = cz j ∧ j ≤ k ∧ (y ∈ x.ls → 1 ≤ j)
section
variable {k : Nat} {n : Int} {a b c : Nat} {x : Wn} {D : DataW Unit}
theorem CI.start (h : n ≤ 16) : CI 0 n 0 0 0 (Wn.new n) (.map []) :=
  ⟨rfl, h, by simp [Wn.new], Nat.le_refl _, Nat.le_refl _, Nat.le_refl _, fun y hy => by simp [Wn.new] at hy, ⟨_, rfl⟩, fun y hy => ⟨0, rfl, Nat.le_refl _, fun h => by simp [Wn.new] at h⟩⟩
theorem sendE_ok {y : Lt} (hn : x.n ≤ 16) (h : x.sendE y = 0) : Vd y ∧ x.out y.f.toNat y.t.toNat = false := by
  unfold Wn.sendE at h
  split at h
  · cases h
  split at h
  · cases h
  split at h
  · cases h
  next h1 h2 h3 =>
    simp [linkB] at h1
    exact ⟨⟨by omega, by omega, by omega, by omega, by omega⟩, by simpa using h3⟩
theorem CI.sendOk (h : CI k n a b c x D) {y : Lt} (he : x.sendE y = 0) {j : Nat} (hj : D.atKey (klit y) (cz 0) = cz j) : CI (k + 1) n (a + 1) b c (x.send y) (D.put (klit y) (cz (j + 1))) := by
  obtain ⟨hv, ho⟩ := sendE_ok (by rw [h.i]; exact h.u) he
  have hs : x.send y = x.add y := by unfold Wn.send; rw [if_pos he]
  rw [hs]
  have := h.e
  have := h.p
  have := h.q
  have := h.r
  refine ⟨h.i, h.u, by simp [Wn.add]; omega, by omega, by omega, by omega, fun z hz => ?_, h.m.put _ _, fun z hz => ?_⟩
  · rcases List.mem_append.1 hz with hz | hz
    · exact h.y z hz
    · simp at hz; subst hz; exact ⟨hv, ho⟩
  · by_cases e : z = y
    · subst e
      obtain ⟨i, h1, h2, h3⟩ := h.d z hz
      rw [hj] at h1
      have hij : j = i := by injection h1 with h1; injection h1 with _ h1; exact Int.ofNat.inj h1
      subst hij
      exact ⟨j + 1, atKey_put_same h.m (show WideAt.IsKeyLit (klit z) from trivial) _ _, by omega, fun _ => by omega⟩
    · obtain ⟨i, h1, h2, h3⟩ := h.d z hz
      refine ⟨i, by rw [atKey_put_other (fun e' => e (klit_inj hz hv e'))]; exact h1, by omega, fun hm => h3 ?_⟩
      rcases List.mem_append.1 hm with hm | hm
      · exact hm
      · simp at hm; exact absurd hm e
theorem CI.more (h : CI k n a b c x D) : CI (k + 1) n a b c x D :=
  ⟨h.i, h.u, h.e, by have := h.p; omega, by have := h.q; omega, by have := h.r; omega, h.y, h.m, fun y hy => by obtain ⟨j, h1, h2, h3⟩ := h.d y hy; exact ⟨j, h1, by omega, h3⟩⟩
theorem CI.sendNo (h : CI k n a b c x D) {y : Lt} (he : x.sendE y = 14 ∨ x.sendE y = 2) : CI (k + 1) n a b (c + 1) (x.send y) D := by
  have hs : x.send y = { x with lost := x.lost + 1 } := by unfold Wn.send; rw [if_neg (by omega), if_pos he]
  rw [hs]
  have := h.e
  have := h.r
  exact ⟨h.i, h.u, by show (a : Int) + ((c + 1 : Nat) : Int) = b + x.ls.length + (x.lost + 1); omega, by have := h.p; omega, by have := h.q; omega, by omega, h.y, h.m, h.more.d⟩
theorem CI.sendBad (h : CI k n a b c x D) {y : Lt} (h0 : x.sendE y ≠ 0) (h1 : x.sendE y ≠ 14) (h2 : x.sendE y ≠ 2) : CI (k + 1) n a b c (x.send y) D := by
  have hs : x.send y = x := by unfold Wn.send; rw [if_neg h0, if_neg (by omega)]
  rw [hs]; exact h.more
theorem atE_in {ls : List Lt} {i : Int} (h : atE ls i = 0) : ∃ hl : i.toNat < ls.length, atL ls i = ls[i.toNat] := by
  unfold atE at h
  split at h
  next h1 =>
    refine ⟨by omega, ?_⟩
    unfold atL
    rw [if_pos h1, List.getD_eq_getElem?_getD, List.getElem?_eq_getElem (by omega)]
    rfl
  · cases h
theorem CI.takeOk (h : CI k n a b c x D) {i : Int} {f t : Int} {s : ByteArray} (hy : atL x.ls i = ⟨f, t, s⟩) (he : atE x.ls i = 0) :
    CI (k + 1) n a (b + 1) c (x.take i) D ∧ Vd ⟨f, t, s⟩ ∧ (x.take i).outB f t = false ∧ ∃ j : Nat, D.atKey (klit ⟨f, t, s⟩) (cz 0) = cz j ∧ 1 ≤ j ∧ j ≤ k := by
  obtain ⟨hl, hg⟩ := atE_in he
  rw [hy] at hg
  have hm : (⟨f, t, s⟩ : Lt) ∈ x.ls := by rw [hg]; exact List.getElem_mem hl
  obtain ⟨hv, ho⟩ := h.y _ hm
  obtain ⟨j, h1, h2, h3⟩ := h.d _ hv
  have hs : x.take i = { x with ls := x.ls.eraseIdx i.toNat } := by unfold Wn.take; rw [if_pos he]
  have hlen : (x.ls.eraseIdx i.toNat).length = x.ls.length - 1 := List.length_eraseIdx_of_lt hl
  have := h.e
  have := h.q
  rw [hs]
  refine ⟨⟨h.i, h.u, ?_, by have := h.p; omega, by omega, by have := h.r; omega, fun y hy => h.y y (List.mem_of_mem_eraseIdx hy), h.m, fun y hy => ?_⟩, hv, ?_, j, h1, h3 hm, h2⟩
  · show (a : Int) + c = ((b + 1 : Nat) : Int) + (x.ls.eraseIdx i.toNat).length + x.lost
    rw [hlen]; omega
  · obtain ⟨j, h1, h2, h3⟩ := h.d y hy
    exact ⟨j, h1, by omega, fun hm => h3 (List.mem_of_mem_eraseIdx hm)⟩
  · unfold Wn.outB
    show (linkB x.n f t && x.out f.toNat t.toNat) = false
    simp only at ho
    rw [ho]; simp
theorem CI.takeNo (h : CI k n a b c x D) {i : Int} (he : atE x.ls i ≠ 0) : CI (k + 1) n a b c (x.take i) D := by
  have hs : x.take i = x := by unfold Wn.take; rw [if_neg he]
  rw [hs]; exact h.more
theorem CI.dblOk (h : CI k n a b c x D) {i : Int} (he : x.dblE i = 0) : CI (k + 1) n (a + 1) b c (x.dbl i) D := by
  have hs : x.dbl i = x.add (atL x.ls i) := by unfold Wn.dbl; rw [if_pos he]
  have h0 : atE x.ls i = 0 := by
    unfold Wn.dblE at he
    unfold atE at he ⊢
    split
    · rfl
    · rename_i hh; rw [if_neg hh] at he; simp at he
  obtain ⟨hl, hg⟩ := atE_in h0
  have hm : atL x.ls i ∈ x.ls := by rw [hg]; exact List.getElem_mem hl
  rw [hs]
  have := h.e
  have := h.p
  refine ⟨h.i, h.u, by simp [Wn.add]; omega, by omega, by have := h.q; omega, by have := h.r; omega, fun y hy => ?_, h.m, fun y hy => ?_⟩
  · rcases List.mem_append.1 hy with hy | hy
    · exact h.y y hy
    · simp at hy; subst hy; exact h.y _ hm
  · obtain ⟨j, h1, h2, h3⟩ := h.d y hy
    refine ⟨j, h1, by omega, fun hy' => h3 ?_⟩
    rcases List.mem_append.1 hy' with hy' | hy'
    · exact hy'
    · simp at hy'; rw [hy']; exact hm
theorem CI.dblNo (h : CI k n a b c x D) {i : Int} (he : x.dblE i ≠ 0) : CI (k + 1) n a b c (x.dbl i) D := by
  have hs : x.dbl i = x := by unfold Wn.dbl; rw [if_neg he]
  rw [hs]; exact h.more
theorem CI.cut (h : CI k n a b c x D) (f t : Int) (o : Bool) : CI (k + 1) n a b c (x.cut f t o) D := by
  unfold Wn.cut
  split
  next hl =>
    simp [linkB] at hl
    have hle := keepL_le f t x.ls
    have hmem : ∀ y ∈ keepL f t x.ls, y ∈ x.ls ∧ hit f t y = false := fun y hy => by
      unfold keepL at hy
      rw [List.mem_filter] at hy
      exact ⟨hy.1, by simpa using hy.2⟩
    split
    · have h1 := h.more
      refine ⟨h1.i, h1.u, ?_, h1.p, h1.q, h1.r, fun y hy => ?_, h1.m, fun y hy => ?_⟩
      · have := h.e
        show (a : Int) + c = b + ((keepL f t x.ls).length : Nat) + (x.lost + _)
        omega
      · obtain ⟨hy1, hy2⟩ := hmem y hy
        obtain ⟨hv, ho⟩ := h.y y hy1
        refine ⟨hv, ?_⟩
        have := hv.f0
        have := hv.t0
        have hne : ¬ (y.f = f ∧ y.t = t) := by simpa [hit] using hy2
        show outSet x.out f.toNat t.toNat true y.f.toNat y.t.toNat = false
        unfold outSet
        rw [if_neg (by omega)]; exact ho
      · obtain ⟨j, q1, q2, q3⟩ := h1.d y hy
        exact ⟨j, q1, q2, fun hm => q3 (hmem y hm).1⟩
    · have h1 := h.more
      refine ⟨h1.i, h1.u, h1.e, h1.p, h1.q, h1.r, fun y hy => ?_, h1.m, h1.d⟩
      obtain ⟨hv, ho⟩ := h.y y hy
      refine ⟨hv, ?_⟩
      show outSet x.out f.toNat t.toNat false y.f.toNat y.t.toNat = false
      unfold outSet
      split
      · rfl
      · exact ho
  · exact h.more
end
/-- A key of this program's, told over any program. -/
theorem keyL_any {P : Program} {k a b : TypeId} (h1 : P.underlying k = some (.struct #[{ name := "From", type := a, offset := 0, embedded := false, tag := "", pkgPath := "", byteOffset := 0 }, { name := "To", type := a, offset := 1, embedded := false, tag := "", pkgPath := "", byteOffset := 8 }, { name := "S", type := b, offset := 2, embedded := false, tag := "", pkgPath := "", byteOffset := 16 }]))
    (ha : P.underlying a = some (.int .i64)) (hb : P.underlying b = some .string) (ck : P.cellsOf k = 3) (ca : P.cellsOf a = 1) (cb : P.cellsOf b = 1) (hk : P.keyType k = true) {d : Nat} (hd : P.types.size = d + 1)
    {y : Lt} (wf1 : (Lit.int .i64 y.f).wf = true) (wf2 : (Lit.int .i64 y.t).wf = true) (hs : y.s.size ≤ maxLen) : keyOf P k (.agg #[.int .i64 y.f, .int .i64 y.t, .string y.s]) = some (klit y) := by
  have hf : (Value.agg #[.int .i64 y.f, .int .i64 y.t, .string y.s]).formed P k = true := by
    simp [Value.formed, h1, ck]
  unfold keyOf
  simp only [h1, hk, hf, Bool.and_self, if_true]
  rw [hd]
  simp [Program.keyLits, h1, ha, hb, ck, ca, cb, Value.cells, wf1, wf2, hs, klit, klits]

/-- What 'mapEntry' leaves is what storing the value that was there leaves. -/
theorem entry_same {P : Program} {w : World} {t k e : TypeId} {R : Value → Option (DataW Unit × List MemPlace)} {b : Nat} {es : Array MapEntry} {clock : Nat} (K : WideMaps.KeyLaw P k) (ht : P.underlying t = some (.map k e)) {z : Value} (hz : ∀ u : World, (zeroValue e).run P u = .ok z u)
    (hb : w.heap[b]? = some (.map es clock)) (F : Fit P k R es clock) {key : Value} {kl : Lit} (hkey : keyOf P k key = some kl) :
    ∃ v0 st es1 clock1, (Instr.mapEntry t (.map (some b)) key).run P w = .ok (.tuple #[v0, goInt st]) (setBlock w b (.map es1 clock1)) ∧ (Instr.mapUpdate t (.map (some b)) key v0).run P w = .ok () (setBlock w b (.map es1 clock1)) := by
  rcases K.find w hkey es.toList F.keys with ⟨h1, h2⟩ | ⟨j, x, h1, h2, h3⟩
  · refine ⟨z, clock, es.push ⟨key, z, clock⟩, clock + 1, ?_, ?_⟩
    · simp [Instr.mapEntry, run_underlying ht, MapKept.run_getObj_map hb, K.check w false hkey, h1, hz, MapKept.run_setObj_map _ hb, Result.andThen, setBlock]
    · simp [Instr.mapUpdate, run_underlying ht, MapKept.run_getObj_map hb, K.check w false hkey, h1, MapKept.run_setObj_map _ hb, Result.andThen, setBlock]
  · have hj : es[j]? = some x := by simpa using h2
    have g1 : es.modify j (fun e => { e with key := key }) = es := by
      apply Array.ext'
      rw [Array.toList_modify, modify_eq_set _ _ _ _ h2, ← h3]
      exact set_self _ _ _ h2
    have g2 : es.modify j (fun e => { e with key := key, val := x.val }) = es := by
      apply Array.ext'
      rw [Array.toList_modify, modify_eq_set _ _ _ _ h2, ← h3]
      exact set_self _ _ _ h2
    refine ⟨x.val, x.born, es, clock, ?_, ?_⟩
    · simp [Instr.mapEntry, run_underlying ht, MapKept.run_getObj_map hb, K.check w false hkey, h1, hj, h3, K.stays w hkey, g1, MapKept.run_setObj_map _ hb, Result.andThen, setBlock]
    · simp [Instr.mapUpdate, run_underlying ht, MapKept.run_getObj_map hb, K.check w false hkey, h1, hj, h3, K.stays w hkey, g2, MapKept.run_setObj_map _ hb, Result.andThen, setBlock]
theorem laidProg : laidOutB Try.prog = true := by kernel_rfl
theorem row36 : (36 : Nat) < Try.prog.types.size := of_decide_eq_true (show decide ((36 : Nat) < Try.prog.types.size) = true by kernel_rfl)
theorem wide36 : (match Try.prog.underlying 36 with | some (.array _ _) | some (.struct _) => true | _ => false) = true := by kernel_rfl
theorem law36 : WideMaps.KeyLaw Try.prog 36 := deep_law_laid laidProg (m := 2) (by omega) row36 (by kernel_rfl) wide36
theorem keyed36 : Keyed Try.prog 36 := Keyed.of_law law36
theorem cells36 : Try.prog.cellsOf 36 = 3 := by kernel_rfl
theorem kt36 : Try.prog.keyType 36 = true := by kernel_rfl
theorem size_pos {n k : Nat} (h : k < n) : ∃ d, n = d + 1 := ⟨n - 1, by omega⟩
theorem tsize : ∃ d, Try.prog.types.size = d + 1 := size_pos row36
theorem keyL {y : Lt} (wf1 : (Lit.int .i64 y.f).wf = true) (wf2 : (Lit.int .i64 y.t).wf = true) (hs : y.s.size ≤ maxLen) : keyOf Try.prog 36 (.agg #[.int .i64 y.f, .int .i64 y.t, .string y.s]) = some (klit y) := by
  obtain ⟨d, hd⟩ := tsize
  exact keyL_any Try.underlying36 Try.underlying3 Try.underlying9 cells36 cells3 cells9 kt36 hd wf1 wf2 hs
theorem keyV {y : Lt} (h : Vd y) : keyOf Try.prog 36 (.agg #[.int .i64 y.f, .int .i64 y.t, .string y.s]) = some (klit y) :=
  keyL (wf_small h.f0 (by have := h.f1; omega)) (wf_small h.t0 (by have := h.t1; omega)) (by have := h.s; unfold maxLen; omega)
theorem zeroI (w : World) : (zeroValue 3).run Try.prog w = .ok (.int .i64 0) w := by kernel_rfl
abbrev Mp (w : World) (M n : Nat) (D : DataW Unit) : Prop := w.ownsMap Try.prog 36 (plainElem Try.prog 3) M n D
section
variable {w w' : World} {M n : Nat} {D : DataW Unit}
theorem own_blk (h : Mp w M n D) (hb : w'.heap[M]? = w.heap[M]?) : Mp w' M n D := by
  obtain ⟨es, clock, h1, h2⟩ := h
  exact ⟨es, clock, hb.trans h1, h2⟩
theorem Mp.look (h : Mp w M n D) {y : Lt} (hy : Vd y) {j : Nat} (hj : D.atKey (klit y) (cz 0) = cz j) : (Instr.lookup 54 (.map (some M)) (.agg #[.int .i64 y.f, .int .i64 y.t, .string y.s]) false).run Try.prog w = .ok (.int .i64 j) w := by
  obtain ⟨c, hr, ha, -⟩ := h.lookup_int keyed36 Try.underlying54 Try.underlying3 (zeroI w) (keyV hy)
  have e := ha.symm.trans hj
  injection e with e
  injection e with _ e
  rw [← e]
  exact hr
/-- What 'mapEntry' leaves: the same count; and the store behind it. -/
structure Ent (w1 w : World) (M n : Nat) (D : DataW Unit) (y : Lt) (j : Nat) (st : Int) : Prop where
  m : Mp w1 M (n + 1) (D.put (klit y) (cz j))
  k : Kept [M] w w1
  s : ∀ w2 : World, w2.heap[M]? = w1.heap[M]? → ∃ w3, (Instr.entryStore 54 (.map (some M)) (.int .i64 st) (.int .i64 (j + 1))).run Try.prog w2 = .ok () w3 ∧ Mp w3 M (n + 1) (D.put (klit y) (cz (j + 1))) ∧ Kept [M] w2 w3
theorem kept_set {w : World} {b : Nat} {es : Array MapEntry} {clock : Nat} (hb : w.heap[b]? = some (.map es clock)) (o : Obj) : Kept [b] w (setBlock w b o) :=
  ⟨rfl, rfl, rfl, by simp [setBlock], fun i _ hn => heap_setBlock_other hb _ (fun e => hn (by simp [e]))⟩
theorem Mp.entry (h : Mp w M n D) (hn : n ≤ 100000) {y : Lt} (hy : Vd y) {j : Nat} (hj : D.atKey (klit y) (cz 0) = cz j) (hj2 : j ≤ 1000) :
    ∃ v0 st w1, (Instr.mapEntry 54 (.map (some M)) (.agg #[.int .i64 y.f, .int .i64 y.t, .string y.s])).run Try.prog w = .ok (.tuple #[v0, .int .i64 st]) w1 ∧ Ent w1 w M n D y j st := by
  have hlt := h.lt
  have hn' : n < maxLen := by unfold maxLen; omega
  obtain ⟨es, clock, hb, F, hsz, hD⟩ := h
  obtain ⟨v0, st, es1, clock1, r1, hc, hs⟩ := entry_then_store law36 Try.underlying54 zeroI hb F (keyV hy)
  obtain ⟨v0', st', es1', clock1', r1', r2⟩ := entry_same law36 Try.underlying54 zeroI hb F (keyV hy)
  rw [r1] at r1'
  injection r1' with q1 q2
  have q3 : v0' = v0 := by
    have := congrArg (fun v => match v with | Value.tuple a => a.getD 0 (.bool false) | x => x) q1
    simpa using this.symm
  rw [q3, ← q2] at r2
  have hv : v0 = .int .i64 j := by
    rcases hc with ⟨x, hx, hk, rfl⟩ | ⟨hno, rfl⟩
    · obtain ⟨y', hy'⟩ := F.reads x hx
      have hex : ∃ zz, plainElem (H := Unit) Try.prog 3 x.val = some zz := by
        cases hR : plainElem (H := Unit) Try.prog 3 x.val with
        | none =>
          unfold WideElems.rd at hy'
          rw [hR] at hy'
          cases hK : keyOf Try.prog 36 x.key with
          | none => rw [hK] at hy'; cases hy'
          | some kk => rw [hK] at hy'; cases hy'
        | some zz => exact ⟨zz, rfl⟩
      obtain ⟨zz, hzz⟩ := hex
      obtain ⟨a, ha, rfl, hw⟩ := plainElem_int_inv Try.underlying3 hzz
      have h1 := atKey_some law36 F (keyV hy) hx hk hzz (cz 0)
      rw [← hD, hj] at h1
      injection h1 with h1
      injection h1 with _ h1
      rw [ha, ← h1]
    · have h1 := atKey_none law36 F (keyV hy) hno (cz 0)
      rw [← hD, hj] at h1
      injection h1 with h1
      injection h1 with _ h1
      rw [h1]; rfl
  subst hv
  have h0 : Mp w M n D := ⟨es, clock, hb, F, hsz, hD⟩
  obtain ⟨wu, u1, u2, -⟩ := h0.update keyed36 Try.underlying54 hn' (keyV hy) (plainElem_int Try.underlying3 (wf_small (n := j) (by omega) (by omega)))
  rw [r2] at u1
  injection u1 with _ u1
  subst u1
  refine ⟨_, _, _, r1, u2, kept_set hb _, fun w2 hw2 => ?_⟩
  have hb1 : (setBlock w M (.map es1 clock1)).heap[M]? = some (.map es1 clock1) := heap_setBlock_same hb _
  rw [hb1] at hw2
  obtain ⟨es', clock', e1, e2⟩ := hs w2 (.int .i64 (j + 1)) hw2
  obtain ⟨wt, t1, t2, -⟩ := h0.update keyed36 Try.underlying54 hn' (keyV hy) (plainElem_int Try.underlying3 (wf_small (n := ((j + 1 : Nat) : Int)) (by omega) (by omega)))
  have ej : ((j + 1 : Nat) : Int) = (j : Int) + 1 := by omega
  rw [ej, e2] at t1
  injection t1 with _ t1
  subst t1
  refine ⟨_, e1, own_blk t2 ?_, kept_set hw2 _⟩
  rw [heap_setBlock_same hw2, heap_setBlock_same hb]
end
end Go.Proofs.Ytppjjbhbbnnpgaa
