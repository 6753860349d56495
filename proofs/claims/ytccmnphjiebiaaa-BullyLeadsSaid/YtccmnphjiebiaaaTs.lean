/- A node while it takes a word: the node, its detector and the word's own block, with what is left of all else. No condition. -/
import Derived.Test.YtccmnphjiebiaaaSync
namespace Go.Proofs.Ytccmnphjiebiaaa
open Go.RowKit G
set_option linter.unusedVariables false
set_option linter.unusedSimpArgs false
/-- A region that reads, and makes one call: operation k. -/
structure Cl (k : Nat) (W : World) (I : World → Prop) (Q : Value → World → Prop) (σ : St) (w : World) : Prop where
  i : I w
  a : σ k = none → ∃ n, w = W.drewN n
  b : ∀ v, σ k = some v → Q v w
section
variable {k j : Nat} {W w w' : World} {I : World → Prop} {Q : Value → World → Prop} {σ : St} {v : Value}
theorem Cl.start (h : I W.drew) : Cl k W I Q (fun _ => none) W.drew := ⟨h, fun _ => ⟨1, rfl⟩, fun _ h => (by cases h)⟩
theorem Cl.pure (h : Cl k W I Q σ w) (hj : j ≠ k) : Cl k W I Q (σ.upd j v) w :=
  ⟨h.i, by rw [upd_ne (Ne.symm hj)]; exact h.a, by rw [upd_ne (Ne.symm hj)]; exact h.b⟩
theorem Cl.skips (hj : j ≠ k) : skips (Cl k W I Q) j := fun σ w _ h => h.pure hj
theorem Cl.call (hi : I w') (hq : Q v w') : Cl k W I Q (σ.upd k v) w' := ⟨hi, by rw [upd_eq]; exact (fun h => by cases h), by rw [upd_eq]; exact (fun _ h => by cases h; exact hq)⟩
end
structure TS (w0 w : World) (P D S : Nat) (v0 v : Value) (s : PN) (B : Nat) (bx : Array Value) : Prop where
  p : PAt w P D S v s
  b : Row w B bx 35
  u : Stp (fp P D S v0) (fp P D S v) w0 w
  n : B ∉ fp P D S v
section
variable {w0 w w' : World} {P D S : Nat} {v0 v u : Value} {n : Nat} {s : PN} {B : Nat} {bx : Array Value}
theorem TS.start (h : PAt w P D S v s) (bx : Array Value) : TS w (w.alloc (.cells bx 35)) P D S v v s w.heap.size bx :=
  ⟨h.kept (Kept.of_below (F := []) (below_new w _)) (fun _ _ hh => (by cases hh)), Row.new _ _ _, Stp.same (Kept.of_below (below_new w _)), fun hm => absurd (h.lts _ hm) (Nat.lt_irrefl _)⟩
theorem TS.below (h : TS w0 w P D S v0 v s B bx) (hb : Below w.heap.size w w') : TS w0 w' P D S v0 v s B bx :=
  ⟨h.p.kept (Kept.of_below (F := []) hb) (fun _ _ hh => (by cases hh)), h.b.below hb, h.u.trans (Stp.same (Kept.of_below hb)), h.n⟩
theorem TS.drewN (h : TS w0 w P D S v0 v s B bx) (k : Nat) : TS w0 (w.drewN k) P D S v0 v s B bx := ⟨h.p.drewN k, h.b.drewN k, h.u.drewN k, h.n⟩
theorem TS.det {xs : List Int} {left : Int} (h : TS w0 w P D S v0 v s B bx) (hd : Det w' D S xs s.x.self s.every s.limit left) (hk : Kept [D, S] w w') : TS w0 w' P D S v0 v { s with xs := xs, left := left } B bx :=
  ⟨h.p.det hd hk, h.b.kept hk (fun hm => h.n (by simp [fp] at hm ⊢; rcases hm with h1 | h1 <;> simp [h1])), h.u.trans (PAt.stpD hk), h.n⟩
theorem TS.node {x : Nd} (h : TS w0 w P D S v0 v s B bx) (hn : NodeAt 69 35 w' P x (ptr D) u) (hm : Mv P v u w w') (hs : x.self = s.x.self) : TS w0 w' P D S v0 u { s with x := x } B bx :=
  ⟨h.p.node hn hm hs, h.b.kept hm.keep (fun hh => h.n (by simp only [fp, List.mem_cons] at hh ⊢; rcases hh with h1 | h1 <;> simp [h1])), h.u.trans (Mv.stp hm), fun hh => by
    rcases ((Mv.stp hm : Stp (fp P D S v) (fp P D S u) w w')).new _ hh with h1 | h1
    · exact h.n h1
    · have := h.b.lt; omega⟩
theorem TS.set4 (h : TS w0 w P D S v0 v s B bx) (t : Int) : TS w0 (w.setCell ⟨P, 4, none⟩ (.int .i64 t)) P D S v0 v { s with x := { s.x with lead := t } } B bx := h.node (h.p.nd.set4 t) ((Mv.refl P v w).set 4 _) rfl
theorem TS.set5 (h : TS w0 w P D S v0 v s B bx) (t : Int) : TS w0 (w.setCell ⟨P, 5, none⟩ (.int .i64 t)) P D S v0 v { s with x := { s.x with term := t } } B bx := h.node (h.p.nd.set5 t) ((Mv.refl P v w).set 5 _) rfl
theorem TS.set3 (h : TS w0 w P D S v0 v s B bx) (t : Int) : TS w0 (w.setCell ⟨P, 3, none⟩ (.int .i64 t)) P D S v0 v { s with x := { s.x with role := t } } B bx := h.node (h.p.nd.set3 t) ((Mv.refl P v w).set 3 _) rfl
theorem TS.set6 (h : TS w0 w P D S v0 v s B bx) (t : Int) : TS w0 (w.setCell ⟨P, 6, none⟩ (.int .i64 t)) P D S v0 v { s with x := { s.x with ticks := t } } B bx := h.node (x := { s.x with ticks := t }) ⟨(h.p.nd.r.set 6 _).cast (by simp [Nd.row]), own_set h.p.nd.s P 6 h.p.nd.nP _, h.p.nd.nP⟩ ((Mv.refl P v w).set 6 _) rfl
end
structure RTS (w0 w : World) (P D : Nat) (v0 v : Value) (n : Nat) (s : RN) (B : Nat) (bx : Array Value) : Prop where
  p : RAt w P D v n s
  b : Row w B bx 31
  u : Stp (rfp P D v0) (rfp P D v) w0 w
  n : B ∉ rfp P D v
section
variable {w0 w w' : World} {P D : Nat} {v0 v u : Value} {n : Nat} {s : RN} {B : Nat} {bx : Array Value}
theorem RTS.start (h : RAt w P D v n s) (bx : Array Value) : RTS w (w.alloc (.cells bx 31)) P D v v n s w.heap.size bx :=
  ⟨h.kept (Kept.of_below (F := []) (below_new w _)) (fun _ _ hh => (by cases hh)), Row.new _ _ _, Stp.same (Kept.of_below (below_new w _)), fun hm => absurd (h.lts _ hm) (Nat.lt_irrefl _)⟩
theorem RTS.below (h : RTS w0 w P D v0 v n s B bx) (hb : Below w.heap.size w w') : RTS w0 w' P D v0 v n s B bx :=
  ⟨h.p.kept (Kept.of_below (F := []) hb) (fun _ _ hh => (by cases hh)), h.b.below hb, h.u.trans (Stp.same (Kept.of_below hb)), h.n⟩
theorem RTS.drewN (h : RTS w0 w P D v0 v n s B bx) (k : Nat) : RTS w0 (w.drewN k) P D v0 v n s B bx := ⟨h.p.drewN k, h.b.drewN k, h.u.drewN k, h.n⟩
theorem RTS.det {now : Nat} {ats : List Int} (h : RTS w0 w P D v0 v n s B bx) (hd : RDet w' D n s.x.self s.every s.limit now ats) (hk : Kept [D] w w') : RTS w0 w' P D v0 v n { s with now := now, ats := ats } B bx :=
  ⟨h.p.det hd hk, h.b.kept hk (fun hm => h.n (by simp [rfp] at hm ⊢; simp [hm])), h.u.trans (RAt.stpD hk), h.n⟩
theorem RTS.node {x : Nd} (h : RTS w0 w P D v0 v n s B bx) (hn : NodeAt 52 31 w' P x (ptr D) u) (hm : Mv P v u w w') (hs : x.self = s.x.self) : RTS w0 w' P D v0 u n { s with x := x } B bx :=
  ⟨h.p.node hn hm hs, h.b.kept hm.keep (fun hh => h.n (by simp only [rfp, List.mem_cons] at hh ⊢; rcases hh with h1 | h1 <;> simp [h1])), h.u.trans (Mv.rstp hm), fun hh => by
    rcases ((Mv.rstp hm : Stp (rfp P D v) (rfp P D u) w w')).new _ hh with h1 | h1
    · exact h.n h1
    · have := h.b.lt; omega⟩
theorem RTS.set4 (h : RTS w0 w P D v0 v n s B bx) (t : Int) : RTS w0 (w.setCell ⟨P, 4, none⟩ (.int .i64 t)) P D v0 v n { s with x := { s.x with lead := t } } B bx := h.node (h.p.nd.set4 t) ((Mv.refl P v w).set 4 _) rfl
theorem RTS.set5 (h : RTS w0 w P D v0 v n s B bx) (t : Int) : RTS w0 (w.setCell ⟨P, 5, none⟩ (.int .i64 t)) P D v0 v n { s with x := { s.x with term := t } } B bx := h.node (h.p.nd.set5 t) ((Mv.refl P v w).set 5 _) rfl
theorem RTS.set3 (h : RTS w0 w P D v0 v n s B bx) (t : Int) : RTS w0 (w.setCell ⟨P, 3, none⟩ (.int .i64 t)) P D v0 v n { s with x := { s.x with role := t } } B bx := h.node (h.p.nd.set3 t) ((Mv.refl P v w).set 3 _) rfl
theorem RTS.set6 (h : RTS w0 w P D v0 v n s B bx) (t : Int) : RTS w0 (w.setCell ⟨P, 6, none⟩ (.int .i64 t)) P D v0 v n { s with x := { s.x with ticks := t } } B bx := h.node (x := { s.x with ticks := t }) ⟨(h.p.nd.r.set 6 _).cast (by simp [Nd.row]), own_set h.p.nd.s P 6 h.p.nd.nP _, h.p.nd.nP⟩ ((Mv.refl P v w).set 6 _) rfl
end
/-- The two stores of 'b.term, b.lead = ..' in whatever order. -/
def PN.set2 (s : PN) (m f : Int) (a b : Bool) : PN := { s with x := { s.x with term := if a then m else s.x.term, lead := if b then f else s.x.lead } }
structure T16 (w0 : World) (P D S : Nat) (v0 v : Value) (s : PN) (B : Nat) (bx : Array Value) (m f : Int) (σ : St) (w : World) : Prop where
  t : TS w0 w P D S v0 v (s.set2 m f (σ 8).isSome (σ 11).isSome) B bx
section
variable {w0 w w' : World} {P D S : Nat} {v0 v u : Value} {s : PN} {B : Nat} {bx : Array Value} {m f : Int} {σ : St} {k : Nat}
theorem T16.start (h : TS w0 w P D S v0 v s B bx) : T16 w0 P D S v0 v s B bx m f (fun _ => none) w.drew := ⟨h.drewN 1⟩
theorem T16.pure (h : T16 w0 P D S v0 v s B bx m f σ w) (hk : k ≠ 8 ∧ k ≠ 11) : T16 w0 P D S v0 v s B bx m f (σ.upd k u) w := ⟨by rw [upd_ne (Ne.symm hk.1), upd_ne (Ne.symm hk.2)]; exact h.t⟩
theorem T16.s8 (h : T16 w0 P D S v0 v s B bx m f σ w) (hk : σ 8 = none) : T16 w0 P D S v0 v s B bx m f (σ.upd 8 u) (w.setCell ⟨P, 5, none⟩ (.int .i64 m)) :=
  ⟨by rw [upd_eq, upd_ne (by decide)]; have := h.t.set5 m; simpa [PN.set2] using this⟩
theorem T16.s11 (h : T16 w0 P D S v0 v s B bx m f σ w) (hk : σ 11 = none) : T16 w0 P D S v0 v s B bx m f (σ.upd 11 u) (w.setCell ⟨P, 4, none⟩ (.int .i64 f)) :=
  ⟨by rw [upd_ne (by decide), upd_eq]; have := h.t.set4 f; simpa [PN.set2] using this⟩
end
end Go.Proofs.Ytccmnphjiebiaaa
