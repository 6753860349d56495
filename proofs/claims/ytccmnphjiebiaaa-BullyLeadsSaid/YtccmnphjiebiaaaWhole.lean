/- A node with its detector, the program's and the reference's, and what a step leaves of all else. No condition. -/
import Derived.Test.YtccmnphjiebiaaaCheck
namespace Go.Proofs.Ytccmnphjiebiaaa
open Go.RowKit G
set_option linter.unusedVariables false
set_option linter.unusedSimpArgs false
abbrev ptr (b : Nat) : Value := .pointer (some ⟨b, 0, none⟩)
/-- A step of an object that lies in the blocks F, and then in the blocks F'. -/
structure Stp (F F' : List Nat) (w w' : World) : Prop where
  keep : Kept F w w'
  new : ∀ b ∈ F', b ∈ F ∨ w.heap.size ≤ b
theorem Stp.refl (F : List Nat) (w : World) : Stp F F w w := ⟨Kept.refl _ _, fun _ h => .inl h⟩
theorem Stp.trans {F F' F'' : List Nat} {w0 w1 w2 : World} (h : Stp F F' w0 w1) (k : Stp F' F'' w1 w2) : Stp F F'' w0 w2 :=
  ⟨⟨k.keep.os.trans h.keep.os, k.keep.tape.trans h.keep.tape, k.keep.output.trans h.keep.output, Nat.le_trans h.keep.size k.keep.size, fun i hi hn => by
    rw [k.keep.block i (Nat.lt_of_lt_of_le hi h.keep.size) (fun hm => by
      rcases h.new i hm with h1 | h1
      · exact hn h1
      · omega)]
    exact h.keep.block i hi hn⟩,
   fun i hi => by
    rcases k.new i hi with h1 | h1
    · exact h.new i h1
    · exact .inr (Nat.le_trans h.keep.size h1)⟩
theorem Stp.drewN {F F' : List Nat} {w w' : World} (h : Stp F F' w w') (n : Nat) : Stp F F' w (w'.drewN n) := ⟨h.keep.drewN n, h.new⟩
theorem Stp.drew {F F' : List Nat} {w w' : World} (h : Stp F F' w w') : Stp F F' w w'.drew := ⟨h.keep.drew, h.new⟩
theorem Stp.same {F : List Nat} {w w' : World} (h : Kept F w w') : Stp F F w w' := ⟨h, fun _ h => .inl h⟩
/-- The program's node and its detector. -/
structure PN where
  x : Nd
  xs : List Int
  every : Int
  limit : Int
  left : Int
structure PAt (w : World) (P D S : Nat) (v : Value) (s : PN) : Prop where
  nd : NodeAt 69 35 w P s.x (ptr D) v
  dt : Det w D S s.xs s.x.self s.every s.limit s.left
  nD : D ∉ P :: own v
  nS : S ∉ P :: own v
def fp (P D S : Nat) (v : Value) : List Nat := P :: D :: S :: own v
theorem Row.keptP {w w' : World} {b T : Nat} {cs : Array Value} {F : List Nat} (h : Row w b cs T) (hk : Kept F w w') (hb : b ∉ F) : Row w' b cs T := h.kept hk hb
theorem NodeAt.kept {T E : TypeId} {F : List Nat} {w w' : World} {P : Nat} {x : Nd} {h v : Value} (k : NodeAt T E w P x h v) (hk : Kept F w w') (hF : ∀ b ∈ P :: own v, b ∉ F) : NodeAt T E w' P x h v :=
  ⟨k.r.kept hk (hF P (List.mem_cons_self ..)), own_kept k.s hk (fun b hb => hF b (List.mem_cons_of_mem _ hb)), k.nP⟩
theorem NodeAt.lts {T E : TypeId} {w : World} {P : Nat} {x : Nd} {h v : Value} (k : NodeAt T E w P x h v) : ∀ b ∈ P :: own v, b < w.heap.size := by
  intro b hb
  rcases List.mem_cons.1 hb with rfl | hb
  · exact k.r.lt
  · exact own_lt k.s b hb
theorem PAt.lts {w : World} {P D S : Nat} {v : Value} {s : PN} (h : PAt w P D S v s) : ∀ b ∈ fp P D S v, b < w.heap.size := by
  intro b hb
  simp only [fp, List.mem_cons] at hb
  rcases hb with rfl | rfl | rfl | hb
  · exact h.nd.r.lt
  · exact h.dt.p.lt
  · exact h.dt.s.lt
  · exact own_lt h.nd.s b hb
theorem PAt.det {w w' : World} {P D S : Nat} {v : Value} {s : PN} {xs : List Int} {left : Int} (h : PAt w P D S v s) (hd : Det w' D S xs s.x.self s.every s.limit left) (hk : Kept [D, S] w w') : PAt w' P D S v { s with xs := xs, left := left } :=
  ⟨h.nd.kept hk (fun b hb hm => by
    simp at hm
    rcases hm with rfl | rfl
    · exact h.nD hb
    · exact h.nS hb), hd, h.nD, h.nS⟩
theorem PAt.stpD {w w' : World} {P D S : Nat} {v : Value} (hk : Kept [D, S] w w') : Stp (fp P D S v) (fp P D S v) w w' := Stp.same (hk.more (by simp [fp]))
theorem PAt.node {w w' : World} {P D S : Nat} {v u : Value} {s : PN} {x : Nd} (h : PAt w P D S v s) (hn : NodeAt 69 35 w' P x (ptr D) u) (hm : Mv P v u w w') (hs : x.self = s.x.self) : PAt w' P D S u { s with x := x } :=
  ⟨hn, by show Det w' D S s.xs x.self s.every s.limit s.left; rw [hs]; exact h.dt.kept hm.keep h.nD h.nS,
   fun hb => by
    rcases List.mem_cons.1 hb with rfl | hb
    · exact h.nD (List.mem_cons_self ..)
    · rcases hm.new _ hb with h1 | h1
      · exact h.nD (List.mem_cons_of_mem _ h1)
      · have := h.dt.p.lt; omega,
   fun hb => by
    rcases List.mem_cons.1 hb with rfl | hb
    · exact h.nS (List.mem_cons_self ..)
    · rcases hm.new _ hb with h1 | h1
      · exact h.nS (List.mem_cons_of_mem _ h1)
      · have := h.dt.s.lt; omega⟩
theorem Mv.stp {w w' : World} {P D S : Nat} {v u : Value} (hm : Mv P v u w w') : Stp (fp P D S v) (fp P D S u) w w' :=
  ⟨hm.keep.more (by simp [fp]; intro b hb; exact .inr (.inr (.inr hb))), fun b hb => by
    simp only [fp, List.mem_cons] at hb ⊢
    rcases hb with rfl | rfl | rfl | hb
    · simp
    · simp
    · simp
    · rcases hm.new b hb with h1 | h1
      · exact .inl (.inr (.inr (.inr h1)))
      · exact .inr h1⟩
/-- The reference's node and its detector. -/
structure RN where
  x : Nd
  every : Nat
  limit : Int
  now : Nat
  ats : List Int
structure RAt (w : World) (P D : Nat) (v : Value) (n : Nat) (s : RN) : Prop where
  nd : NodeAt 52 31 w P s.x (ptr D) v
  dt : RDet w D n s.x.self s.every s.limit s.now s.ats
  nD : D ∉ P :: own v
def rfp (P D : Nat) (v : Value) : List Nat := P :: D :: own v
theorem RAt.lts {w : World} {P D n : Nat} {v : Value} {s : RN} (h : RAt w P D v n s) : ∀ b ∈ rfp P D v, b < w.heap.size := by
  intro b hb
  simp only [rfp, List.mem_cons] at hb
  rcases hb with rfl | rfl | hb
  · exact h.nd.r.lt
  · exact h.dt.q.lt
  · exact own_lt h.nd.s b hb
theorem RAt.det {w w' : World} {P D n : Nat} {v : Value} {s : RN} {now : Nat} {ats : List Int} (h : RAt w P D v n s) (hd : RDet w' D n s.x.self s.every s.limit now ats) (hk : Kept [D] w w') : RAt w' P D v n { s with now := now, ats := ats } :=
  ⟨h.nd.kept hk (fun b hb hm => by simp at hm; subst hm; exact h.nD hb), hd, h.nD⟩
theorem RAt.stpD {w w' : World} {P D : Nat} {v : Value} (hk : Kept [D] w w') : Stp (rfp P D v) (rfp P D v) w w' := Stp.same (hk.more (by simp [rfp]))
theorem RAt.node {w w' : World} {P D n : Nat} {v u : Value} {s : RN} {x : Nd} (h : RAt w P D v n s) (hn : NodeAt 52 31 w' P x (ptr D) u) (hm : Mv P v u w w') (hs : x.self = s.x.self) : RAt w' P D u n { s with x := x } :=
  ⟨hn, by show RDet w' D n x.self s.every s.limit s.now s.ats; rw [hs]; exact h.dt.kept hm.keep h.nD,
   fun hb => by
    rcases List.mem_cons.1 hb with rfl | hb
    · exact h.nD (List.mem_cons_self ..)
    · rcases hm.new _ hb with h1 | h1
      · exact h.nD (List.mem_cons_of_mem _ h1)
      · have := h.dt.q.lt; omega⟩
theorem Mv.rstp {w w' : World} {P D : Nat} {v u : Value} (hm : Mv P v u w w') : Stp (rfp P D v) (rfp P D u) w w' :=
  ⟨hm.keep.more (by simp [rfp]; intro b hb; exact .inr (.inr hb)), fun b hb => by
    simp only [rfp, List.mem_cons] at hb ⊢
    rcases hb with rfl | rfl | hb
    · simp
    · simp
    · rcases hm.new b hb with h1 | h1
      · exact .inl (.inr (.inr h1))
      · exact .inr h1⟩
theorem PAt.drewN {w : World} {P D S : Nat} {v : Value} {s : PN} (h : PAt w P D S v s) (n : Nat) : PAt (w.drewN n) P D S v s := ⟨⟨h.nd.r.drewN n, h.nd.s, h.nd.nP⟩, h.dt.drewN n, h.nD, h.nS⟩
theorem RAt.drewN {w : World} {P D n : Nat} {v : Value} {s : RN} (h : RAt w P D v n s) (m : Nat) : RAt (w.drewN m) P D v n s := ⟨⟨h.nd.r.drewN m, h.nd.s, h.nd.nP⟩, h.dt.drewN m, h.nD⟩
/-- Objects apart from each other stay so. -/
theorem PAt.kept {F : List Nat} {w w' : World} {P D S : Nat} {v : Value} {s : PN} (h : PAt w P D S v s) (hk : Kept F w w') (hF : ∀ b ∈ fp P D S v, b ∉ F) : PAt w' P D S v s :=
  ⟨h.nd.kept hk (fun b hb => hF b (by simp only [fp, List.mem_cons] at hb ⊢; rcases hb with rfl | hb <;> simp [*])), h.dt.kept hk (hF D (by simp [fp])) (hF S (by simp [fp])), h.nD, h.nS⟩
theorem RAt.kept {F : List Nat} {w w' : World} {P D n : Nat} {v : Value} {s : RN} (h : RAt w P D v n s) (hk : Kept F w w') (hF : ∀ b ∈ rfp P D v, b ∉ F) : RAt w' P D v n s :=
  ⟨h.nd.kept hk (fun b hb => hF b (by simp only [rfp, List.mem_cons] at hb ⊢; rcases hb with rfl | hb <;> simp [*])), h.dt.kept hk (hF D (by simp [rfp])), h.nD⟩
theorem apart_step {F F' G : List Nat} {w w' : World} (h : Stp F F' w w') (hG : ∀ b ∈ G, b < w.heap.size) (hd : ∀ b ∈ G, b ∉ F) : ∀ b ∈ G, b ∉ F' := by
  intro b hb hm
  rcases h.new b hm with h1 | h1
  · exact hd b hb h1
  · have := hG b hb; omega
theorem Nd.told_self (x : Nd) (k : Nat) : (x.told k).self = x.self := rfl
theorem Nd.ask_self (x : Nd) : x.ask.self = x.self := by unfold Nd.ask; split <;> rfl
end Go.Proofs.Ytccmnphjiebiaaa
