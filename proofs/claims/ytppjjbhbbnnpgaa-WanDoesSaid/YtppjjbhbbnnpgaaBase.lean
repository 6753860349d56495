/- Rows that one owns, what an append does to one; regions that read, or read and make one call. No condition. -/
import Derived.Test.YtppjjbhbbnnpgaaRow
import Derived.Test.YtppjjbhbbnnpgaaFam2
import Derived.Laws.AppendOwn
import Derived.Deep.RegionHeld3
import Derived.Lib.SliceRun
import Derived.BigQuiet
import Derived.Deep.OwnRows
namespace Go.Proofs.Ytppjjbhbbnnpgaa
open Go.RowKit G
set_option linter.unusedVariables false
set_option linter.unusedSimpArgs false
/-- The block that a slice lies in. -/
def own (v : Value) : List Nat := v.ownBlock.toList
theorem Kept.grown {F : List Nat} {a w w' : World} {v : Value} (h : Kept F a w) (hg : w.grownBy w' v.ownBlock) (hF : ∀ b ∈ own v, b ∈ F ∨ a.heap.size ≤ b) : Kept F a w' :=
  ⟨hg.os.trans h.os, hg.tape.trans h.tape, hg.output.trans h.output, Nat.le_trans h.size hg.size, fun k hk hn => by
    rw [hg.block k (Nat.lt_of_lt_of_le hk h.size) (fun e => by
      have hm : k ∈ own v := by unfold own; rw [← e]; simp
      rcases hF k hm with h1 | h1
      · exact hn h1
      · omega)]
    exact h.block k hk hn⟩
theorem Row.grownV {w w' : World} {b T : Nat} {cs : Array Value} {v : Value} (h : Row w b cs T) (hg : w.grownBy w' v.ownBlock) (hn : b ∉ own v) : Row w' b cs T := by
  unfold Row; rw [hg.block b h.lt (fun e => hn (by unfold own; rw [← e]; simp))]; exact h
theorem own_set {w : World} {base e size n : Nat} {v : Value} {xs : List Value} (h : w.ownsRow base e size v n xs) (b i : Nat) (hb : b ∉ own v) (u : Value) : (w.setCell ⟨b, i, none⟩ u).ownsRow base e size v n xs :=
  h.kept (row := some b) ⟨rfl, rfl, rfl, by rw [size_set]; exact Nat.le_refl _, fun k hk hn => Below.heap_setCell w ⟨b, i, none⟩ u k (fun e => hn (by rw [e]))⟩ (by
    cases hv : v.ownBlock with
    | none => exact .inl rfl
    | some k => exact .inr (fun e => hb (by unfold own; rw [hv, e]; simp)))
theorem own_kept {w w' : World} {base e size n : Nat} {v : Value} {xs : List Value} {F : List Nat} (h : w.ownsRow base e size v n xs) (hk : Kept F w w') (hd : ∀ b ∈ own v, b ∉ F) : w'.ownsRow base e size v n xs := by
  refine ⟨h.1, ?_⟩
  rcases h.2 with hn | ⟨g, cap, cur, rfl, hb, hgg, rest⟩
  · exact .inl hn
  · refine .inr ⟨g, cap, cur, rfl, hb, ?_, rest⟩
    rw [hk.block g (Array.getElem?_eq_some_iff.1 hgg).1 (hd g (by simp [own, Value.ownBlock]))]
    exact hgg
theorem own_lt {w : World} {base e size n : Nat} {v : Value} {xs : List Value} (h : w.ownsRow base e size v n xs) : ∀ b ∈ own v, b < w.heap.size := by
  intro b hb
  unfold own at hb
  cases hv : v.ownBlock with
  | none => rw [hv] at hb; simp at hb
  | some k => rw [hv] at hb; simp at hb; subst hb; exact (h.lt b hv).2
/-- Where an append's row may lie: in the old block, or in a new one. -/
theorem own_new {w w' : World} {base e size n m : Nat} {v v' : Value} {xs ys : List Value} (h : w'.ownsRow base e size v' m ys) (hg : w.grownBy w' v.ownBlock) (hold : ∀ k, v'.ownBlock = some k → k < w.heap.size → v.ownBlock = some k) : ∀ b ∈ own v', b ∈ own v ∨ w.heap.size ≤ b := by
  intro b hb
  unfold own at hb
  cases hv : v'.ownBlock with
  | none => rw [hv] at hb; simp at hb
  | some k =>
    rw [hv] at hb; simp at hb; subst hb
    by_cases hl : b < w.heap.size
    · left; unfold own; rw [hold b hv hl]; simp
    · right; omega
/-- Appending words: where the new row lies. -/
theorem run_append_new {P : Program} (w : World) (base : Nat) (t ty e : TypeId) (i : TypeInfo) (z : Value) (size bytes : Nat) (ht : P.underlying t = some (.slice e)) (hi : P.info? e = some i) (hz : i.zero = some z)
    (hsize : i.size = size) (hby : i.bytes = bytes) (hzs : z.cells.size = size) (hsz : 0 < size)
    (v : Value) (n : Nat) (xs : List Value) (hown : w.ownsRow base e size v n xs)
    (a : Addr) (m c : Nat) (news : List Value) (hl : news.length = m * size) (hnews : ∀ j u, news[j]? = some u → w.cell? (a.add j) = some u) (h1 : ∀ u ∈ news, u.oneCell' = true)
    (h63 : n + m ≤ maxLen) (hbytes : (n + m) * bytes ≤ 140737488355328) (hbase : base ≤ w.heap.size) :
    ∃ v' w', (Builtin.append_ #[t, t] ty #[v, .slice (some a) m c]).run P w = .ok v' w' ∧ w'.ownsRow base e size v' (n + m) (xs ++ news) ∧ w.grownBy w' v.ownBlock ∧
      (∀ b ∈ own v', b ∈ own v ∨ w.heap.size ≤ b) := by
  obtain ⟨v', w', hr, h2, h3, -⟩ := run_append_own (P := P) w base t ty e i z size bytes ht hi hz hsize hby hzs hsz v n xs hown a m c news hl hnews h1 h63 hbytes hbase
  refine ⟨v', w', hr, h2, h3, ?_⟩
  rcases hown.2 with hn | ⟨g, cap, cur, hv, hbg, hg, hnc, hcm, hcs, htake⟩
  · obtain ⟨v1, w1, hr1, h21, -, -⟩ := run_append_own (P := P) w w.heap.size t ty e i z size bytes ht hi hz hsize hby hzs hsz v n xs ⟨hown.1, .inl hn⟩ a m c news hl hnews h1 h63 hbytes (Nat.le_refl _)
    rw [hr] at hr1
    cases hr1
    intro b hb
    right
    unfold own at hb
    cases hk : v'.ownBlock with
    | none => rw [hk] at hb; simp at hb
    | some k => rw [hk] at hb; simp at hb; subst hb; exact (h21.lt b hk).1
  · by_cases hroom : n + m ≤ cap
    · have hfit : n * i.size + news.length ≤ cur.size := by rw [hl, hcs, hsize, ← Nat.add_mul]; exact Nat.mul_le_mul_right _ hroom
      have hr1 := run_append_room (P := P) w t ty e i ht hi g n cap cur hg a m c news (by rw [hsize]; exact hl) hnews h1 hroom hfit
      rw [← hv, hr] at hr1
      cases hr1
      intro b hb
      left
      rw [hv]
      exact hb
    · have holds : ∀ j u, xs[j]? = some u → w.cell? ((⟨g, 0, none⟩ : Addr).add j) = some u := hown.cells (g := g) (by rw [hv]; rfl)
      have hr1 := run_append_grow (P := P) w t ty e i z ht hi hz ⟨g, 0, none⟩ n cap xs (by rw [hsize]; exact hown.1) holds a m c news (by rw [hsize]; exact hl) hnews (by omega) (by simp only [maxLen] at h63; omega) (growslice_fits (by omega) (by rw [hby]; exact hbytes))
      rw [← hv, hr] at hr1
      cases hr1
      intro b hb
      right
      simp [own, Value.ownBlock] at hb
      omega
theorem upd_ne {σ : St} {k i : Nat} {v : Value} (h : i ≠ k) : (σ.upd k v) i = σ i := by unfold St.upd; rw [if_neg h]
theorem upd_eq {σ : St} {k : Nat} {v : Value} : (σ.upd k v) k = some v := by unfold St.upd; rw [if_pos rfl]
inductive IsSl : Value → Prop
  | mk (B : Nat) : IsSl (.slice (some ⟨B, 0, none⟩) 1 1)
inductive IsSlice : Value → Prop
  | mk (p : Option Addr) (n c : Nat) : IsSlice (.slice p n c)
theorem own_slice {w : World} {base e size n : Nat} {v : Value} {xs : List Value} (h : w.ownsRow base e size v n xs) : IsSlice v := by
  rcases h.2 with ⟨rfl, _⟩ | ⟨g, cap, cur, rfl, _⟩ <;> exact .mk _ _ _
theorem runAt_append {Pr : Program} {pl : Bool} {o : Oper} {a : Act} {R : Value → World → Prop} {w w' : World} {s x : Operand} {t : TypeId} {v y u : Value} (ho : o.op = .call { callee := .builtin .append, args := #[s, x], argTypes := #[t, t] })
    (hs : a.eval s = v) (hx : a.eval x = y) (hr : (Builtin.append_ #[t, t] o.type #[v, y]).run Pr w = .ok u w') (h : R u w') : runAt Pr pl o a R w := by
  unfold runAt execOp
  simp only [ho, resolve, invoke, builtin, Sem.run_bind, Sem.run_pure, Result.andThen_ok, List.map_toArray, List.map_cons, List.map_nil, hs, hx, hr]
  exact h
theorem info_parts {T : TypeId} {z : Value} {s b : Nat} (h : (Try.prog.info? T).map (fun i => (i.zero, i.size, i.bytes)) = some (some z, s, b)) : ∃ i, Try.prog.info? T = some i ∧ i.zero = some z ∧ i.size = s ∧ i.bytes = b := by
  cases hi : Try.prog.info? T with
  | none => rw [hi] at h; cases h
  | some i => rw [hi] at h; simp at h; exact ⟨i, rfl, h.1, h.2.1, h.2.2⟩
structure Rd (W : World) (σ : St) (w : World) : Prop where
  w : ∃ n, w = W.drewN n
theorem Rd.start (W : World) : Rd W (fun _ => none) W.drew := ⟨1, rfl⟩
theorem Rd.upd {W w : World} {σ : St} {k : Nat} {v : Value} (h : Rd W σ w) : Rd W (σ.upd k v) w := ⟨h.w⟩
theorem Rd.skips {W : World} {k : Nat} : skips (Rd W) k := fun σ w _ h => ⟨h.w⟩
theorem below_drewN {B : Nat} {a b : World} (h : Below B a b) (n : Nat) : Below B a (b.drewN n) := ⟨h.os, h.tape, h.output, h.size, h.block⟩
theorem drewN_drewN (w : World) (a b : Nat) : (w.drewN a).drewN b = w.drewN (a + b) := by simp [World.drewN, Nat.add_assoc]
/-- A region that reads, and makes one call: operation k. -/
structure Cl (k : Nat) (W : World) (I : World → Prop) (Q : Value → World → Prop) (σ : St) (w : World) : Prop where
  i : I w
  a : σ k = none → ∃ n, w = W.drewN n
  b : ∀ v, σ k = some v → Q v w
section
variable {k j : Nat} {W w w' : World} {I : World → Prop} {Q : Value → World → Prop} {σ : St} {v : Value}
theorem Cl.start (h : I W.drew) : Cl k W I Q (fun _ => none) W.drew := ⟨h, fun _ => ⟨1, rfl⟩, fun _ h => (by cases h)⟩
theorem Cl.pure (h : Cl k W I Q σ w) (hj : j ≠ k) : Cl k W I Q (σ.upd j v) w :=
  ⟨h.i, by rw [upd_ne (Ne.symm hj)]; exact h.a, by rw [upd_ne (Ne.symm hj)]; exact h.b⟩
theorem Cl.skips (hj : j ≠ k) : skips (Cl k W I Q) j := fun σ w _ h => h.pure hj
theorem Cl.call (hi : I w') (hq : Q v w') : Cl k W I Q (σ.upd k v) w' := ⟨hi, by rw [upd_eq]; exact (fun h => by cases h), by rw [upd_eq]; exact (fun _ h => by cases h; exact hq)⟩
end
abbrev ptr (b : Nat) : Value := .pointer (some ⟨b, 0, none⟩)
/-- A step of an object that lies in the blocks F, and then in the blocks F'. -/
structure Stp (F F' : List Nat) (w w' : World) : Prop where
  keep : Kept F w w'
  new : ∀ b ∈ F', b ∈ F ∨ w.heap.size ≤ b
theorem Stp.refl (F : List Nat) (w : World) : Stp F F w w := ⟨Kept.refl _ _, fun _ h => .inl h⟩
theorem Stp.trans {F F' F'' : List Nat} {w0 w1 w2 : World} (h : Stp F F' w0 w1) (k : Stp F' F'' w1 w2) : Stp F F'' w0 w2 :=
  ⟨⟨k.keep.os.trans h.keep.os, k.keep.tape.trans h.keep.tape, k.keep.output.trans h.keep.output, Nat.le_trans h.keep.size k.keep.size, fun i hi hn => by
    rw [k.keep.block i (Nat.lt_of_lt_of_le hi h.keep.size) (fun hm => by
      rcases h.new i hm with h1 | h1
      · exact hn h1
      · omega)]
    exact h.keep.block i hi hn⟩,
   fun i hi => by
    rcases k.new i hi with h1 | h1
    · exact h.new i h1
    · exact .inr (Nat.le_trans h.keep.size h1)⟩
theorem Stp.drewN {F F' : List Nat} {w w' : World} (h : Stp F F' w w') (n : Nat) : Stp F F' w (w'.drewN n) := ⟨h.keep.drewN n, h.new⟩
theorem Stp.drew {F F' : List Nat} {w w' : World} (h : Stp F F' w w') : Stp F F' w w'.drew := ⟨h.keep.drew, h.new⟩
theorem Stp.same {F : List Nat} {w w' : World} (h : Kept F w w') : Stp F F w w' := ⟨h, fun _ h => .inl h⟩
theorem own_none : own (.slice none 0 0) = [] := rfl
theorem wrap64_mid {n : Int} (h : -1000000 ≤ n) (h' : n ≤ 1000000) : wrap64 n = n := by unfold wrap64; omega
end Go.Proofs.Ytppjjbhbbnnpgaa
