/- A node's words: saying one more. Conditions: the node lies whole in memory, its words in a row of their own. -/
import Derived.Test.YtccmnphjiebiaaaRef
import Derived.Laws.AppendOwn
import Derived.Deep.RegionHeld3
namespace Go.Proofs.Ytccmnphjiebiaaa
open Go.RowKit
set_option linter.unusedVariables false
set_option linter.unusedSimpArgs false
/-- A word: Kind, From, To, Term. -/
structure Wd where
  k : Int
  f : Int
  t : Int
  m : Int
deriving DecidableEq
def wdc (x : Wd) : List Value := [.int .i64 x.k, .int .i64 x.f, .int .i64 x.t, .int .i64 x.m]
def wds (ws : List Wd) : List Value := ws.flatMap wdc
theorem wds_snoc (ws : List Wd) (x : Wd) : wds (ws ++ [x]) = wds ws ++ wdc x := by simp [wds]
theorem wds_len (ws : List Wd) : (wds ws).length = ws.length * 4 := by
  induction ws with
  | nil => rfl
  | cons x l ih => simp [wds, wdc] at ih ⊢; omega
/-- The block that a slice lies in. -/
def own (v : Value) : List Nat := v.ownBlock.toList
theorem turn_any {w : World} {P : Nat} {c0 c1 c2 c3 c4 c5 c6 c7 c8 : Value} (h : Row w P #[c0, c1, c2, c3, c4, c5, c6, c7, c8] 69) (r : Int) :
    Calls Try.prog 33 #[.pointer (some ⟨P, 0, none⟩), .int .i64 r] w fun e w' => e = .returned (.tuple #[]) ∧ Row w' P #[c0, c1, c2, .int .i64 r, c4, c5, .int .i64 0, c7, c8] 69 ∧ Kept [P] w w' := by
  have c_3 := h.cell 3 _ rfl
  have c_6 := h.cell 6 _ rfl
  have c_f := h.free
  go_enter Try.func33, Try.ntmps33
  go_wp2
  go_end0
  exact ⟨rfl, ((h.set 3 _).set 6 _).cast (by simp), ((Kept.refl [P] w).set P 3 (.inl (by simp)) _).set P 6 (.inl (by simp)) _⟩
theorem Kept.grown {F : List Nat} {a w w' : World} {v : Value} (h : Kept F a w) (hg : w.grownBy w' v.ownBlock) (hF : ∀ b ∈ own v, b ∈ F ∨ a.heap.size ≤ b) : Kept F a w' :=
  ⟨hg.os.trans h.os, hg.tape.trans h.tape, hg.output.trans h.output, Nat.le_trans h.size hg.size, fun k hk hn => by
    rw [hg.block k (Nat.lt_of_lt_of_le hk h.size) (fun e => by
      have hm : k ∈ own v := by unfold own; rw [← e]; simp
      rcases hF k hm with h1 | h1
      · exact hn h1
      · omega)]
    exact h.block k hk hn⟩
theorem Row.grownV {w w' : World} {b T : Nat} {cs : Array Value} {v : Value} (h : Row w b cs T) (hg : w.grownBy w' v.ownBlock) (hn : b ∉ own v) : Row w' b cs T := by
  unfold Row; rw [hg.block b h.lt (fun e => hn (by unfold own; rw [← e]; simp))]; exact h
theorem own_set {w : World} {base e size n : Nat} {v : Value} {xs : List Value} (h : w.ownsRow base e size v n xs) (b i : Nat) (hb : b ∉ own v) (u : Value) : (w.setCell ⟨b, i, none⟩ u).ownsRow base e size v n xs :=
  h.kept (row := some b) ⟨rfl, rfl, rfl, by rw [size_set]; exact Nat.le_refl _, fun k hk hn => Below.heap_setCell w ⟨b, i, none⟩ u k (fun e => hn (by rw [e]))⟩ (by
    cases hv : v.ownBlock with
    | none => exact .inl rfl
    | some k => exact .inr (fun e => hb (by unfold own; rw [hv, e]; simp)))
theorem own_kept {w w' : World} {base e size n : Nat} {v : Value} {xs : List Value} {F : List Nat} (h : w.ownsRow base e size v n xs) (hk : Kept F w w') (hd : ∀ b ∈ own v, b ∉ F) : w'.ownsRow base e size v n xs := by
  refine ⟨h.1, ?_⟩
  rcases h.2 with hn | ⟨g, cap, cur, rfl, hb, hgg, rest⟩
  · exact .inl hn
  · refine .inr ⟨g, cap, cur, rfl, hb, ?_, rest⟩
    rw [hk.block g (Array.getElem?_eq_some_iff.1 hgg).1 (hd g (by simp [own, Value.ownBlock]))]
    exact hgg
theorem own_lt {w : World} {base e size n : Nat} {v : Value} {xs : List Value} (h : w.ownsRow base e size v n xs) : ∀ b ∈ own v, b < w.heap.size := by
  intro b hb
  unfold own at hb
  cases hv : v.ownBlock with
  | none => rw [hv] at hb; simp at hb
  | some k => rw [hv] at hb; simp at hb; subst hb; exact (h.lt b hv).2
/-- Where an append's row may lie: in the old block, or in a new one. -/
theorem own_new {w w' : World} {base e size n m : Nat} {v v' : Value} {xs ys : List Value} (h : w'.ownsRow base e size v' m ys) (hg : w.grownBy w' v.ownBlock) (hold : ∀ k, v'.ownBlock = some k → k < w.heap.size → v.ownBlock = some k) : ∀ b ∈ own v', b ∈ own v ∨ w.heap.size ≤ b := by
  intro b hb
  unfold own at hb
  cases hv : v'.ownBlock with
  | none => rw [hv] at hb; simp at hb
  | some k =>
    rw [hv] at hb; simp at hb; subst hb
    by_cases hl : b < w.heap.size
    · left; unfold own; rw [hold b hv hl]; simp
    · right; omega
/-- Appending words: where the new row lies. -/
theorem run_append_new {P : Program} (w : World) (base : Nat) (t ty e : TypeId) (i : TypeInfo) (z : Value) (size bytes : Nat) (ht : P.underlying t = some (.slice e)) (hi : P.info? e = some i) (hz : i.zero = some z)
    (hsize : i.size = size) (hby : i.bytes = bytes) (hzs : z.cells.size = size) (hsz : 0 < size)
    (v : Value) (n : Nat) (xs : List Value) (hown : w.ownsRow base e size v n xs)
    (a : Addr) (m c : Nat) (news : List Value) (hl : news.length = m * size) (hnews : ∀ j u, news[j]? = some u → w.cell? (a.add j) = some u) (h1 : ∀ u ∈ news, u.oneCell' = true)
    (h63 : n + m ≤ maxLen) (hbytes : (n + m) * bytes ≤ 140737488355328) (hbase : base ≤ w.heap.size) :
    ∃ v' w', (Builtin.append_ #[t, t] ty #[v, .slice (some a) m c]).run P w = .ok v' w' ∧ w'.ownsRow base e size v' (n + m) (xs ++ news) ∧ w.grownBy w' v.ownBlock ∧
      (∀ b ∈ own v', b ∈ own v ∨ w.heap.size ≤ b) := by
  obtain ⟨v', w', hr, h2, h3, -⟩ := run_append_own (P := P) w base t ty e i z size bytes ht hi hz hsize hby hzs hsz v n xs hown a m c news hl hnews h1 h63 hbytes hbase
  refine ⟨v', w', hr, h2, h3, ?_⟩
  rcases hown.2 with hn | ⟨g, cap, cur, hv, hbg, hg, hnc, hcm, hcs, htake⟩
  · obtain ⟨v1, w1, hr1, h21, -, -⟩ := run_append_own (P := P) w w.heap.size t ty e i z size bytes ht hi hz hsize hby hzs hsz v n xs ⟨hown.1, .inl hn⟩ a m c news hl hnews h1 h63 hbytes (Nat.le_refl _)
    rw [hr] at hr1
    cases hr1
    intro b hb
    right
    unfold own at hb
    cases hk : v'.ownBlock with
    | none => rw [hk] at hb; simp at hb
    | some k => rw [hk] at hb; simp at hb; subst hb; exact (h21.lt b hk).1
  · by_cases hroom : n + m ≤ cap
    · have hfit : n * i.size + news.length ≤ cur.size := by rw [hl, hcs, hsize, ← Nat.add_mul]; exact Nat.mul_le_mul_right _ hroom
      have hr1 := run_append_room (P := P) w t ty e i ht hi g n cap cur hg a m c news (by rw [hsize]; exact hl) hnews h1 hroom hfit
      rw [← hv, hr] at hr1
      cases hr1
      intro b hb
      left
      rw [hv]
      exact hb
    · have holds : ∀ j u, xs[j]? = some u → w.cell? ((⟨g, 0, none⟩ : Addr).add j) = some u := hown.cells (g := g) (by rw [hv]; rfl)
      have hr1 := run_append_grow (P := P) w t ty e i z ht hi hz ⟨g, 0, none⟩ n cap xs (by rw [hsize]; exact hown.1) holds a m c news (by rw [hsize]; exact hl) hnews (by omega) (by simp only [maxLen] at h63; omega) (growslice_fits (by omega) (by rw [hby]; exact hbytes))
      rw [← hv, hr] at hr1
      cases hr1
      intro b hb
      right
      simp [own, Value.ownBlock] at hb
      omega
end Go.Proofs.Ytccmnphjiebiaaa
