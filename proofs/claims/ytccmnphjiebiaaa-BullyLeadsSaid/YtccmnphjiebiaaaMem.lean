/- A town in memory: its words, its nodes apart from one another; appends, and one node's steps. Condition: the bounds of PI. -/
import Derived.Test.YtccmnphjiebiaaaTb
import Derived.Test.YtccmnphjiebiaaaWorks
import Derived.Deep.AppendSrc
namespace Go.Proofs.Ytccmnphjiebiaaa
open Go.RowKit
set_option linter.unusedVariables false
set_option linter.unusedSimpArgs false
/-- A slice of words, from whatever place of a block on. -/
def RowA (w : World) (v : Value) (ws : List Wd) : Prop := (v = .slice none 0 0 ∧ ws = []) ∨ ∃ g off cap, v = .slice (some ⟨g, off, none⟩) ws.length cap ∧ g < w.heap.size ∧ ws.length ≤ cap ∧
  (∀ j u, (wds ws)[j]? = some u → w.cell? ⟨g, off + j, none⟩ = some u) ∧ ∀ j, j < cap * 4 → (w.cell? ⟨g, off + j, none⟩).isSome = true ∧ w.frozen? ⟨g, off + j, none⟩ = false
theorem wds_app (a b : List Wd) : wds (a ++ b) = wds a ++ wds b := by simp [wds]
theorem RowA.kept {w w' : World} {v : Value} {ws : List Wd} {F : List Nat} (h : RowA w v ws) (hk : Kept F w w') (hF : ∀ b ∈ own v, b ∉ F) : RowA w' v ws := by
  rcases h with h | ⟨g, off, cap, rfl, hg, hl, hc, hs⟩
  · exact .inl h
  · have e := hk.block g hg (hF g (by simp [own, Value.ownBlock]))
    exact .inr ⟨g, off, cap, rfl, Nat.lt_of_lt_of_le hg hk.size, hl, fun j u hu => by rw [World.cell?_of_block (a := ⟨g, off + j, none⟩) e]; exact hc j u hu, fun j hj => by
      rw [World.cell?_of_block (a := ⟨g, off + j, none⟩) e, World.frozen?_of_block (a := ⟨g, off + j, none⟩) e]; exact hs j hj⟩
theorem RowA.lts {w : World} {v : Value} {ws : List Wd} (h : RowA w v ws) : ∀ b ∈ own v, b < w.heap.size := by
  rcases h with ⟨rfl, -⟩ | ⟨g, off, cap, rfl, hg, -⟩
  · intro b hb; simp [own_none] at hb
  · intro b hb; simp [own, Value.ownBlock] at hb; omega
theorem RowA.form {w : World} {v : Value} {ws : List Wd} (h : RowA w v ws) : (v = .slice none 0 0 ∧ ws = []) ∨ ∃ g off cap, v = .slice (some ⟨g, off, none⟩) ws.length cap := by
  rcases h with h | ⟨g, off, cap, h, -⟩
  · exact .inl h
  · exact .inr ⟨g, off, cap, h⟩
theorem RowA.len {w : World} {v : Value} {ws : List Wd} (h : RowA w v ws) : ∃ p cap, v = .slice p ws.length cap := by
  rcases h.form with ⟨rfl, rfl⟩ | ⟨g, off, cap, rfl⟩
  · exact ⟨_, _, rfl⟩
  · exact ⟨_, _, rfl⟩
theorem RowA.nil (w : World) : RowA w (.slice none 0 0) [] := .inl ⟨rfl, rfl⟩
/-- One word of them. -/
theorem RowA.read {w : World} {g off n cap : Nat} {ws : List Wd} (h : RowA w (.slice (some ⟨g, off, none⟩) n cap) ws) {i : Nat} {y : Wd} (hy : ws[i]? = some y) :
    w.cell? ⟨g, off + i * 4, none⟩ = some (.int .i64 y.k) ∧ w.cell? ⟨g, off + i * 4 + 1, none⟩ = some (.int .i64 y.f) ∧ w.cell? ⟨g, off + i * 4 + 2, none⟩ = some (.int .i64 y.t) ∧ w.cell? ⟨g, off + i * 4 + 3, none⟩ = some (.int .i64 y.m) := by
  rcases h with ⟨h, -⟩ | ⟨g', off', cap', e, hg, hl, hc, hs⟩
  · cases h
  · cases e
    have key : ∀ j u, j < 4 → (wdc y)[j]? = some u → w.cell? ⟨g, off + i * 4 + j, none⟩ = some u := fun j u hj hu => by
      have := hc (i * 4 + j) u (by rw [wds_get ws i y hy j hj]; exact hu)
      rw [← Nat.add_assoc] at this
      exact this
    exact ⟨key 0 _ (by decide) rfl, key 1 _ (by decide) rfl, key 2 _ (by decide) rfl, key 3 _ (by decide) rfl⟩
/-- All but the first. -/
theorem RowA.tail {w : World} {g off n cap : Nat} {ws : List Wd} (h : RowA w (.slice (some ⟨g, off, none⟩) n cap) ws) (hp : 0 < ws.length) : RowA w (.slice (some ⟨g, off + 4, none⟩) (n - 1) (cap - 1)) ws.tail := by
  rcases h with ⟨h, -⟩ | ⟨g', off', cap', e, hg, hl, hc, hs⟩
  · cases h
  · cases e
    refine .inr ⟨g, off + 4, cap - 1, by simp, hg, by simp; omega, fun j u hu => ?_, fun j hj => ?_⟩
    · obtain ⟨x, l, rfl⟩ : ∃ x l, ws = x :: l := by cases ws with
        | nil => simp at hp
        | cons x l => exact ⟨x, l, rfl⟩
      have := hc (4 + j) u (by
        have e : wds (x :: l) = wdc x ++ wds l := by simp [wds]
        rw [e, List.getElem?_append_right (by simp [wdc])]
        simpa [wdc] using hu)
      rw [← Nat.add_assoc] at this
      exact this
    · have := hs (4 + j) (by omega)
      rw [← Nat.add_assoc] at this
      exact this
theorem kept_cells (b : Nat) : ∀ (vs : List Value) (o : Nat) (w : World), Kept [b] w (w.setCells b o vs)
  | [], _, w => Kept.refl _ _
  | v :: r, o, w => ((Kept.refl [b] w).set b o (.inl (by simp)) v).trans (kept_cells b r (o + 1) _)
theorem one_wds (ws : List Wd) : ∀ u ∈ wds ws, u.oneCell' = true := by
  intro u hu
  simp only [wds, List.mem_flatMap, wdc] at hu
  obtain ⟨x, -, hu⟩ := hu
  simp only [List.mem_cons, List.mem_nil_iff, or_false] at hu
  rcases hu with rfl | rfl | rfl | rfl <;> rfl
theorem src_wds {w : World} {x : Value} {ys : List Wd} (hx : WIn w x ys) : Src Try.prog 4 41 x ys.length (wds ys) w := by
  rcases hx with ⟨rfl, rfl⟩ | ⟨g, cap, rfl, hc⟩
  · exact Src.ofNil w Try.underlying41 0
  · refine Src.ofSlice w Try.underlying41 _ _ _ _ (wds_len ys) (fun j u hu => ?_) (one_wds ys)
    have hj : j < ys.length * 4 := by rw [← wds_len]; exact (List.getElem?_eq_some_iff.1 hu).1
    obtain ⟨i, r, hr, rfl⟩ : ∃ i r, r < 4 ∧ j = i * 4 + r := ⟨j / 4, j % 4, Nat.mod_lt _ (by decide), by omega⟩
    have hi : i < ys.length := by omega
    have hy := List.getElem?_eq_getElem hi
    obtain ⟨c0, c1, c2, c3⟩ := hc i _ hy
    rw [wds_get ys i _ hy r hr] at hu
    have ea : ∀ (p q : Nat), (⟨g, p, none⟩ : Addr).add q = ⟨g, p + q, none⟩ := fun p q => by
      by_cases e : q = 0
      · subst e; rfl
      · simp [Addr.add, e]
    rw [ea, Nat.zero_add]
    have : r = 0 ∨ r = 1 ∨ r = 2 ∨ r = 3 := by omega
    rcases this with rfl | rfl | rfl | rfl
    · cases hu; exact c0
    · cases hu; exact c1
    · cases hu; exact c2
    · cases hu; exact c3
/-- Words are appended, wherever they lie. -/
theorem run_app {w : World} {v x : Value} {ws ys : List Wd} (h : RowA w v ws) (hx : WIn w x ys) (hl : ws.length + ys.length ≤ 100000000) :
    ∃ v' w', (Builtin.append_ #[41, 41] 41 #[v, x]).run Try.prog w = .ok v' w' ∧ RowA w' v' (ws ++ ys) ∧ Kept (own v) w w' ∧ ∀ b ∈ own v', b ∈ own v ∨ w.heap.size ≤ b := by
  obtain ⟨i, hi, hz, hsz, hby⟩ := info_parts Try.info35
  have hs : Src Try.prog i.size 41 x ys.length (wds ys) w := by rw [hsz]; exact src_wds hx
  have hyl := wds_len ys
  have hwl := wds_len ws
  have grown : ∀ (base : Option Addr) (cap : Nat), cap < ws.length + ys.length → (Builtin.firstCells i.size ws.length (.slice base ws.length cap)).run Try.prog w.drew = .ok (wds ws).toArray w.drew →
      ∃ v' w', (Builtin.append_ #[41, 41] 41 #[.slice base ws.length cap, x]).run Try.prog w = .ok v' w' ∧ RowA w' v' (ws ++ ys) ∧ (∀ F, Kept F w w') ∧ ∀ b ∈ own v', w.heap.size ≤ b := by
    intro base cap hlt hold
    have hr := run_append_grow_src (P := Try.prog) w 41 41 41 35 i _ Try.underlying41 hi hz base ws.length cap (wds ws) hold x ys.length (wds ys) hs hlt (by omega) (by rw [hby]; exact growslice_fits hlt (by omega))
    have hge := grownCap_ge w (ws.length + ys.length) cap 35
    generalize grownCap w (ws.length + ys.length) cap 35 = c' at hr hge
    refine ⟨_, _, hr, .inr ⟨w.heap.size, 0, c', by simp, ?_, by simpa using hge, ?_, ?_⟩, fun F => ⟨rfl, rfl, rfl, by simp, fun k hk _ => (below_new w.drew _).block k hk⟩, fun b hb => by simp [own, Value.ownBlock] at hb; omega⟩
    · simp
    · intro j u hu
      rw [wds_app] at hu
      refine (Row.new w.drew _ 35).cell _ u ?_
      have hlt := (List.getElem?_eq_some_iff.1 hu).1
      rw [Nat.zero_add, Array.getElem?_append_left (by simpa using hlt)]
      simpa using hu
    · intro j hj
      have hR : Row (w.drew.alloc (.cells ((wds ws ++ wds ys).toArray ++ Builtin.zeroCells (Value.agg #[.int .i64 0, .int .i64 0, .int .i64 0, .int .i64 0]).cells (c' - (ws.length + ys.length))) 35)) w.heap.size ((wds ws ++ wds ys).toArray ++ Builtin.zeroCells (Value.agg #[.int .i64 0, .int .i64 0, .int .i64 0, .int .i64 0]).cells (c' - (ws.length + ys.length))) 35 := Row.new w.drew _ 35
      refine ⟨?_, hR.free _⟩
      have hsize : ((wds ws ++ wds ys).toArray ++ Builtin.zeroCells (Value.agg #[.int .i64 0, .int .i64 0, .int .i64 0, .int .i64 0]).cells (c' - (ws.length + ys.length))).size = c' * 4 := by
        rw [Array.size_append, size_zeroCells]
        simp [Value.cells, hyl, hwl]
        omega
      rw [hR.cell (0 + j) _ (Array.getElem?_eq_getElem (by rw [hsize]; omega))]
      rfl
  rcases h with ⟨rfl, rfl⟩ | ⟨g, off, cap, rfl, hg, hcap, hc, hsp⟩
  · by_cases hy : ys = []
    · subst hy
      refine ⟨.slice none 0 0, w, ?_, RowA.nil w, Kept.refl _ _, fun b hb => .inl hb⟩
      rcases hx with ⟨rfl, -⟩ | ⟨g, cap, rfl, -⟩
      · simp [Builtin.append_, run_underlying Try.underlying41, sizeOf, typeInfo, hi, Builtin.lenOf, Builtin.firstCells]
      · simp [Builtin.append_, run_underlying Try.underlying41, sizeOf, typeInfo, hi, Builtin.lenOf, Builtin.firstCells, loadCells, loadCellsFrom]
    · have : 0 < ys.length := List.length_pos_iff.2 hy
      obtain ⟨v', w', a, b, c, d⟩ := grown none 0 (by simp; omega) (by simp [Builtin.firstCells, wds])
      exact ⟨v', w', a, b, c _, fun b hb => .inr (d b hb)⟩
  · by_cases hroom : ws.length + ys.length ≤ cap
    · have hin : ∀ j, j < (wds ys).length → (w.cell? ⟨g, off + ws.length * 4 + j, none⟩).isSome = true ∧ w.frozen? ⟨g, off + ws.length * 4 + j, none⟩ = false := fun j hj => by
        have := hsp (ws.length * 4 + j) (by omega)
        rw [← Nat.add_assoc] at this
        exact this
      have hr := run_append_room_src (P := Try.prog) w 41 41 41 35 i Try.underlying41 hi g off ws.length cap x ys.length (wds ys) hs hroom (fun j hj => by rw [hsz]; exact (hin j hj).1) (fun j hj => by rw [hsz]; exact (hin j hj).2)
      rw [hsz] at hr
      have hk := kept_cells g (wds ys) (off + ws.length * 4) w
      refine ⟨_, _, hr, .inr ⟨g, off, cap, by simp, Nat.lt_of_lt_of_le hg hk.size, by simpa using hroom, fun j u hu => ?_, fun j hj => ?_⟩, by simpa [own, Value.ownBlock] using hk, fun b hb => .inl (by simpa [own, Value.ownBlock] using hb)⟩
      · rw [wds_app] at hu
        by_cases hj : j < (wds ws).length
        · rw [List.getElem?_append_left hj] at hu
          rw [World.cell?_setCells_out g (wds ys) _ w _ (fun _ _ => .inl (by simp; omega))]
          exact hc j u hu
        · rw [List.getElem?_append_right (by omega)] at hu
          have hlt := (List.getElem?_eq_some_iff.1 hu).1
          have := World.cell?_setCells_in g (wds ys) (off + ws.length * 4) w (fun j hj => (hin j hj).1) (j - (wds ws).length) hlt
          rw [show off + ws.length * 4 + (j - (wds ws).length) = off + j by omega] at this
          rw [this, ← hu, List.getElem?_eq_getElem hlt]
      · rw [World.frozen?_setCells]
        refine ⟨?_, (hsp j hj).2⟩
        by_cases hj1 : j < ws.length * 4
        · rw [World.cell?_setCells_out g (wds ys) _ w _ (fun _ _ => .inl (by simp; omega))]
          exact (hsp j hj).1
        · by_cases hj2 : j - ws.length * 4 < (wds ys).length
          · have := World.cell?_setCells_in g (wds ys) (off + ws.length * 4) w (fun j hj => (hin j hj).1) (j - ws.length * 4) hj2
            rw [show off + ws.length * 4 + (j - ws.length * 4) = off + j by omega] at this
            rw [this]; rfl
          · rw [World.cell?_setCells_out g (wds ys) _ w _ (fun _ _ => .inr (by simp; omega))]
            exact (hsp j hj).1
    · have hold : (Builtin.firstCells i.size ws.length (.slice (some ⟨g, off, none⟩) ws.length cap)).run Try.prog w.drew = .ok (wds ws).toArray w.drew := by
        refine run_firstCells_some w.drew i.size ws.length ⟨g, off, none⟩ ws.length cap (wds ws) (by rw [hsz]; exact hwl) (fun j u hu => ?_)
        have ea : (⟨g, off, none⟩ : Addr).add j = ⟨g, off + j, none⟩ := by
          by_cases e : j = 0
          · subst e; rfl
          · simp [Addr.add, e]
        rw [ea]
        exact hc j u hu
      obtain ⟨v', w', a, b, c, d⟩ := grown (some ⟨g, off, none⟩) cap (by omega) hold
      exact ⟨v', w', a, b, c _, fun b hb => .inr (d b hb)⟩
end Go.Proofs.Ytccmnphjiebiaaa
