/- One word more: what 'say' does. Conditions: the node lies whole in memory, its words in a row of their own. -/
import Derived.Test.YtccmnphjiebiaaaNode
import Derived.Test.YtccmnphjiebiaaaFam2
namespace Go.Proofs.Ytccmnphjiebiaaa
open Go.RowKit G
set_option linter.unusedVariables false
set_option linter.unusedSimpArgs false
attribute [local go_sem] upon_value upon_skip upon_enter runAt_run
theorem upd_ne {σ : St} {k i : Nat} {v : Value} (h : i ≠ k) : (σ.upd k v) i = σ i := by unfold St.upd; rw [if_neg h]
theorem upd_eq {σ : St} {k : Nat} {v : Value} : (σ.upd k v) k = some v := by unfold St.upd; rw [if_pos rfl]
/-- A row of words that is a node's own. -/
abbrev Sl (E : TypeId) (w : World) (v : Value) (ws : List Wd) : Prop := w.ownsRow 0 E 4 v ws.length (wds ws)
inductive IsSl : Value → Prop
  | mk (B : Nat) : IsSl (.slice (some ⟨B, 0, none⟩) 1 1)
inductive IsSlice : Value → Prop
  | mk (p : Option Addr) (n c : Nat) : IsSlice (.slice p n c)
theorem own_slice {w : World} {base e size n : Nat} {v : Value} {xs : List Value} (h : w.ownsRow base e size v n xs) : IsSlice v := by
  rcases h.2 with ⟨rfl, _⟩ | ⟨g, cap, cur, rfl, _⟩ <;> exact .mk _ _ _
/-- The worlds on the way through 'say'. -/
structure SC (T E : TypeId) (W0 : World) (P : Nat) (cs : Array Value) (v : Value) (ws : List Wd) (x : Wd) (σ : St) (w : World) : Prop where
  keep : Kept (P :: own v) W0 w
  lP : P < W0.heap.size
  lv : ∀ b ∈ own v, b < W0.heap.size
  nP : P ∉ own v
  s4 : σ 4 = none → σ 14 = none
  s13 : σ 13 = none → σ 14 = none
  s14 : σ 14 = none → σ 17 = none
  r : σ 17 = none → Row w P cs T
  o : σ 14 = none → Sl E w v ws
  b : ∀ u, σ 13 = some u → ∃ B, u = .slice (some ⟨B, 0, none⟩) 1 1 ∧ W0.heap.size ≤ B ∧ Row w B (wdc x).toArray E
  a : ∀ u, σ 14 = some u → Sl E w u (ws ++ [x]) ∧ ∀ c ∈ own u, c ∈ own v ∨ W0.heap.size ≤ c
  f : ∀ t, σ 17 = some t → ∃ u, σ 14 = some u ∧ Row w P (cs.setIfInBounds 8 u) T
section
variable {T E : TypeId} {W0 w w' : World} {P k : Nat} {cs : Array Value} {v u : Value} {ws : List Wd} {x : Wd} {σ : St}
theorem SC.start (hr : Row W0 P cs T) (hs : Sl E W0 v ws) (hn : P ∉ own v) : SC T E W0 P cs v ws x (fun _ => none) W0.drew :=
  ⟨(Kept.refl _ _).drew, hr.lt, own_lt hs, hn, fun _ => rfl, fun _ => rfl, fun _ => rfl, fun _ => hr.drew, fun _ => hs, fun _ h => (by cases h), fun _ h => (by cases h), fun _ h => (by cases h)⟩
theorem SC.pure (h : SC T E W0 P cs v ws x σ w) (hk : k ≠ 4 ∧ k ≠ 13 ∧ k ≠ 14 ∧ k ≠ 17) : SC T E W0 P cs v ws x (σ.upd k u) w := by
  have e4 : (σ.upd k u) 4 = σ 4 := upd_ne (by omega)
  have e13 : (σ.upd k u) 13 = σ 13 := upd_ne (by omega)
  have e14 : (σ.upd k u) 14 = σ 14 := upd_ne (by omega)
  have e17 : (σ.upd k u) 17 = σ 17 := upd_ne (by omega)
  exact ⟨h.keep, h.lP, h.lv, h.nP, by rw [e4, e14]; exact h.s4, by rw [e13, e14]; exact h.s13, by rw [e14, e17]; exact h.s14, by rw [e17]; exact h.r, by rw [e14]; exact h.o, by rw [e13]; exact h.b, by rw [e14]; exact h.a, by rw [e17, e14]; exact h.f⟩
theorem SC.load (h : SC T E W0 P cs v ws x σ w) : SC T E W0 P cs v ws x (σ.upd 4 u) w := by
  have e4 : (σ.upd 4 u) 4 = some u := upd_eq
  have e13 : (σ.upd 4 u) 13 = σ 13 := upd_ne (by omega)
  have e14 : (σ.upd 4 u) 14 = σ 14 := upd_ne (by omega)
  have e17 : (σ.upd 4 u) 17 = σ 17 := upd_ne (by omega)
  exact ⟨h.keep, h.lP, h.lv, h.nP, by rw [e4]; exact (fun h => by cases h), by rw [e13, e14]; exact h.s13, by rw [e14, e17]; exact h.s14, by rw [e17]; exact h.r, by rw [e14]; exact h.o, by rw [e13]; exact h.b, by rw [e14]; exact h.a, by rw [e17, e14]; exact h.f⟩
theorem Sl.below (h : Sl E w v ws) (hb : Below w.heap.size w w') : Sl E w' v ws :=
  own_kept h (Kept.of_below (F := []) hb) (fun _ _ => by simp)
theorem SC.alloc (h : SC T E W0 P cs v ws x σ w) (hk : σ 13 = none) : SC T E W0 P cs v ws x (σ.upd 13 (.slice (some ⟨w.heap.size, 0, none⟩) 1 1)) (w.alloc (.cells (wdc x).toArray E)) := by
  have e4 : (σ.upd 13 (.slice (some ⟨w.heap.size, 0, none⟩) 1 1)) 4 = σ 4 := upd_ne (by omega)
  have e13 : (σ.upd 13 (.slice (some ⟨w.heap.size, 0, none⟩) 1 1)) 13 = some (.slice (some ⟨w.heap.size, 0, none⟩) 1 1) := upd_eq
  have e14 : (σ.upd 13 (.slice (some ⟨w.heap.size, 0, none⟩) 1 1)) 14 = σ 14 := upd_ne (by omega)
  have e17 : (σ.upd 13 (.slice (some ⟨w.heap.size, 0, none⟩) 1 1)) 17 = σ 17 := upd_ne (by omega)
  have h14 := h.s13 hk
  have h17 := h.s14 h14
  exact ⟨h.keep.alloc _, h.lP, h.lv, h.nP, by rw [e4, e14]; exact h.s4, by rw [e13]; exact (fun h => by cases h), by rw [e14, e17]; exact h.s14,
    fun _ => (h.r h17).alloc _, fun _ => World.ownsRow.alloc (h.o h14) _,
    by rw [e13]; intro u hu; cases hu; exact ⟨_, rfl, h.keep.size, Row.new _ _ _⟩,
    by rw [e14, h14]; exact (fun _ h => by cases h), by rw [e17, h17]; exact (fun _ h => by cases h)⟩
theorem SC.append (h : SC T E W0 P cs v ws x σ w) {s4 : Value} {B : Nat} (h4 : σ 4 = some s4) (h13 : σ 13 = some (.slice (some ⟨B, 0, none⟩) 1 1)) (hk : σ 14 = none) (hg : w.grownBy w' v.ownBlock) (hu : Sl E w' u (ws ++ [x]))
    (hn : ∀ c ∈ own u, c ∈ own v ∨ w.heap.size ≤ c) : SC T E W0 P cs v ws x (σ.upd 14 u) w' := by
  have e4 : (σ.upd 14 u) 4 = σ 4 := upd_ne (by omega)
  have e13 : (σ.upd 14 u) 13 = σ 13 := upd_ne (by omega)
  have e14 : (σ.upd 14 u) 14 = some u := upd_eq
  have e17 : (σ.upd 14 u) 17 = σ 17 := upd_ne (by omega)
  have h17 := h.s14 hk
  have hsz := h.keep.size
  refine ⟨h.keep.grown hg (fun b hb => .inl (List.mem_cons_of_mem _ hb)), h.lP, h.lv, h.nP, by rw [e4, h4]; exact (fun h => by cases h), by rw [e13, h13]; exact (fun h => by cases h), by rw [e14]; exact (fun h => by cases h),
    fun _ => (h.r h17).grownV hg h.nP, by rw [e14]; exact (fun h => by cases h), ?_, ?_, by rw [e17, h17]; exact (fun _ h => by cases h)⟩
  · rw [e13]
    intro y hy
    obtain ⟨B', e, hB, hr⟩ := h.b y hy
    exact ⟨B', e, hB, hr.grownV hg (fun hm => absurd (h.lv _ hm) (by omega))⟩
  · rw [e14]
    intro y hy
    cases hy
    exact ⟨hu, fun c hc => (hn c hc).imp id (fun hh => by omega)⟩
theorem SC.store (h : SC T E W0 P cs v ws x σ w) {t : Value} (h14 : σ 14 = some u) (hk : σ 17 = none) : SC T E W0 P cs v ws x (σ.upd 17 t) (w.setCell ⟨P, 8, none⟩ u) := by
  have e4 : (σ.upd 17 t) 4 = σ 4 := upd_ne (by omega)
  have e13 : (σ.upd 17 t) 13 = σ 13 := upd_ne (by omega)
  have e14 : (σ.upd 17 t) 14 = σ 14 := upd_ne (by omega)
  have e17 : (σ.upd 17 t) 17 = some t := upd_eq
  have hlP := h.lP
  refine ⟨h.keep.set P 8 (.inl (by simp)) _, h.lP, h.lv, h.nP, by rw [e4, e14]; exact h.s4, by rw [e13, e14]; exact h.s13, by rw [e14, h14]; exact (fun h => by cases h), by rw [e17]; exact (fun h => by cases h), by rw [e14, h14]; exact (fun h => by cases h), ?_, ?_, ?_⟩
  · rw [e13]
    intro y hy
    obtain ⟨B', e, hB, hr⟩ := h.b y hy
    exact ⟨B', e, hB, hr.setOther P 8 (by omega) _⟩
  · rw [e14]
    intro y hy
    obtain ⟨ha, hc⟩ := h.a y hy
    exact ⟨own_set ha P 8 (fun hm => (hc P hm).elim h.nP (fun hh => by omega)) _, hc⟩
  · rw [e17, e14]
    intro y hy
    exact ⟨u, h14, (h.r hk).set 8 _⟩
theorem SC.cell1 {c0 c2 c3 c4 c5 c6 c7 c1 : Value} (h : SC T E W0 P #[c0, c1, c2, c3, c4, c5, c6, c7, v] v ws x σ w) : w.cell? ⟨P, 1, none⟩ = some c1 := by
  cases e : σ 17 with
  | none => exact (h.r e).cell 1 _ rfl
  | some t => obtain ⟨u, _, hr⟩ := h.f t e; exact hr.cell 1 _ rfl
theorem SC.free8 (h : SC T E W0 P cs v ws x σ w) : w.frozen? ⟨P, 8, none⟩ = false := by
  cases e : σ 17 with
  | none => exact (h.r e).free 8
  | some t => obtain ⟨u, _, hr⟩ := h.f t e; exact hr.free 8
theorem SC.cellS {c0 c2 c3 c4 c5 c6 c7 c1 : Value} (h : SC T E W0 P #[c0, c1, c2, c3, c4, c5, c6, c7, v] v ws x σ w) (hk : σ 17 = none) : w.cell? ⟨P, 8, none⟩ = some v := (h.r hk).cell 8 _ rfl
theorem SC.cell8 {c0 c2 c3 c4 c5 c6 c7 c1 : Value} (h : SC T E W0 P #[c0, c1, c2, c3, c4, c5, c6, c7, v] v ws x σ w) (hk : σ 4 = none) : w.cell? ⟨P, 8, none⟩ = some v := (h.r (h.s14 (h.s4 hk))).cell 8 _ rfl
end
theorem runAt_append {Pr : Program} {pl : Bool} {o : Oper} {a : Act} {R : Value → World → Prop} {w w' : World} {s x : Operand} {t : TypeId} {v y u : Value} (ho : o.op = .call { callee := .builtin .append, args := #[s, x], argTypes := #[t, t] })
    (hs : a.eval s = v) (hx : a.eval x = y) (hr : (Builtin.append_ #[t, t] o.type #[v, y]).run Pr w = .ok u w') (h : R u w') : runAt Pr pl o a R w := by
  unfold runAt execOp
  simp only [ho, resolve, invoke, builtin, Sem.run_bind, Sem.run_pure, Result.andThen_ok, List.map_toArray, List.map_cons, List.map_nil, hs, hx, hr]
  exact h
theorem info_parts {T : TypeId} {z : Value} {s b : Nat} (h : (Try.prog.info? T).map (fun i => (i.zero, i.size, i.bytes)) = some (some z, s, b)) : ∃ i, Try.prog.info? T = some i ∧ i.zero = some z ∧ i.size = s ∧ i.bytes = b := by
  cases hi : Try.prog.info? T with
  | none => rw [hi] at h; cases h
  | some i => rw [hi] at h; simp at h; exact ⟨i, rfl, h.1, h.2.1, h.2.2⟩
theorem Try.info35 : (Try.prog.info? 35).map (fun i => (i.zero, i.size, i.bytes)) = some (some (.agg #[.int .i64 0, .int .i64 0, .int .i64 0, .int .i64 0]), 4, 32) := by kernel_rfl
theorem Try.info31 : (Try.prog.info? 31).map (fun i => (i.zero, i.size, i.bytes)) = some (some (.agg #[.int .i64 0, .int .i64 0, .int .i64 0, .int .i64 0]), 4, 32) := by kernel_rfl

set_option maxHeartbeats 8000000 in
theorem say_any {w : World} {P : Nat} {c0 c2 c3 c4 c5 c6 c7 v : Value} {self k t m : Int} {ws : List Wd} (hr : Row w P #[c0, .int .i64 self, c2, c3, c4, c5, c6, c7, v] 69) (hs : Sl 35 w v ws) (hn : P ∉ own v) (hl : ws.length ≤ 1048576) :
    Calls Try.prog 40 #[.pointer (some ⟨P, 0, none⟩), .int .i64 k, .int .i64 t, .int .i64 m] w fun e w' => e = .returned (.tuple #[]) ∧ ∃ u, Row w' P #[c0, .int .i64 self, c2, c3, c4, c5, c6, c7, u] 69 ∧
      Sl 35 w' u (ws ++ [⟨k, self, t, m⟩]) ∧ Kept (P :: own v) w w' ∧ ∀ b ∈ own u, b ∈ own v ∨ w.heap.size ≤ b := by
  obtain ⟨i0, hi, hz0, hz1, hz2⟩ := info_parts Try.info35
  go_enter Try.func40, Try.ntmps40
  refine region_gen (SC 69 35 w P #[c0, .int .i64 self, c2, c3, c4, c5, c6, c7, v] v ws ⟨k, self, t, m⟩) (by kernel_rfl) (by kernel_rfl) (SC.start hr hs hn) ?_
  repeat
    (refine step_gen (by decide) (by rfl) (fun K hK => ?_)
     go_simp
     first
       | (with_reducible apply H1.one
          · intro σ wv hk hd hv
            have Hv := Lib.hid hv
            have c1 := hv.cell1
            have c8 := hv.free8
            try (have z_ := hv.cellS hk)
            clear hv
            go_simp
            (first
              | (with_reducible refine ⟨rfl, ?_⟩; first | (with_reducible exact SC.pure Hv.out (by decide)) | (with_reducible exact SC.store Hv.out (hd.get 14 (List.mem_cons_self ..) (by kernel_rfl)) hk)))
          refine hK _ _ _ ?_
          clear hK K)
       | (with_reducible refine H1.any (v = ·) ⟨_, rfl⟩ ?_ ?_
          · intro σ wv hk hd hv
            have c8 := hv.cell8 hk
            go_simp
            exact hv.load
          intro v_ hv_
          subst hv_
          refine hK _ _ _ ?_
          clear hK K)
       | (with_reducible refine H1.any IsSl ⟨_, IsSl.mk 0⟩ ?_ ?_
          · intro σ wv hk hd hv
            have Hv := Lib.hid hv
            clear hv
            go_simp
            exact ⟨IsSl.mk _, Hv.out.alloc hk⟩
          intro v_ hv_
          obtain ⟨B⟩ := hv_
          refine hK _ _ _ ?_
          clear hK K)
       | (with_reducible refine H1.any IsSlice ⟨_, .mk none 0 0⟩ ?_ ?_
          · intro σ wv hk hd hv
            have h4 := hd.get 4 (List.mem_cons_of_mem _ (List.mem_cons_self ..)) (by kernel_rfl)
            have h13 := hd.get 13 (List.mem_cons_self ..) (by kernel_rfl)
            obtain ⟨B', eB, hB, hb⟩ := hv.b _ h13
            cases eB
            obtain ⟨u, w', hrun, hu, hg, hnew⟩ := run_append_new (P := Try.prog) wv 0 41 41 35 i0 (.agg #[.int .i64 0, .int .i64 0, .int .i64 0, .int .i64 0]) 4 32 Try.underlying41 hi hz0 hz1 hz2 rfl (by decide) v ws.length (wds ws) (hv.o hk) ⟨B, 0, none⟩ 1 1 (wdc ⟨k, self, t, m⟩) rfl
              (by intro j y hj; rcases j with _ | _ | _ | _ | _ <;> first | (cases hj; exact hb.cell _ _ rfl) | cases hj) (by intro y hy; simp [wdc] at hy; rcases hy with rfl | rfl | rfl | rfl <;> rfl) (by simp only [maxLen]; omega) (by omega) (Nat.zero_le _)
            rw [← wds_snoc] at hu
            have hfin := hv.append h4 h13 hk hg (u := u) (by unfold Sl; rw [List.length_append]; exact hu) hnew
            exact runAt_append rfl rfl rfl hrun ⟨own_slice hu, hfin⟩
          intro v_ hv_
          obtain ⟨up, un, uc⟩ := hv_
          refine hK _ _ _ ?_
          clear hK K)
       | (trace_state; fail))
  refine nil_gen ?_
  intro σ w' hall ht hv
  have hn17 := hall 17 (by decide)
  cases e17 : σ 17 with
  | none => rw [e17] at hn17; cases hn17
  | some y =>
    obtain ⟨u, h14, hrw⟩ := hv.f y e17
    obtain ⟨ha, hc⟩ := hv.a u h14
    have hres : Row w' P #[c0, .int .i64 self, c2, c3, c4, c5, c6, c7, u] 69 := hrw.cast (by simp)
    have hkp := hv.keep
    clear hv hall ht hn17 e17 hrw h14
    go_end0
    exact ⟨rfl, u, hres, ha, hkp, hc⟩
set_option maxHeartbeats 8000000 in
theorem rsay_any {w : World} {P : Nat} {c0 c2 c3 c4 c5 c6 c7 v : Value} {self k t m : Int} {ws : List Wd} (hr : Row w P #[c0, .int .i64 self, c2, c3, c4, c5, c6, c7, v] 52) (hs : Sl 31 w v ws) (hn : P ∉ own v) (hl : ws.length ≤ 1048576) :
    Calls Try.prog 42 #[.pointer (some ⟨P, 0, none⟩), .int .i64 k, .int .i64 t, .int .i64 m] w fun e w' => e = .returned (.tuple #[]) ∧ ∃ u, Row w' P #[c0, .int .i64 self, c2, c3, c4, c5, c6, c7, u] 52 ∧
      Sl 31 w' u (ws ++ [⟨k, self, t, m⟩]) ∧ Kept (P :: own v) w w' ∧ ∀ b ∈ own u, b ∈ own v ∨ w.heap.size ≤ b := by
  obtain ⟨i0, hi, hz0, hz1, hz2⟩ := info_parts Try.info31
  go_enter Try.func42, Try.ntmps42
  refine region_gen (SC 52 31 w P #[c0, .int .i64 self, c2, c3, c4, c5, c6, c7, v] v ws ⟨k, self, t, m⟩) (by kernel_rfl) (by kernel_rfl) (SC.start hr hs hn) ?_
  repeat
    (refine step_gen (by decide) (by rfl) (fun K hK => ?_)
     go_simp
     first
       | (with_reducible apply H1.one
          · intro σ wv hk hd hv
            have Hv := Lib.hid hv
            have c1 := hv.cell1
            have c8 := hv.free8
            try (have z_ := hv.cellS hk)
            clear hv
            go_simp
            (first
              | (with_reducible refine ⟨rfl, ?_⟩; first | (with_reducible exact SC.pure Hv.out (by decide)) | (with_reducible exact SC.store Hv.out (hd.get 14 (List.mem_cons_self ..) (by kernel_rfl)) hk)))
          refine hK _ _ _ ?_
          clear hK K)
       | (with_reducible refine H1.any (v = ·) ⟨_, rfl⟩ ?_ ?_
          · intro σ wv hk hd hv
            have c8 := hv.cell8 hk
            go_simp
            exact hv.load
          intro v_ hv_
          subst hv_
          refine hK _ _ _ ?_
          clear hK K)
       | (with_reducible refine H1.any IsSl ⟨_, IsSl.mk 0⟩ ?_ ?_
          · intro σ wv hk hd hv
            have Hv := Lib.hid hv
            clear hv
            go_simp
            exact ⟨IsSl.mk _, Hv.out.alloc hk⟩
          intro v_ hv_
          obtain ⟨B⟩ := hv_
          refine hK _ _ _ ?_
          clear hK K)
       | (with_reducible refine H1.any IsSlice ⟨_, .mk none 0 0⟩ ?_ ?_
          · intro σ wv hk hd hv
            have h4 := hd.get 4 (List.mem_cons_of_mem _ (List.mem_cons_self ..)) (by kernel_rfl)
            have h13 := hd.get 13 (List.mem_cons_self ..) (by kernel_rfl)
            obtain ⟨B', eB, hB, hb⟩ := hv.b _ h13
            cases eB
            obtain ⟨u, w', hrun, hu, hg, hnew⟩ := run_append_new (P := Try.prog) wv 0 39 39 31 i0 (.agg #[.int .i64 0, .int .i64 0, .int .i64 0, .int .i64 0]) 4 32 Try.underlying39 hi hz0 hz1 hz2 rfl (by decide) v ws.length (wds ws) (hv.o hk) ⟨B, 0, none⟩ 1 1 (wdc ⟨k, self, t, m⟩) rfl
              (by intro j y hj; rcases j with _ | _ | _ | _ | _ <;> first | (cases hj; exact hb.cell _ _ rfl) | cases hj) (by intro y hy; simp [wdc] at hy; rcases hy with rfl | rfl | rfl | rfl <;> rfl) (by simp only [maxLen]; omega) (by omega) (Nat.zero_le _)
            rw [← wds_snoc] at hu
            have hfin := hv.append h4 h13 hk hg (u := u) (by unfold Sl; rw [List.length_append]; exact hu) hnew
            exact runAt_append rfl rfl rfl hrun ⟨own_slice hu, hfin⟩
          intro v_ hv_
          obtain ⟨up, un, uc⟩ := hv_
          refine hK _ _ _ ?_
          clear hK K)
       | (trace_state; fail))
  refine nil_gen ?_
  intro σ w' hall ht hv
  have hn17 := hall 17 (by decide)
  cases e17 : σ 17 with
  | none => rw [e17] at hn17; cases hn17
  | some y =>
    obtain ⟨u, h14, hrw⟩ := hv.f y e17
    obtain ⟨ha, hc⟩ := hv.a u h14
    have hres : Row w' P #[c0, .int .i64 self, c2, c3, c4, c5, c6, c7, u] 52 := hrw.cast (by simp)
    have hkp := hv.keep
    clear hv hall ht hn17 e17 hrw h14
    go_end0
    exact ⟨rfl, u, hres, ha, hkp, hc⟩
end Go.Proofs.Ytccmnphjiebiaaa
