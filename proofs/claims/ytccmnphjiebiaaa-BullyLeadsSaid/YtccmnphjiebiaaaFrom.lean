/- The document's words of the program's. Condition: the program's words lie whole in memory; they are not many. -/
import Derived.Test.YtccmnphjiebiaaaWord
namespace Go.Proofs.Ytccmnphjiebiaaa
open Go.RowKit G
set_option linter.unusedVariables false
set_option linter.unusedSimpArgs false
attribute [local go_sem] upon_value upon_skip upon_enter runAt_run
/-- The worlds on the way through one round. -/
structure FC (W0 : World) (u : Value) (xs : List Wd) (y : Wd) (σ : St) (w : World) : Prop where
  keep : Kept (own u) W0 w
  lu : ∀ b ∈ own u, b < W0.heap.size
  s : σ 22 = none → σ 23 = none
  o : σ 23 = none → Sl 31 w u xs
  b : ∀ x, σ 22 = some x → ∃ B, x = .slice (some ⟨B, 0, none⟩) 1 1 ∧ W0.heap.size ≤ B ∧ Row w B (wdc y).toArray 31
  a : ∀ x, σ 23 = some x → Sl 31 w x (xs ++ [y]) ∧ ∀ c ∈ own x, c ∈ own u ∨ W0.heap.size ≤ c
section
variable {W0 w w' : World} {k : Nat} {u z : Value} {xs : List Wd} {y : Wd} {σ : St}
theorem FC.start (hs : Sl 31 W0 u xs) : FC W0 u xs y (fun _ => none) W0.drew :=
  ⟨(Kept.refl _ _).drew, own_lt hs, fun _ => rfl, fun _ => hs, fun _ h => (by cases h), fun _ h => (by cases h)⟩
theorem FC.pure (h : FC W0 u xs y σ w) (hk : k ≠ 22 ∧ k ≠ 23) : FC W0 u xs y (σ.upd k z) w := by
  have e1 : (σ.upd k z) 22 = σ 22 := upd_ne (by omega)
  have e2 : (σ.upd k z) 23 = σ 23 := upd_ne (by omega)
  exact ⟨h.keep, h.lu, by rw [e1, e2]; exact h.s, by rw [e2]; exact h.o, by rw [e1]; exact h.b, by rw [e2]; exact h.a⟩
theorem FC.alloc (h : FC W0 u xs y σ w) (hk : σ 22 = none) : FC W0 u xs y (σ.upd 22 (.slice (some ⟨w.heap.size, 0, none⟩) 1 1)) (w.alloc (.cells (wdc y).toArray 31)) := by
  have e1 : (σ.upd 22 (.slice (some ⟨w.heap.size, 0, none⟩) 1 1)) 22 = some (.slice (some ⟨w.heap.size, 0, none⟩) 1 1) := upd_eq
  have e2 : (σ.upd 22 (.slice (some ⟨w.heap.size, 0, none⟩) 1 1)) 23 = σ 23 := upd_ne (by omega)
  have h23 := h.s hk
  exact ⟨h.keep.alloc _, h.lu, by rw [e1]; exact (fun h => by cases h), fun _ => World.ownsRow.alloc (h.o h23) _,
    by rw [e1]; intro x hx; cases hx; exact ⟨_, rfl, h.keep.size, Row.new _ _ _⟩, by rw [e2, h23]; exact (fun _ h => by cases h)⟩
theorem FC.append (h : FC W0 u xs y σ w) {B : Nat} (hb : σ 22 = some (.slice (some ⟨B, 0, none⟩) 1 1)) (hk : σ 23 = none) (hg : w.grownBy w' u.ownBlock) (hu : Sl 31 w' z (xs ++ [y]))
    (hn : ∀ c ∈ own z, c ∈ own u ∨ w.heap.size ≤ c) : FC W0 u xs y (σ.upd 23 z) w' := by
  have e1 : (σ.upd 23 z) 22 = σ 22 := upd_ne (by omega)
  have e2 : (σ.upd 23 z) 23 = some z := upd_eq
  have hsz := h.keep.size
  refine ⟨h.keep.grown hg (fun b hb => .inl hb), h.lu, by rw [e1, hb]; exact (fun h => by cases h), by rw [e2]; exact (fun h => by cases h), ?_, ?_⟩
  · rw [e1]
    intro x hx
    obtain ⟨B', e, hB, hr⟩ := h.b x hx
    exact ⟨B', e, hB, hr.grownV hg (fun hm => absurd (h.lu _ hm) (by omega))⟩
  · rw [e2]
    intro x hx
    cases hx
    exact ⟨hu, fun c hc => (hn c hc).imp id (fun hh => by omega)⟩
end
theorem WIn.kept {F : List Nat} {w w' : World} {v : Value} {ws : List Wd} (h : WIn w v ws) (hk : Kept F w w') (hl : ∀ b ∈ own v, b < w.heap.size) (hF : ∀ b ∈ own v, b ∉ F) : WIn w' v ws := by
  rcases h with h | ⟨g, cap, rfl, hg⟩
  · exact .inl h
  · refine .inr ⟨g, cap, rfl, fun i y hy => ?_⟩
    have hb := hk.block g (hl g (by simp [own, Value.ownBlock])) (hF g (by simp [own, Value.ownBlock]))
    obtain ⟨a0, a1, a2, a3⟩ := hg i y hy
    unfold World.cell? at a0 a1 a2 a3 ⊢
    simp only at a0 a1 a2 a3 ⊢
    rw [hb]
    exact ⟨a0, a1, a2, a3⟩
set_option maxHeartbeats 4000000 in
theorem from_any {w : World} {v : Value} {ws : List Wd} (h : WIn w v ws) (hl : ∀ b ∈ own v, b < w.heap.size) (hz : ws.length ≤ 1048500) :
    Calls Try.prog 14 #[v] w fun e w' => ∃ u, e = .returned u ∧ Sl 31 w' u ws ∧ Below w.heap.size w w' ∧ ∀ b ∈ own u, w.heap.size ≤ b := by
  obtain ⟨i0, hi, hz0, hz1, hz2⟩ := info_parts Try.info31
  have HW := Lib.hid h
  rcases h with ⟨rfl, rfl⟩ | ⟨g, cap, rfl, hg⟩
  · go_enter Try.func14, Try.ntmps14
    go_wp2
    go_loopw [3, 4] (fun s i wr => s = .slice none 0 0 ∧ i = .int .i64 0 ∧ wr = w) (fun _ i _ => 0)
    case atStart => exact ⟨rfl, rfl, rfl⟩
    case round =>
      obtain ⟨rfl, rfl, rfl⟩ := hrel
      go_wp2
      go_ret
      exact ⟨_, rfl, World.ownsRow_nil _ _ _ _, Below.refl _ _, by simp [own_none]⟩
  · clear hg
    have HL := Lib.hid hl
    clear hl
    go_enter Try.func14, Try.ntmps14
    go_wp2
    go_loopw [3, 4] (fun s i wr => ∃ k : Nat, k ≤ ws.length ∧ i = .int .i64 k ∧ IsSlice s ∧ Sl 31 wr s (ws.take k) ∧ Below w.heap.size w wr ∧ ∀ b ∈ own s, w.heap.size ≤ b) (fun _ i _ => ws.length - (intOf i).toNat)
    case atStart => exact ⟨0, Nat.zero_le _, rfl, .mk _ _ _, World.ownsRow_nil _ _ _ _, Below.refl _ _, by simp [own_none]⟩
    case round =>
      obtain ⟨k, hk, rfl, hsl, hs, hb, hn⟩ := hrel
      by_cases hlt : k < ws.length
      · have hin := HW.out.kept (Kept.of_below (F := []) hb) HL.out (fun _ _ hh => by cases hh)
        rcases hin with ⟨he, -⟩ | ⟨g', cap', he, hg⟩
        · cases he
        cases he
        obtain ⟨a0, a1, a2, a3⟩ := hg k _ (List.getElem?_eq_getElem hlt)
        have htk : ws.take (k + 1) = ws.take k ++ [ws[k]] := by rw [List.take_add_one, List.getElem?_eq_getElem hlt]; rfl
        generalize ws[k] = y at a0 a1 a2 a3 htk
        have HT := Lib.hid htk
        have hgs : g < w.heap.size := HL.out g (by simp [own, Value.ownBlock])
        obtain ⟨p, sn, sc⟩ := hsl
        have hgn : g ∉ own (.slice p sn sc) := fun hm => absurd (hn g hm) (by omega)
        have hgw : g < wr.heap.size := Nat.lt_of_lt_of_le hgs hb.size
        have hlen : (ws.take k).length ≤ 1048500 := by rw [List.length_take]; omega
        have hl1 : (k : Int) < (ws.length : Int) := by omega
        generalize ws.take k = xs at hs htk hlen HT
        clear htk
        have HB := Lib.hid (And.intro hb (And.intro hn (And.intro hgn (And.intro hgw hlen))))
        have HS := Lib.hid hs
        clear hb hn hgn hgw hgs hg hs hlen
        go_upto_region 5 with (fail)
        refine region_gen (FC wr (.slice p sn sc) xs y) (by kernel_rfl) (by kernel_rfl) (FC.start HS.out) ?_
        repeat
          (refine step_gen (by decide) (by rfl) (fun K hK => ?_)
           go_simp
           first
             | (with_reducible apply H1.one
                · intro σ wv hk_ hd hv
                  have Hv := Lib.hid hv
                  have hbl := hv.keep.block g HB.out.2.2.2.1 HB.out.2.2.1
                  have z0 : wv.cell? ⟨g, k * 4, none⟩ = some (.int .i64 y.k) := by unfold World.cell? at a0 ⊢; simp only at a0 ⊢; rw [hbl]; exact a0
                  have z1 : wv.cell? ⟨g, k * 4 + 1, none⟩ = some (.int .i64 y.f) := by unfold World.cell? at a1 ⊢; simp only at a1 ⊢; rw [hbl]; exact a1
                  have z2 : wv.cell? ⟨g, k * 4 + 2, none⟩ = some (.int .i64 y.t) := by unfold World.cell? at a2 ⊢; simp only at a2 ⊢; rw [hbl]; exact a2
                  have z3 : wv.cell? ⟨g, k * 4 + 3, none⟩ = some (.int .i64 y.m) := by unfold World.cell? at a3 ⊢; simp only at a3 ⊢; rw [hbl]; exact a3
                  clear hv hbl
                  go_simp
                  (with_reducible refine ⟨rfl, ?_⟩; exact FC.pure Hv.out (by decide))
                refine hK _ _ _ ?_
                clear hK K)
             | (with_reducible refine H1.any IsSl ⟨_, IsSl.mk 0⟩ ?_ ?_
                · intro σ wv hk_ hd hv
                  have Hv := Lib.hid hv
                  clear hv
                  go_simp
                  exact ⟨IsSl.mk _, Hv.out.alloc hk_⟩
                intro v_ hv_
                obtain ⟨B⟩ := hv_
                refine hK _ _ _ ?_
                clear hK K)
             | (with_reducible refine H1.any IsSlice ⟨_, .mk none 0 0⟩ ?_ ?_
                · intro σ wv hk_ hd hv
                  have h22 := hd.get 22 (List.mem_cons_self ..) (by kernel_rfl)
                  obtain ⟨B', eB, hB, hbb⟩ := hv.b _ h22
                  cases eB
                  obtain ⟨u, w', hrun, hu, hg, hnew⟩ := run_append_new (P := Try.prog) wv 0 39 39 31 i0 (.agg #[.int .i64 0, .int .i64 0, .int .i64 0, .int .i64 0]) 4 32 Try.underlying39 hi hz0 hz1 hz2 rfl (by decide) (.slice p sn sc) xs.length (wds xs) (hv.o hk_) ⟨B, 0, none⟩ 1 1 (wdc y) rfl
                    (by intro j z hj; rcases j with _ | _ | _ | _ | _ <;> first | (cases hj; exact hbb.cell _ _ rfl) | cases hj) (by intro z hz; simp [wdc] at hz; rcases hz with rfl | rfl | rfl | rfl <;> rfl) (by have := HB.out.2.2.2.2; simp only [maxLen]; omega) (by have := HB.out.2.2.2.2; omega) (Nat.zero_le _)
                  rw [← wds_snoc] at hu
                  have hfin := hv.append h22 hk_ hg (z := u) (by unfold Sl; rw [List.length_append]; exact hu) hnew
                  exact runAt_append rfl rfl rfl hrun ⟨own_slice hu, hfin⟩
                intro v_ hv_
                obtain ⟨up, un, uc⟩ := hv_
                refine hK _ _ _ ?_
                clear hK K)
             | (trace_state; fail))
        refine nil_gen ?_
        intro σ w' hall ht hv
        have h23 := ht (23, .slice up un uc) (by simp)
        obtain ⟨ha, hc⟩ := hv.a _ h23
        have hkp := hv.keep
        have HR := Lib.hid (And.intro ha (And.intro hc hkp))
        clear ha hc hkp hv hall ht h23 σ
        go_wp2
        go_roundw
        case rel =>
          refine ⟨k + 1, by omega, by go_num, .mk _ _ _, by rw [HT.out]; exact HR.out.1, ?_, ?_⟩
          · refine HB.out.1.trans ((HR.out.2.2).toBelow (fun b hb => HB.out.2.1 b hb) HB.out.1.size)
          · intro b hb
            rcases HR.out.2.1 b hb with h1 | h1
            · exact HB.out.2.1 b h1
            · exact Nat.le_trans HB.out.1.size h1
        case measure => simp [intOf]; omega
      · obtain rfl : k = ws.length := by omega
        rw [List.take_length] at hs
        have HF := Lib.hid (And.intro hs (And.intro hb hn))
        obtain ⟨p, sn, sc⟩ := hsl
        clear hs hb hn
        go_wp2
        go_ret
        exact ⟨_, rfl, HF.out⟩
end Go.Proofs.Ytccmnphjiebiaaa
