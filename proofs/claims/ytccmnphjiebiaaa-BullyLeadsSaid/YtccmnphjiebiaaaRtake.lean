/- The reference's node takes a word. Conditions: the node and its detector lie whole in memory; not many words wait. -/
import Derived.Test.YtccmnphjiebiaaaTs
namespace Go.Proofs.Ytccmnphjiebiaaa
open Go.RowKit G
set_option linter.unusedVariables false
set_option linter.unusedSimpArgs false
attribute [local go_sem] upon_value upon_skip upon_enter runAt_run
def Nd.rtake (x : Nd) (y : Wd) : Nd :=
  if y.k = 1 then (if x.self < y.f then x else if x.role = 0 then (x.say 2 y.f 0).ask else x.say 2 y.f 0)
  else if y.k = 2 then (if x.role = 1 then x.turn 2 else x)
  else if x.term ≤ y.m then { x with term := y.m, lead := y.f, role := 0 } else x
set_option maxRecDepth 100000 in
set_option maxHeartbeats 4000000 in
theorem rtake_r0 {w : World} {P D n : Nat} {v : Value} {self wait role lead term ticks : Int} {ws : List Wd} {every now : Nat} {limit : Int} {xs ats : List Int} (h : RAt w P D v n ⟨⟨n, self, wait, role, lead, term, ticks, ws⟩, every, limit, now, ats⟩) (hs : Sync xs ats n self limit now) (k f t m : Int)
    (hn0 : 0 ≤ self) (hn1 : self < n) (hn8 : n ≤ 8) (hws : ws.length ≤ 1048000) (h1 : t ≠ self) :
    Calls Try.prog 12 #[.pointer (some ⟨P, 0, none⟩), .agg #[.int .i64 k, .int .i64 f, .int .i64 t, .int .i64 m]] w fun e w' => e = .returned (.int .i64 1) ∧ ∃ u, RAt w' P D u n ⟨⟨n, self, wait, role, lead, term, ticks, ws⟩, every, limit, now, ats⟩ ∧ Stp (rfp P D v) (rfp P D u) w w' := by
  have HB := Lib.hid (And.intro hn0 (And.intro hn1 (And.intro hn8 hws)))
  have HS := Lib.hid hs
  have hb1 : (t == self) = false := by simp [h1]
  clear hs hn0 hn1 hn8 hws
  go_enter Try.func12, Try.ntmps12
  go_upto_region 1 with (fail)
  have HT := Lib.hid (RTS.start h #[.int .i64 k, .int .i64 f, .int .i64 t, .int .i64 m])
  clear h
  generalize w.alloc (.cells #[.int .i64 k, .int .i64 f, .int .i64 t, .int .i64 m] 31) = wc at HT ⊢
  generalize w.heap.size = B at HT ⊢
  have c0 : wc.cell? ⟨P, 0, none⟩ = some (.int .i64 n) := HT.out.p.nd.r.cell 0 _ rfl
  have c1 : wc.cell? ⟨P, 1, none⟩ = some (.int .i64 self) := HT.out.p.nd.r.cell 1 _ rfl
  have c3 : wc.cell? ⟨P, 3, none⟩ = some (.int .i64 role) := HT.out.p.nd.r.cell 3 _ rfl
  have c4 : wc.cell? ⟨P, 4, none⟩ = some (.int .i64 lead) := HT.out.p.nd.r.cell 4 _ rfl
  have c5 : wc.cell? ⟨P, 5, none⟩ = some (.int .i64 term) := HT.out.p.nd.r.cell 5 _ rfl
  have c6 : wc.cell? ⟨P, 6, none⟩ = some (.int .i64 ticks) := HT.out.p.nd.r.cell 6 _ rfl
  have c7 : wc.cell? ⟨P, 7, none⟩ = some (ptr D) := HT.out.p.nd.r.cell 7 _ rfl
  have cf : ∀ i, wc.frozen? ⟨P, i, none⟩ = false := HT.out.p.nd.r.free
  have b0 : wc.cell? ⟨B, 0, none⟩ = some (.int .i64 k) := HT.out.b.cell 0 _ rfl
  have b1 : wc.cell? ⟨B, 1, none⟩ = some (.int .i64 f) := HT.out.b.cell 1 _ rfl
  have b2 : wc.cell? ⟨B, 2, none⟩ = some (.int .i64 t) := HT.out.b.cell 2 _ rfl
  have b3 : wc.cell? ⟨B, 3, none⟩ = some (.int .i64 m) := HT.out.b.cell 3 _ rfl
  refine region_gen (Rd wc) (by kernel_rfl) (by kernel_rfl) (Rd.start _) ?_
  repeat
    (refine step_gen (by decide) (by rfl) (fun K hK => ?_)
     go_simp
     first
       | (with_reducible refine Sk.of Rd.skips ?_
          refine hK _ _ _ ?_
          clear hK K)
       | (with_reducible apply H1.one
          · intro σ wv hk hd hv
            obtain ⟨⟨m_, rfl⟩⟩ := hv
            go_simp
            (with_reducible refine ⟨rfl, ?_⟩)
            exact ⟨m_, rfl⟩
          refine hK _ _ _ ?_
          clear hK K))
  refine nil_gen ?_
  rintro σ wv - - ⟨⟨nq, rfl⟩⟩
  clear σ
  have HT2 := Lib.hid (HT.out.drewN nq)
  clear HT
  generalize wc.drewN nq = w1 at HT2 ⊢
  clear c0 c1 c3 c4 c5 c6 c7 cf b0 b1 b2 b3
  have HT := HT2
  clear HT2
  have c0 : w1.cell? ⟨P, 0, none⟩ = some (.int .i64 n) := HT.out.p.nd.r.cell 0 _ rfl
  have c1 : w1.cell? ⟨P, 1, none⟩ = some (.int .i64 self) := HT.out.p.nd.r.cell 1 _ rfl
  have c3 : w1.cell? ⟨P, 3, none⟩ = some (.int .i64 role) := HT.out.p.nd.r.cell 3 _ rfl
  have c4 : w1.cell? ⟨P, 4, none⟩ = some (.int .i64 lead) := HT.out.p.nd.r.cell 4 _ rfl
  have c5 : w1.cell? ⟨P, 5, none⟩ = some (.int .i64 term) := HT.out.p.nd.r.cell 5 _ rfl
  have c6 : w1.cell? ⟨P, 6, none⟩ = some (.int .i64 ticks) := HT.out.p.nd.r.cell 6 _ rfl
  have c7 : w1.cell? ⟨P, 7, none⟩ = some (ptr D) := HT.out.p.nd.r.cell 7 _ rfl
  have cf : ∀ i, w1.frozen? ⟨P, i, none⟩ = false := HT.out.p.nd.r.free
  have b0 : w1.cell? ⟨B, 0, none⟩ = some (.int .i64 k) := HT.out.b.cell 0 _ rfl
  have b1 : w1.cell? ⟨B, 1, none⟩ = some (.int .i64 f) := HT.out.b.cell 1 _ rfl
  have b2 : w1.cell? ⟨B, 2, none⟩ = some (.int .i64 t) := HT.out.b.cell 2 _ rfl
  have b3 : w1.cell? ⟨B, 3, none⟩ = some (.int .i64 m) := HT.out.b.cell 3 _ rfl
  go_wp2
  go_ret
  exact ⟨rfl, _, HT.out.p, HT.out.u⟩
set_option maxRecDepth 100000 in
set_option maxHeartbeats 4000000 in
theorem rtake_r1 {w : World} {P D n : Nat} {v : Value} {self wait role lead term ticks : Int} {ws : List Wd} {every now : Nat} {limit : Int} {xs ats : List Int} (h : RAt w P D v n ⟨⟨n, self, wait, role, lead, term, ticks, ws⟩, every, limit, now, ats⟩) (hs : Sync xs ats n self limit now) (k f m : Int)
    (hn0 : 0 ≤ self) (hn1 : self < n) (hn8 : n ≤ 8) (hws : ws.length ≤ 1048000) (h1 : f < 0) :
    Calls Try.prog 12 #[.pointer (some ⟨P, 0, none⟩), .agg #[.int .i64 k, .int .i64 f, .int .i64 self, .int .i64 m]] w fun e w' => e = .returned (.int .i64 1) ∧ ∃ u, RAt w' P D u n ⟨⟨n, self, wait, role, lead, term, ticks, ws⟩, every, limit, now, ats⟩ ∧ Stp (rfp P D v) (rfp P D u) w w' := by
  have HB := Lib.hid (And.intro hn0 (And.intro hn1 (And.intro hn8 hws)))
  have HS := Lib.hid hs
  clear hs hn0 hn1 hn8 hws
  go_enter Try.func12, Try.ntmps12
  go_upto_region 1 with (fail)
  have HT := Lib.hid (RTS.start h #[.int .i64 k, .int .i64 f, .int .i64 self, .int .i64 m])
  clear h
  generalize w.alloc (.cells #[.int .i64 k, .int .i64 f, .int .i64 self, .int .i64 m] 31) = wc at HT ⊢
  generalize w.heap.size = B at HT ⊢
  have c0 : wc.cell? ⟨P, 0, none⟩ = some (.int .i64 n) := HT.out.p.nd.r.cell 0 _ rfl
  have c1 : wc.cell? ⟨P, 1, none⟩ = some (.int .i64 self) := HT.out.p.nd.r.cell 1 _ rfl
  have c3 : wc.cell? ⟨P, 3, none⟩ = some (.int .i64 role) := HT.out.p.nd.r.cell 3 _ rfl
  have c4 : wc.cell? ⟨P, 4, none⟩ = some (.int .i64 lead) := HT.out.p.nd.r.cell 4 _ rfl
  have c5 : wc.cell? ⟨P, 5, none⟩ = some (.int .i64 term) := HT.out.p.nd.r.cell 5 _ rfl
  have c6 : wc.cell? ⟨P, 6, none⟩ = some (.int .i64 ticks) := HT.out.p.nd.r.cell 6 _ rfl
  have c7 : wc.cell? ⟨P, 7, none⟩ = some (ptr D) := HT.out.p.nd.r.cell 7 _ rfl
  have cf : ∀ i, wc.frozen? ⟨P, i, none⟩ = false := HT.out.p.nd.r.free
  have b0 : wc.cell? ⟨B, 0, none⟩ = some (.int .i64 k) := HT.out.b.cell 0 _ rfl
  have b1 : wc.cell? ⟨B, 1, none⟩ = some (.int .i64 f) := HT.out.b.cell 1 _ rfl
  have b2 : wc.cell? ⟨B, 2, none⟩ = some (.int .i64 self) := HT.out.b.cell 2 _ rfl
  have b3 : wc.cell? ⟨B, 3, none⟩ = some (.int .i64 m) := HT.out.b.cell 3 _ rfl
  refine region_gen (Rd wc) (by kernel_rfl) (by kernel_rfl) (Rd.start _) ?_
  repeat
    (refine step_gen (by decide) (by rfl) (fun K hK => ?_)
     go_simp
     first
       | (with_reducible refine Sk.of Rd.skips ?_
          refine hK _ _ _ ?_
          clear hK K)
       | (with_reducible apply H1.one
          · intro σ wv hk hd hv
            obtain ⟨⟨m_, rfl⟩⟩ := hv
            go_simp
            (with_reducible refine ⟨rfl, ?_⟩)
            exact ⟨m_, rfl⟩
          refine hK _ _ _ ?_
          clear hK K))
  refine nil_gen ?_
  rintro σ wv - - ⟨⟨nq, rfl⟩⟩
  clear σ
  have HT2 := Lib.hid (HT.out.drewN nq)
  clear HT
  generalize wc.drewN nq = w1 at HT2 ⊢
  clear c0 c1 c3 c4 c5 c6 c7 cf b0 b1 b2 b3
  have HT := HT2
  clear HT2
  have c0 : w1.cell? ⟨P, 0, none⟩ = some (.int .i64 n) := HT.out.p.nd.r.cell 0 _ rfl
  have c1 : w1.cell? ⟨P, 1, none⟩ = some (.int .i64 self) := HT.out.p.nd.r.cell 1 _ rfl
  have c3 : w1.cell? ⟨P, 3, none⟩ = some (.int .i64 role) := HT.out.p.nd.r.cell 3 _ rfl
  have c4 : w1.cell? ⟨P, 4, none⟩ = some (.int .i64 lead) := HT.out.p.nd.r.cell 4 _ rfl
  have c5 : w1.cell? ⟨P, 5, none⟩ = some (.int .i64 term) := HT.out.p.nd.r.cell 5 _ rfl
  have c6 : w1.cell? ⟨P, 6, none⟩ = some (.int .i64 ticks) := HT.out.p.nd.r.cell 6 _ rfl
  have c7 : w1.cell? ⟨P, 7, none⟩ = some (ptr D) := HT.out.p.nd.r.cell 7 _ rfl
  have cf : ∀ i, w1.frozen? ⟨P, i, none⟩ = false := HT.out.p.nd.r.free
  have b0 : w1.cell? ⟨B, 0, none⟩ = some (.int .i64 k) := HT.out.b.cell 0 _ rfl
  have b1 : w1.cell? ⟨B, 1, none⟩ = some (.int .i64 f) := HT.out.b.cell 1 _ rfl
  have b2 : w1.cell? ⟨B, 2, none⟩ = some (.int .i64 self) := HT.out.b.cell 2 _ rfl
  have b3 : w1.cell? ⟨B, 3, none⟩ = some (.int .i64 m) := HT.out.b.cell 3 _ rfl
  go_wp2
  go_ret
  exact ⟨rfl, _, HT.out.p, HT.out.u⟩
set_option maxRecDepth 100000 in
set_option maxHeartbeats 4000000 in
theorem rtake_r2 {w : World} {P D n : Nat} {v : Value} {self wait role lead term ticks : Int} {ws : List Wd} {every now : Nat} {limit : Int} {xs ats : List Int} (h : RAt w P D v n ⟨⟨n, self, wait, role, lead, term, ticks, ws⟩, every, limit, now, ats⟩) (hs : Sync xs ats n self limit now) (k f m : Int)
    (hn0 : 0 ≤ self) (hn1 : self < n) (hn8 : n ≤ 8) (hws : ws.length ≤ 1048000) (h1 : ¬ f < 0) (h2 : n ≤ f) :
    Calls Try.prog 12 #[.pointer (some ⟨P, 0, none⟩), .agg #[.int .i64 k, .int .i64 f, .int .i64 self, .int .i64 m]] w fun e w' => e = .returned (.int .i64 1) ∧ ∃ u, RAt w' P D u n ⟨⟨n, self, wait, role, lead, term, ticks, ws⟩, every, limit, now, ats⟩ ∧ Stp (rfp P D v) (rfp P D u) w w' := by
  have HB := Lib.hid (And.intro hn0 (And.intro hn1 (And.intro hn8 hws)))
  have HS := Lib.hid hs
  clear hs hn0 hn1 hn8 hws
  go_enter Try.func12, Try.ntmps12
  go_upto_region 1 with (fail)
  have HT := Lib.hid (RTS.start h #[.int .i64 k, .int .i64 f, .int .i64 self, .int .i64 m])
  clear h
  generalize w.alloc (.cells #[.int .i64 k, .int .i64 f, .int .i64 self, .int .i64 m] 31) = wc at HT ⊢
  generalize w.heap.size = B at HT ⊢
  have c0 : wc.cell? ⟨P, 0, none⟩ = some (.int .i64 n) := HT.out.p.nd.r.cell 0 _ rfl
  have c1 : wc.cell? ⟨P, 1, none⟩ = some (.int .i64 self) := HT.out.p.nd.r.cell 1 _ rfl
  have c3 : wc.cell? ⟨P, 3, none⟩ = some (.int .i64 role) := HT.out.p.nd.r.cell 3 _ rfl
  have c4 : wc.cell? ⟨P, 4, none⟩ = some (.int .i64 lead) := HT.out.p.nd.r.cell 4 _ rfl
  have c5 : wc.cell? ⟨P, 5, none⟩ = some (.int .i64 term) := HT.out.p.nd.r.cell 5 _ rfl
  have c6 : wc.cell? ⟨P, 6, none⟩ = some (.int .i64 ticks) := HT.out.p.nd.r.cell 6 _ rfl
  have c7 : wc.cell? ⟨P, 7, none⟩ = some (ptr D) := HT.out.p.nd.r.cell 7 _ rfl
  have cf : ∀ i, wc.frozen? ⟨P, i, none⟩ = false := HT.out.p.nd.r.free
  have b0 : wc.cell? ⟨B, 0, none⟩ = some (.int .i64 k) := HT.out.b.cell 0 _ rfl
  have b1 : wc.cell? ⟨B, 1, none⟩ = some (.int .i64 f) := HT.out.b.cell 1 _ rfl
  have b2 : wc.cell? ⟨B, 2, none⟩ = some (.int .i64 self) := HT.out.b.cell 2 _ rfl
  have b3 : wc.cell? ⟨B, 3, none⟩ = some (.int .i64 m) := HT.out.b.cell 3 _ rfl
  refine region_gen (Rd wc) (by kernel_rfl) (by kernel_rfl) (Rd.start _) ?_
  repeat
    (refine step_gen (by decide) (by rfl) (fun K hK => ?_)
     go_simp
     first
       | (with_reducible refine Sk.of Rd.skips ?_
          refine hK _ _ _ ?_
          clear hK K)
       | (with_reducible apply H1.one
          · intro σ wv hk hd hv
            obtain ⟨⟨m_, rfl⟩⟩ := hv
            go_simp
            (with_reducible refine ⟨rfl, ?_⟩)
            exact ⟨m_, rfl⟩
          refine hK _ _ _ ?_
          clear hK K))
  refine nil_gen ?_
  rintro σ wv - - ⟨⟨nq, rfl⟩⟩
  clear σ
  have HT2 := Lib.hid (HT.out.drewN nq)
  clear HT
  generalize wc.drewN nq = w1 at HT2 ⊢
  clear c0 c1 c3 c4 c5 c6 c7 cf b0 b1 b2 b3
  have HT := HT2
  clear HT2
  have c0 : w1.cell? ⟨P, 0, none⟩ = some (.int .i64 n) := HT.out.p.nd.r.cell 0 _ rfl
  have c1 : w1.cell? ⟨P, 1, none⟩ = some (.int .i64 self) := HT.out.p.nd.r.cell 1 _ rfl
  have c3 : w1.cell? ⟨P, 3, none⟩ = some (.int .i64 role) := HT.out.p.nd.r.cell 3 _ rfl
  have c4 : w1.cell? ⟨P, 4, none⟩ = some (.int .i64 lead) := HT.out.p.nd.r.cell 4 _ rfl
  have c5 : w1.cell? ⟨P, 5, none⟩ = some (.int .i64 term) := HT.out.p.nd.r.cell 5 _ rfl
  have c6 : w1.cell? ⟨P, 6, none⟩ = some (.int .i64 ticks) := HT.out.p.nd.r.cell 6 _ rfl
  have c7 : w1.cell? ⟨P, 7, none⟩ = some (ptr D) := HT.out.p.nd.r.cell 7 _ rfl
  have cf : ∀ i, w1.frozen? ⟨P, i, none⟩ = false := HT.out.p.nd.r.free
  have b0 : w1.cell? ⟨B, 0, none⟩ = some (.int .i64 k) := HT.out.b.cell 0 _ rfl
  have b1 : w1.cell? ⟨B, 1, none⟩ = some (.int .i64 f) := HT.out.b.cell 1 _ rfl
  have b2 : w1.cell? ⟨B, 2, none⟩ = some (.int .i64 self) := HT.out.b.cell 2 _ rfl
  have b3 : w1.cell? ⟨B, 3, none⟩ = some (.int .i64 m) := HT.out.b.cell 3 _ rfl
  go_wp2
  go_ret
  exact ⟨rfl, _, HT.out.p, HT.out.u⟩
set_option maxRecDepth 100000 in
set_option maxHeartbeats 4000000 in
theorem rtake_r3 {w : World} {P D n : Nat} {v : Value} {self wait role lead term ticks : Int} {ws : List Wd} {every now : Nat} {limit : Int} {xs ats : List Int} (h : RAt w P D v n ⟨⟨n, self, wait, role, lead, term, ticks, ws⟩, every, limit, now, ats⟩) (hs : Sync xs ats n self limit now) (k m : Int)
    (hn0 : 0 ≤ self) (hn1 : self < n) (hn8 : n ≤ 8) (hws : ws.length ≤ 1048000) (h1 : ¬ self < 0) (h2 : ¬ n ≤ self) :
    Calls Try.prog 12 #[.pointer (some ⟨P, 0, none⟩), .agg #[.int .i64 k, .int .i64 self, .int .i64 self, .int .i64 m]] w fun e w' => e = .returned (.int .i64 1) ∧ ∃ u, RAt w' P D u n ⟨⟨n, self, wait, role, lead, term, ticks, ws⟩, every, limit, now, ats⟩ ∧ Stp (rfp P D v) (rfp P D u) w w' := by
  have HB := Lib.hid (And.intro hn0 (And.intro hn1 (And.intro hn8 hws)))
  have HS := Lib.hid hs
  clear hs hn0 hn1 hn8 hws
  go_enter Try.func12, Try.ntmps12
  go_upto_region 1 with (fail)
  have HT := Lib.hid (RTS.start h #[.int .i64 k, .int .i64 self, .int .i64 self, .int .i64 m])
  clear h
  generalize w.alloc (.cells #[.int .i64 k, .int .i64 self, .int .i64 self, .int .i64 m] 31) = wc at HT ⊢
  generalize w.heap.size = B at HT ⊢
  have c0 : wc.cell? ⟨P, 0, none⟩ = some (.int .i64 n) := HT.out.p.nd.r.cell 0 _ rfl
  have c1 : wc.cell? ⟨P, 1, none⟩ = some (.int .i64 self) := HT.out.p.nd.r.cell 1 _ rfl
  have c3 : wc.cell? ⟨P, 3, none⟩ = some (.int .i64 role) := HT.out.p.nd.r.cell 3 _ rfl
  have c4 : wc.cell? ⟨P, 4, none⟩ = some (.int .i64 lead) := HT.out.p.nd.r.cell 4 _ rfl
  have c5 : wc.cell? ⟨P, 5, none⟩ = some (.int .i64 term) := HT.out.p.nd.r.cell 5 _ rfl
  have c6 : wc.cell? ⟨P, 6, none⟩ = some (.int .i64 ticks) := HT.out.p.nd.r.cell 6 _ rfl
  have c7 : wc.cell? ⟨P, 7, none⟩ = some (ptr D) := HT.out.p.nd.r.cell 7 _ rfl
  have cf : ∀ i, wc.frozen? ⟨P, i, none⟩ = false := HT.out.p.nd.r.free
  have b0 : wc.cell? ⟨B, 0, none⟩ = some (.int .i64 k) := HT.out.b.cell 0 _ rfl
  have b1 : wc.cell? ⟨B, 1, none⟩ = some (.int .i64 self) := HT.out.b.cell 1 _ rfl
  have b2 : wc.cell? ⟨B, 2, none⟩ = some (.int .i64 self) := HT.out.b.cell 2 _ rfl
  have b3 : wc.cell? ⟨B, 3, none⟩ = some (.int .i64 m) := HT.out.b.cell 3 _ rfl
  refine region_gen (Rd wc) (by kernel_rfl) (by kernel_rfl) (Rd.start _) ?_
  repeat
    (refine step_gen (by decide) (by rfl) (fun K hK => ?_)
     go_simp
     first
       | (with_reducible refine Sk.of Rd.skips ?_
          refine hK _ _ _ ?_
          clear hK K)
       | (with_reducible apply H1.one
          · intro σ wv hk hd hv
            obtain ⟨⟨m_, rfl⟩⟩ := hv
            go_simp
            (with_reducible refine ⟨rfl, ?_⟩)
            exact ⟨m_, rfl⟩
          refine hK _ _ _ ?_
          clear hK K))
  refine nil_gen ?_
  rintro σ wv - - ⟨⟨nq, rfl⟩⟩
  clear σ
  have HT2 := Lib.hid (HT.out.drewN nq)
  clear HT
  generalize wc.drewN nq = w1 at HT2 ⊢
  clear c0 c1 c3 c4 c5 c6 c7 cf b0 b1 b2 b3
  have HT := HT2
  clear HT2
  have c0 : w1.cell? ⟨P, 0, none⟩ = some (.int .i64 n) := HT.out.p.nd.r.cell 0 _ rfl
  have c1 : w1.cell? ⟨P, 1, none⟩ = some (.int .i64 self) := HT.out.p.nd.r.cell 1 _ rfl
  have c3 : w1.cell? ⟨P, 3, none⟩ = some (.int .i64 role) := HT.out.p.nd.r.cell 3 _ rfl
  have c4 : w1.cell? ⟨P, 4, none⟩ = some (.int .i64 lead) := HT.out.p.nd.r.cell 4 _ rfl
  have c5 : w1.cell? ⟨P, 5, none⟩ = some (.int .i64 term) := HT.out.p.nd.r.cell 5 _ rfl
  have c6 : w1.cell? ⟨P, 6, none⟩ = some (.int .i64 ticks) := HT.out.p.nd.r.cell 6 _ rfl
  have c7 : w1.cell? ⟨P, 7, none⟩ = some (ptr D) := HT.out.p.nd.r.cell 7 _ rfl
  have cf : ∀ i, w1.frozen? ⟨P, i, none⟩ = false := HT.out.p.nd.r.free
  have b0 : w1.cell? ⟨B, 0, none⟩ = some (.int .i64 k) := HT.out.b.cell 0 _ rfl
  have b1 : w1.cell? ⟨B, 1, none⟩ = some (.int .i64 self) := HT.out.b.cell 1 _ rfl
  have b2 : w1.cell? ⟨B, 2, none⟩ = some (.int .i64 self) := HT.out.b.cell 2 _ rfl
  have b3 : w1.cell? ⟨B, 3, none⟩ = some (.int .i64 m) := HT.out.b.cell 3 _ rfl
  go_wp2
  go_ret
  exact ⟨rfl, _, HT.out.p, HT.out.u⟩
set_option maxRecDepth 100000 in
set_option maxHeartbeats 4000000 in
theorem rtake_6 {w : World} {P D n : Nat} {v : Value} {self wait role lead term ticks : Int} {ws : List Wd} {every now : Nat} {limit : Int} {xs ats : List Int} (h : RAt w P D v n ⟨⟨n, self, wait, role, lead, term, ticks, ws⟩, every, limit, now, ats⟩) (hs : Sync xs ats n self limit now) (k f m : Int)
    (hn0 : 0 ≤ self) (hn1 : self < n) (hn8 : n ≤ 8) (hws : ws.length ≤ 1048000) (hq1 : ¬ f < 0) (hq2 : ¬ n ≤ f) (hq0 : f ≠ self) (h6 : k < 1 ∨ 3 < k ∨ m < 0 ∨ 1073741824 < m ∨ ((k = 3) ≠ (0 < m))) :
    Calls Try.prog 12 #[.pointer (some ⟨P, 0, none⟩), .agg #[.int .i64 k, .int .i64 f, .int .i64 self, .int .i64 m]] w fun e w' => e = .returned (.int .i64 6) ∧ ∃ u, RAt w' P D u n ⟨⟨n, self, wait, role, lead, term, ticks, ws⟩, every, limit, now, ats⟩ ∧ Stp (rfp P D v) (rfp P D u) w w' := by
  have HB := Lib.hid (And.intro hn0 (And.intro hn1 (And.intro hn8 hws)))
  have HS := Lib.hid hs
  have hbq : (f == self) = false := by simp [hq0]
  clear hq0
  have H6 := Lib.hid h6
  clear h6
  clear hs hn0 hn1 hn8 hws
  go_enter Try.func12, Try.ntmps12
  go_upto_region 1 with (fail)
  have HT := Lib.hid (RTS.start h #[.int .i64 k, .int .i64 f, .int .i64 self, .int .i64 m])
  clear h
  generalize w.alloc (.cells #[.int .i64 k, .int .i64 f, .int .i64 self, .int .i64 m] 31) = wc at HT ⊢
  generalize w.heap.size = B at HT ⊢
  have c0 : wc.cell? ⟨P, 0, none⟩ = some (.int .i64 n) := HT.out.p.nd.r.cell 0 _ rfl
  have c1 : wc.cell? ⟨P, 1, none⟩ = some (.int .i64 self) := HT.out.p.nd.r.cell 1 _ rfl
  have c3 : wc.cell? ⟨P, 3, none⟩ = some (.int .i64 role) := HT.out.p.nd.r.cell 3 _ rfl
  have c4 : wc.cell? ⟨P, 4, none⟩ = some (.int .i64 lead) := HT.out.p.nd.r.cell 4 _ rfl
  have c5 : wc.cell? ⟨P, 5, none⟩ = some (.int .i64 term) := HT.out.p.nd.r.cell 5 _ rfl
  have c6 : wc.cell? ⟨P, 6, none⟩ = some (.int .i64 ticks) := HT.out.p.nd.r.cell 6 _ rfl
  have c7 : wc.cell? ⟨P, 7, none⟩ = some (ptr D) := HT.out.p.nd.r.cell 7 _ rfl
  have cf : ∀ i, wc.frozen? ⟨P, i, none⟩ = false := HT.out.p.nd.r.free
  have b0 : wc.cell? ⟨B, 0, none⟩ = some (.int .i64 k) := HT.out.b.cell 0 _ rfl
  have b1 : wc.cell? ⟨B, 1, none⟩ = some (.int .i64 f) := HT.out.b.cell 1 _ rfl
  have b2 : wc.cell? ⟨B, 2, none⟩ = some (.int .i64 self) := HT.out.b.cell 2 _ rfl
  have b3 : wc.cell? ⟨B, 3, none⟩ = some (.int .i64 m) := HT.out.b.cell 3 _ rfl
  refine region_gen (Rd wc) (by kernel_rfl) (by kernel_rfl) (Rd.start _) ?_
  repeat
    (refine step_gen (by decide) (by rfl) (fun K hK => ?_)
     go_simp
     first
       | (with_reducible refine Sk.of Rd.skips ?_
          refine hK _ _ _ ?_
          clear hK K)
       | (with_reducible apply H1.one
          · intro σ wv hk hd hv
            obtain ⟨⟨m_, rfl⟩⟩ := hv
            go_simp
            (with_reducible refine ⟨rfl, ?_⟩)
            exact ⟨m_, rfl⟩
          refine hK _ _ _ ?_
          clear hK K))
  refine nil_gen ?_
  rintro σ wv - - ⟨⟨nq, rfl⟩⟩
  clear σ
  have HT2 := Lib.hid (HT.out.drewN nq)
  clear HT
  generalize wc.drewN nq = w1 at HT2 ⊢
  clear c0 c1 c3 c4 c5 c6 c7 cf b0 b1 b2 b3
  have HT := HT2
  clear HT2
  have c0 : w1.cell? ⟨P, 0, none⟩ = some (.int .i64 n) := HT.out.p.nd.r.cell 0 _ rfl
  have c1 : w1.cell? ⟨P, 1, none⟩ = some (.int .i64 self) := HT.out.p.nd.r.cell 1 _ rfl
  have c3 : w1.cell? ⟨P, 3, none⟩ = some (.int .i64 role) := HT.out.p.nd.r.cell 3 _ rfl
  have c4 : w1.cell? ⟨P, 4, none⟩ = some (.int .i64 lead) := HT.out.p.nd.r.cell 4 _ rfl
  have c5 : w1.cell? ⟨P, 5, none⟩ = some (.int .i64 term) := HT.out.p.nd.r.cell 5 _ rfl
  have c6 : w1.cell? ⟨P, 6, none⟩ = some (.int .i64 ticks) := HT.out.p.nd.r.cell 6 _ rfl
  have c7 : w1.cell? ⟨P, 7, none⟩ = some (ptr D) := HT.out.p.nd.r.cell 7 _ rfl
  have cf : ∀ i, w1.frozen? ⟨P, i, none⟩ = false := HT.out.p.nd.r.free
  have b0 : w1.cell? ⟨B, 0, none⟩ = some (.int .i64 k) := HT.out.b.cell 0 _ rfl
  have b1 : w1.cell? ⟨B, 1, none⟩ = some (.int .i64 f) := HT.out.b.cell 1 _ rfl
  have b2 : w1.cell? ⟨B, 2, none⟩ = some (.int .i64 self) := HT.out.b.cell 2 _ rfl
  have b3 : w1.cell? ⟨B, 3, none⟩ = some (.int .i64 m) := HT.out.b.cell 3 _ rfl
  go_wp2
  all_goals
    have hh := H6.out
    try first | (rename_i hcond _ _; exfalso; by_cases q1 : k = 3 <;> by_cases q2 : 0 < m <;> simp [q1, q2] at hcond hh <;> omega) | (rename_i hcond _; exfalso; by_cases q1 : k = 3 <;> by_cases q2 : 0 < m <;> simp [q1, q2] at hcond hh <;> omega) | (rename_i hcond _ _ _; exfalso; by_cases q1 : k = 3 <;> by_cases q2 : 0 < m <;> simp [q1, q2] at hcond hh <;> omega) | (rename_i hcond _ _ _ _; exfalso; by_cases q1 : k = 3 <;> by_cases q2 : 0 < m <;> simp [q1, q2] at hcond hh <;> omega)
  all_goals
    clear hh
    try clear hcond
    go_ret
    exact ⟨rfl, _, HT.out.p, HT.out.u⟩
set_option maxRecDepth 100000 in
set_option maxHeartbeats 4000000 in
theorem rtake1g {w : World} {P D n : Nat} {v : Value} {self wait role lead term ticks : Int} {ws : List Wd} {every now : Nat} {limit : Int} {xs ats : List Int} (h : RAt w P D v n ⟨⟨n, self, wait, role, lead, term, ticks, ws⟩, every, limit, now, ats⟩) (hs : Sync xs ats n self limit now) (f : Int)
    (hn0 : 0 ≤ self) (hn1 : self < n) (hn8 : n ≤ 8) (hws : ws.length ≤ 1048000) (hq1 : ¬ f < 0) (hq2 : ¬ n ≤ f) (hq0 : f ≠ self) (hq : self < f) :
    Calls Try.prog 12 #[.pointer (some ⟨P, 0, none⟩), .agg #[.int .i64 1, .int .i64 f, .int .i64 self, .int .i64 0]] w fun e w' => e = .returned (.int .i64 0) ∧ ∃ u, RAt w' P D u n ⟨⟨n, self, wait, role, lead, term, ticks, ws⟩, every, limit, now, ratsR ats n now f⟩ ∧ Stp (rfp P D v) (rfp P D u) w w' := by
  have HB := Lib.hid (And.intro hn0 (And.intro hn1 (And.intro hn8 hws)))
  have HS := Lib.hid hs
  have hbq : (f == self) = false := by simp [hq0]
  clear hq0
  have hqq : ¬ f < self := by omega
  clear hq
  clear hs hn0 hn1 hn8 hws
  go_enter Try.func12, Try.ntmps12
  go_upto_region 1 with (fail)
  have HT := Lib.hid (RTS.start h #[.int .i64 1, .int .i64 f, .int .i64 self, .int .i64 0])
  clear h
  generalize w.alloc (.cells #[.int .i64 1, .int .i64 f, .int .i64 self, .int .i64 0] 31) = wc at HT ⊢
  generalize w.heap.size = B at HT ⊢
  have c0 : wc.cell? ⟨P, 0, none⟩ = some (.int .i64 n) := HT.out.p.nd.r.cell 0 _ rfl
  have c1 : wc.cell? ⟨P, 1, none⟩ = some (.int .i64 self) := HT.out.p.nd.r.cell 1 _ rfl
  have c3 : wc.cell? ⟨P, 3, none⟩ = some (.int .i64 role) := HT.out.p.nd.r.cell 3 _ rfl
  have c4 : wc.cell? ⟨P, 4, none⟩ = some (.int .i64 lead) := HT.out.p.nd.r.cell 4 _ rfl
  have c5 : wc.cell? ⟨P, 5, none⟩ = some (.int .i64 term) := HT.out.p.nd.r.cell 5 _ rfl
  have c6 : wc.cell? ⟨P, 6, none⟩ = some (.int .i64 ticks) := HT.out.p.nd.r.cell 6 _ rfl
  have c7 : wc.cell? ⟨P, 7, none⟩ = some (ptr D) := HT.out.p.nd.r.cell 7 _ rfl
  have cf : ∀ i, wc.frozen? ⟨P, i, none⟩ = false := HT.out.p.nd.r.free
  have b0 : wc.cell? ⟨B, 0, none⟩ = some (.int .i64 1) := HT.out.b.cell 0 _ rfl
  have b1 : wc.cell? ⟨B, 1, none⟩ = some (.int .i64 f) := HT.out.b.cell 1 _ rfl
  have b2 : wc.cell? ⟨B, 2, none⟩ = some (.int .i64 self) := HT.out.b.cell 2 _ rfl
  have b3 : wc.cell? ⟨B, 3, none⟩ = some (.int .i64 0) := HT.out.b.cell 3 _ rfl
  refine region_gen (Rd wc) (by kernel_rfl) (by kernel_rfl) (Rd.start _) ?_
  repeat
    (refine step_gen (by decide) (by rfl) (fun K hK => ?_)
     go_simp
     first
       | (with_reducible refine Sk.of Rd.skips ?_
          refine hK _ _ _ ?_
          clear hK K)
       | (with_reducible apply H1.one
          · intro σ wv hk hd hv
            obtain ⟨⟨m_, rfl⟩⟩ := hv
            go_simp
            (with_reducible refine ⟨rfl, ?_⟩)
            exact ⟨m_, rfl⟩
          refine hK _ _ _ ?_
          clear hK K))
  refine nil_gen ?_
  rintro σ wv - - ⟨⟨nq, rfl⟩⟩
  clear σ
  have HT2 := Lib.hid (HT.out.drewN nq)
  clear HT
  generalize wc.drewN nq = w1 at HT2 ⊢
  clear c0 c1 c3 c4 c5 c6 c7 cf b0 b1 b2 b3
  have HT := HT2
  clear HT2
  have c0 : w1.cell? ⟨P, 0, none⟩ = some (.int .i64 n) := HT.out.p.nd.r.cell 0 _ rfl
  have c1 : w1.cell? ⟨P, 1, none⟩ = some (.int .i64 self) := HT.out.p.nd.r.cell 1 _ rfl
  have c3 : w1.cell? ⟨P, 3, none⟩ = some (.int .i64 role) := HT.out.p.nd.r.cell 3 _ rfl
  have c4 : w1.cell? ⟨P, 4, none⟩ = some (.int .i64 lead) := HT.out.p.nd.r.cell 4 _ rfl
  have c5 : w1.cell? ⟨P, 5, none⟩ = some (.int .i64 term) := HT.out.p.nd.r.cell 5 _ rfl
  have c6 : w1.cell? ⟨P, 6, none⟩ = some (.int .i64 ticks) := HT.out.p.nd.r.cell 6 _ rfl
  have c7 : w1.cell? ⟨P, 7, none⟩ = some (ptr D) := HT.out.p.nd.r.cell 7 _ rfl
  have cf : ∀ i, w1.frozen? ⟨P, i, none⟩ = false := HT.out.p.nd.r.free
  have b0 : w1.cell? ⟨B, 0, none⟩ = some (.int .i64 1) := HT.out.b.cell 0 _ rfl
  have b1 : w1.cell? ⟨B, 1, none⟩ = some (.int .i64 f) := HT.out.b.cell 1 _ rfl
  have b2 : w1.cell? ⟨B, 2, none⟩ = some (.int .i64 self) := HT.out.b.cell 2 _ rfl
  have b3 : w1.cell? ⟨B, 3, none⟩ = some (.int .i64 0) := HT.out.b.cell 3 _ rfl
  go_upto_region 5 with (fail)
  refine region_gen (Cl 6 w1 (fun wv => wv.cell? ⟨P, 7, none⟩ = some (ptr D) ∧ wv.cell? ⟨B, 1, none⟩ = some (.int .i64 f)) (fun _ wv => RTS w wv P D v v n ⟨⟨n, self, wait, role, lead, term, ticks, ws⟩, every, limit, now, ratsR ats n now f⟩ B #[.int .i64 1, .int .i64 f, .int .i64 self, .int .i64 0])) (by kernel_rfl) (by kernel_rfl) (Cl.start ⟨c7, b1⟩) ?_
  repeat
    (refine step_gen (by decide) (by rfl) (fun K hK => ?_)
     go_simp
     first
       | (with_reducible apply H1.one
          · intro σ wv hk hd hv
            obtain ⟨z7, z1⟩ := hv.i
            have Hv := Lib.hid hv
            clear hv
            go_simp
            (first
              | (with_reducible refine ⟨rfl, ?_⟩; exact Cl.pure Hv.out (by decide))
              | (obtain ⟨m_, rfl⟩ := Hv.out.a hk
                 refine (rheard_any (HT.out.p.dt.drewN m_) HS.out f).mono ?_
                 rintro e2 w2 ⟨rfl, hd2, hk2⟩
                 have ht2 := (HT.out.drewN m_).det hd2 hk2
                 exact ⟨_, rfl, rfl, Cl.call ⟨ht2.p.nd.r.cell 7 _ rfl, ht2.b.cell 1 _ rfl⟩ ht2⟩))
          refine hK _ _ _ ?_
          clear hK K))
  refine nil_gen ?_
  intro σ w2 hall ht hv
  have hn6 := hall 6 (by decide)
  cases e6 : σ 6 with
  | none => rw [e6] at hn6; cases hn6
  | some y =>
  have HT2 := Lib.hid (hv.b y e6)
  clear hv hall ht hn6 e6 HT
  clear c0 c1 c3 c4 c5 c6 c7 cf b0 b1 b2 b3
  clear y σ
  have HT := HT2
  clear HT2
  have c0 : w2.cell? ⟨P, 0, none⟩ = some (.int .i64 n) := HT.out.p.nd.r.cell 0 _ rfl
  have c1 : w2.cell? ⟨P, 1, none⟩ = some (.int .i64 self) := HT.out.p.nd.r.cell 1 _ rfl
  have c3 : w2.cell? ⟨P, 3, none⟩ = some (.int .i64 role) := HT.out.p.nd.r.cell 3 _ rfl
  have c4 : w2.cell? ⟨P, 4, none⟩ = some (.int .i64 lead) := HT.out.p.nd.r.cell 4 _ rfl
  have c5 : w2.cell? ⟨P, 5, none⟩ = some (.int .i64 term) := HT.out.p.nd.r.cell 5 _ rfl
  have c6 : w2.cell? ⟨P, 6, none⟩ = some (.int .i64 ticks) := HT.out.p.nd.r.cell 6 _ rfl
  have c7 : w2.cell? ⟨P, 7, none⟩ = some (ptr D) := HT.out.p.nd.r.cell 7 _ rfl
  have cf : ∀ i, w2.frozen? ⟨P, i, none⟩ = false := HT.out.p.nd.r.free
  have b0 : w2.cell? ⟨B, 0, none⟩ = some (.int .i64 1) := HT.out.b.cell 0 _ rfl
  have b1 : w2.cell? ⟨B, 1, none⟩ = some (.int .i64 f) := HT.out.b.cell 1 _ rfl
  have b2 : w2.cell? ⟨B, 2, none⟩ = some (.int .i64 self) := HT.out.b.cell 2 _ rfl
  have b3 : w2.cell? ⟨B, 3, none⟩ = some (.int .i64 0) := HT.out.b.cell 3 _ rfl
  go_upto_region 6 with (fail)
  refine region_gen (Rd w2) (by kernel_rfl) (by kernel_rfl) (Rd.start _) ?_
  repeat
    (refine step_gen (by decide) (by rfl) (fun K hK => ?_)
     go_simp
     first
       | (with_reducible refine Sk.of Rd.skips ?_
          refine hK _ _ _ ?_
          clear hK K)
       | (with_reducible apply H1.one
          · intro σ wv hk hd hv
            obtain ⟨⟨m_, rfl⟩⟩ := hv
            go_simp
            (with_reducible refine ⟨rfl, ?_⟩)
            exact ⟨m_, rfl⟩
          refine hK _ _ _ ?_
          clear hK K))
  refine nil_gen ?_
  rintro σ wv - - ⟨⟨nq, rfl⟩⟩
  clear σ
  have HT2 := Lib.hid (HT.out.drewN nq)
  clear HT
  generalize w2.drewN nq = w3 at HT2 ⊢
  clear c0 c1 c3 c4 c5 c6 c7 cf b0 b1 b2 b3
  have HT := HT2
  clear HT2
  have c0 : w3.cell? ⟨P, 0, none⟩ = some (.int .i64 n) := HT.out.p.nd.r.cell 0 _ rfl
  have c1 : w3.cell? ⟨P, 1, none⟩ = some (.int .i64 self) := HT.out.p.nd.r.cell 1 _ rfl
  have c3 : w3.cell? ⟨P, 3, none⟩ = some (.int .i64 role) := HT.out.p.nd.r.cell 3 _ rfl
  have c4 : w3.cell? ⟨P, 4, none⟩ = some (.int .i64 lead) := HT.out.p.nd.r.cell 4 _ rfl
  have c5 : w3.cell? ⟨P, 5, none⟩ = some (.int .i64 term) := HT.out.p.nd.r.cell 5 _ rfl
  have c6 : w3.cell? ⟨P, 6, none⟩ = some (.int .i64 ticks) := HT.out.p.nd.r.cell 6 _ rfl
  have c7 : w3.cell? ⟨P, 7, none⟩ = some (ptr D) := HT.out.p.nd.r.cell 7 _ rfl
  have cf : ∀ i, w3.frozen? ⟨P, i, none⟩ = false := HT.out.p.nd.r.free
  have b0 : w3.cell? ⟨B, 0, none⟩ = some (.int .i64 1) := HT.out.b.cell 0 _ rfl
  have b1 : w3.cell? ⟨B, 1, none⟩ = some (.int .i64 f) := HT.out.b.cell 1 _ rfl
  have b2 : w3.cell? ⟨B, 2, none⟩ = some (.int .i64 self) := HT.out.b.cell 2 _ rfl
  have b3 : w3.cell? ⟨B, 3, none⟩ = some (.int .i64 0) := HT.out.b.cell 3 _ rfl
  go_upto_region 13 with (fail)
  refine region_gen (Rd w3) (by kernel_rfl) (by kernel_rfl) (Rd.start _) ?_
  repeat
    (refine step_gen (by decide) (by rfl) (fun K hK => ?_)
     go_simp
     first
       | (with_reducible refine Sk.of Rd.skips ?_
          refine hK _ _ _ ?_
          clear hK K)
       | (with_reducible apply H1.one
          · intro σ wv hk hd hv
            obtain ⟨⟨m_, rfl⟩⟩ := hv
            go_simp
            (with_reducible refine ⟨rfl, ?_⟩)
            exact ⟨m_, rfl⟩
          refine hK _ _ _ ?_
          clear hK K))
  refine nil_gen ?_
  rintro σ wv - - ⟨⟨nq, rfl⟩⟩
  clear σ
  have HT2 := Lib.hid (HT.out.drewN nq)
  clear HT
  generalize w3.drewN nq = w4 at HT2 ⊢
  clear c0 c1 c3 c4 c5 c6 c7 cf b0 b1 b2 b3
  have HT := HT2
  clear HT2
  have c0 : w4.cell? ⟨P, 0, none⟩ = some (.int .i64 n) := HT.out.p.nd.r.cell 0 _ rfl
  have c1 : w4.cell? ⟨P, 1, none⟩ = some (.int .i64 self) := HT.out.p.nd.r.cell 1 _ rfl
  have c3 : w4.cell? ⟨P, 3, none⟩ = some (.int .i64 role) := HT.out.p.nd.r.cell 3 _ rfl
  have c4 : w4.cell? ⟨P, 4, none⟩ = some (.int .i64 lead) := HT.out.p.nd.r.cell 4 _ rfl
  have c5 : w4.cell? ⟨P, 5, none⟩ = some (.int .i64 term) := HT.out.p.nd.r.cell 5 _ rfl
  have c6 : w4.cell? ⟨P, 6, none⟩ = some (.int .i64 ticks) := HT.out.p.nd.r.cell 6 _ rfl
  have c7 : w4.cell? ⟨P, 7, none⟩ = some (ptr D) := HT.out.p.nd.r.cell 7 _ rfl
  have cf : ∀ i, w4.frozen? ⟨P, i, none⟩ = false := HT.out.p.nd.r.free
  have b0 : w4.cell? ⟨B, 0, none⟩ = some (.int .i64 1) := HT.out.b.cell 0 _ rfl
  have b1 : w4.cell? ⟨B, 1, none⟩ = some (.int .i64 f) := HT.out.b.cell 1 _ rfl
  have b2 : w4.cell? ⟨B, 2, none⟩ = some (.int .i64 self) := HT.out.b.cell 2 _ rfl
  have b3 : w4.cell? ⟨B, 3, none⟩ = some (.int .i64 0) := HT.out.b.cell 3 _ rfl
  go_wp2
  go_ret
  exact ⟨rfl, _, HT.out.p, HT.out.u⟩
set_option maxRecDepth 100000 in
set_option maxHeartbeats 4000000 in
theorem rtake1n {w : World} {P D n : Nat} {v : Value} {self wait role lead term ticks : Int} {ws : List Wd} {every now : Nat} {limit : Int} {xs ats : List Int} (h : RAt w P D v n ⟨⟨n, self, wait, role, lead, term, ticks, ws⟩, every, limit, now, ats⟩) (hs : Sync xs ats n self limit now) (f : Int)
    (hn0 : 0 ≤ self) (hn1 : self < n) (hn8 : n ≤ 8) (hws : ws.length ≤ 1048000) (hq1 : ¬ f < 0) (hq2 : ¬ n ≤ f) (hq0 : f ≠ self) (hq : f < self) (hr : role ≠ 0) :
    Calls Try.prog 12 #[.pointer (some ⟨P, 0, none⟩), .agg #[.int .i64 1, .int .i64 f, .int .i64 self, .int .i64 0]] w fun e w' => e = .returned (.int .i64 0) ∧ ∃ u, RAt w' P D u n ⟨Nd.say ⟨n, self, wait, role, lead, term, ticks, ws⟩ 2 f 0, every, limit, now, ratsR ats n now f⟩ ∧ Stp (rfp P D v) (rfp P D u) w w' := by
  have HB := Lib.hid (And.intro hn0 (And.intro hn1 (And.intro hn8 hws)))
  have HS := Lib.hid hs
  have hbq : (f == self) = false := by simp [hq0]
  clear hq0
  have hrb : (role == 0) = false := by simp [hr]
  clear hr
  clear hs hn0 hn1 hn8 hws
  go_enter Try.func12, Try.ntmps12
  go_upto_region 1 with (fail)
  have HT := Lib.hid (RTS.start h #[.int .i64 1, .int .i64 f, .int .i64 self, .int .i64 0])
  clear h
  generalize w.alloc (.cells #[.int .i64 1, .int .i64 f, .int .i64 self, .int .i64 0] 31) = wc at HT ⊢
  generalize w.heap.size = B at HT ⊢
  have c0 : wc.cell? ⟨P, 0, none⟩ = some (.int .i64 n) := HT.out.p.nd.r.cell 0 _ rfl
  have c1 : wc.cell? ⟨P, 1, none⟩ = some (.int .i64 self) := HT.out.p.nd.r.cell 1 _ rfl
  have c3 : wc.cell? ⟨P, 3, none⟩ = some (.int .i64 role) := HT.out.p.nd.r.cell 3 _ rfl
  have c4 : wc.cell? ⟨P, 4, none⟩ = some (.int .i64 lead) := HT.out.p.nd.r.cell 4 _ rfl
  have c5 : wc.cell? ⟨P, 5, none⟩ = some (.int .i64 term) := HT.out.p.nd.r.cell 5 _ rfl
  have c6 : wc.cell? ⟨P, 6, none⟩ = some (.int .i64 ticks) := HT.out.p.nd.r.cell 6 _ rfl
  have c7 : wc.cell? ⟨P, 7, none⟩ = some (ptr D) := HT.out.p.nd.r.cell 7 _ rfl
  have cf : ∀ i, wc.frozen? ⟨P, i, none⟩ = false := HT.out.p.nd.r.free
  have b0 : wc.cell? ⟨B, 0, none⟩ = some (.int .i64 1) := HT.out.b.cell 0 _ rfl
  have b1 : wc.cell? ⟨B, 1, none⟩ = some (.int .i64 f) := HT.out.b.cell 1 _ rfl
  have b2 : wc.cell? ⟨B, 2, none⟩ = some (.int .i64 self) := HT.out.b.cell 2 _ rfl
  have b3 : wc.cell? ⟨B, 3, none⟩ = some (.int .i64 0) := HT.out.b.cell 3 _ rfl
  refine region_gen (Rd wc) (by kernel_rfl) (by kernel_rfl) (Rd.start _) ?_
  repeat
    (refine step_gen (by decide) (by rfl) (fun K hK => ?_)
     go_simp
     first
       | (with_reducible refine Sk.of Rd.skips ?_
          refine hK _ _ _ ?_
          clear hK K)
       | (with_reducible apply H1.one
          · intro σ wv hk hd hv
            obtain ⟨⟨m_, rfl⟩⟩ := hv
            go_simp
            (with_reducible refine ⟨rfl, ?_⟩)
            exact ⟨m_, rfl⟩
          refine hK _ _ _ ?_
          clear hK K))
  refine nil_gen ?_
  rintro σ wv - - ⟨⟨nq, rfl⟩⟩
  clear σ
  have HT2 := Lib.hid (HT.out.drewN nq)
  clear HT
  generalize wc.drewN nq = w1 at HT2 ⊢
  clear c0 c1 c3 c4 c5 c6 c7 cf b0 b1 b2 b3
  have HT := HT2
  clear HT2
  have c0 : w1.cell? ⟨P, 0, none⟩ = some (.int .i64 n) := HT.out.p.nd.r.cell 0 _ rfl
  have c1 : w1.cell? ⟨P, 1, none⟩ = some (.int .i64 self) := HT.out.p.nd.r.cell 1 _ rfl
  have c3 : w1.cell? ⟨P, 3, none⟩ = some (.int .i64 role) := HT.out.p.nd.r.cell 3 _ rfl
  have c4 : w1.cell? ⟨P, 4, none⟩ = some (.int .i64 lead) := HT.out.p.nd.r.cell 4 _ rfl
  have c5 : w1.cell? ⟨P, 5, none⟩ = some (.int .i64 term) := HT.out.p.nd.r.cell 5 _ rfl
  have c6 : w1.cell? ⟨P, 6, none⟩ = some (.int .i64 ticks) := HT.out.p.nd.r.cell 6 _ rfl
  have c7 : w1.cell? ⟨P, 7, none⟩ = some (ptr D) := HT.out.p.nd.r.cell 7 _ rfl
  have cf : ∀ i, w1.frozen? ⟨P, i, none⟩ = false := HT.out.p.nd.r.free
  have b0 : w1.cell? ⟨B, 0, none⟩ = some (.int .i64 1) := HT.out.b.cell 0 _ rfl
  have b1 : w1.cell? ⟨B, 1, none⟩ = some (.int .i64 f) := HT.out.b.cell 1 _ rfl
  have b2 : w1.cell? ⟨B, 2, none⟩ = some (.int .i64 self) := HT.out.b.cell 2 _ rfl
  have b3 : w1.cell? ⟨B, 3, none⟩ = some (.int .i64 0) := HT.out.b.cell 3 _ rfl
  go_upto_region 5 with (fail)
  refine region_gen (Cl 6 w1 (fun wv => wv.cell? ⟨P, 7, none⟩ = some (ptr D) ∧ wv.cell? ⟨B, 1, none⟩ = some (.int .i64 f)) (fun _ wv => RTS w wv P D v v n ⟨⟨n, self, wait, role, lead, term, ticks, ws⟩, every, limit, now, ratsR ats n now f⟩ B #[.int .i64 1, .int .i64 f, .int .i64 self, .int .i64 0])) (by kernel_rfl) (by kernel_rfl) (Cl.start ⟨c7, b1⟩) ?_
  repeat
    (refine step_gen (by decide) (by rfl) (fun K hK => ?_)
     go_simp
     first
       | (with_reducible apply H1.one
          · intro σ wv hk hd hv
            obtain ⟨z7, z1⟩ := hv.i
            have Hv := Lib.hid hv
            clear hv
            go_simp
            (first
              | (with_reducible refine ⟨rfl, ?_⟩; exact Cl.pure Hv.out (by decide))
              | (obtain ⟨m_, rfl⟩ := Hv.out.a hk
                 refine (rheard_any (HT.out.p.dt.drewN m_) HS.out f).mono ?_
                 rintro e2 w2 ⟨rfl, hd2, hk2⟩
                 have ht2 := (HT.out.drewN m_).det hd2 hk2
                 exact ⟨_, rfl, rfl, Cl.call ⟨ht2.p.nd.r.cell 7 _ rfl, ht2.b.cell 1 _ rfl⟩ ht2⟩))
          refine hK _ _ _ ?_
          clear hK K))
  refine nil_gen ?_
  intro σ w2 hall ht hv
  have hn6 := hall 6 (by decide)
  cases e6 : σ 6 with
  | none => rw [e6] at hn6; cases hn6
  | some y =>
  have HT2 := Lib.hid (hv.b y e6)
  clear hv hall ht hn6 e6 HT
  clear c0 c1 c3 c4 c5 c6 c7 cf b0 b1 b2 b3
  clear y σ
  have HT := HT2
  clear HT2
  have c0 : w2.cell? ⟨P, 0, none⟩ = some (.int .i64 n) := HT.out.p.nd.r.cell 0 _ rfl
  have c1 : w2.cell? ⟨P, 1, none⟩ = some (.int .i64 self) := HT.out.p.nd.r.cell 1 _ rfl
  have c3 : w2.cell? ⟨P, 3, none⟩ = some (.int .i64 role) := HT.out.p.nd.r.cell 3 _ rfl
  have c4 : w2.cell? ⟨P, 4, none⟩ = some (.int .i64 lead) := HT.out.p.nd.r.cell 4 _ rfl
  have c5 : w2.cell? ⟨P, 5, none⟩ = some (.int .i64 term) := HT.out.p.nd.r.cell 5 _ rfl
  have c6 : w2.cell? ⟨P, 6, none⟩ = some (.int .i64 ticks) := HT.out.p.nd.r.cell 6 _ rfl
  have c7 : w2.cell? ⟨P, 7, none⟩ = some (ptr D) := HT.out.p.nd.r.cell 7 _ rfl
  have cf : ∀ i, w2.frozen? ⟨P, i, none⟩ = false := HT.out.p.nd.r.free
  have b0 : w2.cell? ⟨B, 0, none⟩ = some (.int .i64 1) := HT.out.b.cell 0 _ rfl
  have b1 : w2.cell? ⟨B, 1, none⟩ = some (.int .i64 f) := HT.out.b.cell 1 _ rfl
  have b2 : w2.cell? ⟨B, 2, none⟩ = some (.int .i64 self) := HT.out.b.cell 2 _ rfl
  have b3 : w2.cell? ⟨B, 3, none⟩ = some (.int .i64 0) := HT.out.b.cell 3 _ rfl
  go_upto_region 6 with (fail)
  refine region_gen (Rd w2) (by kernel_rfl) (by kernel_rfl) (Rd.start _) ?_
  repeat
    (refine step_gen (by decide) (by rfl) (fun K hK => ?_)
     go_simp
     first
       | (with_reducible refine Sk.of Rd.skips ?_
          refine hK _ _ _ ?_
          clear hK K)
       | (with_reducible apply H1.one
          · intro σ wv hk hd hv
            obtain ⟨⟨m_, rfl⟩⟩ := hv
            go_simp
            (with_reducible refine ⟨rfl, ?_⟩)
            exact ⟨m_, rfl⟩
          refine hK _ _ _ ?_
          clear hK K))
  refine nil_gen ?_
  rintro σ wv - - ⟨⟨nq, rfl⟩⟩
  clear σ
  have HT2 := Lib.hid (HT.out.drewN nq)
  clear HT
  generalize w2.drewN nq = w3 at HT2 ⊢
  clear c0 c1 c3 c4 c5 c6 c7 cf b0 b1 b2 b3
  have HT := HT2
  clear HT2
  have c0 : w3.cell? ⟨P, 0, none⟩ = some (.int .i64 n) := HT.out.p.nd.r.cell 0 _ rfl
  have c1 : w3.cell? ⟨P, 1, none⟩ = some (.int .i64 self) := HT.out.p.nd.r.cell 1 _ rfl
  have c3 : w3.cell? ⟨P, 3, none⟩ = some (.int .i64 role) := HT.out.p.nd.r.cell 3 _ rfl
  have c4 : w3.cell? ⟨P, 4, none⟩ = some (.int .i64 lead) := HT.out.p.nd.r.cell 4 _ rfl
  have c5 : w3.cell? ⟨P, 5, none⟩ = some (.int .i64 term) := HT.out.p.nd.r.cell 5 _ rfl
  have c6 : w3.cell? ⟨P, 6, none⟩ = some (.int .i64 ticks) := HT.out.p.nd.r.cell 6 _ rfl
  have c7 : w3.cell? ⟨P, 7, none⟩ = some (ptr D) := HT.out.p.nd.r.cell 7 _ rfl
  have cf : ∀ i, w3.frozen? ⟨P, i, none⟩ = false := HT.out.p.nd.r.free
  have b0 : w3.cell? ⟨B, 0, none⟩ = some (.int .i64 1) := HT.out.b.cell 0 _ rfl
  have b1 : w3.cell? ⟨B, 1, none⟩ = some (.int .i64 f) := HT.out.b.cell 1 _ rfl
  have b2 : w3.cell? ⟨B, 2, none⟩ = some (.int .i64 self) := HT.out.b.cell 2 _ rfl
  have b3 : w3.cell? ⟨B, 3, none⟩ = some (.int .i64 0) := HT.out.b.cell 3 _ rfl
  go_upto_region 8 with (go_at_call 42; (with_reducible refine (rsay (show NodeAt 52 31 _ P ⟨n, self, wait, role, lead, term, ticks, ws⟩ (ptr D) v from HT.out.p.nd) 2 f 0 (by have := HB.out.2.2.2; simp only []; omega)).mono ?_); rintro e' w4 ⟨rfl, u3, hd3, hm3⟩)
  have HT2 := Lib.hid (HT.out.node hd3 hm3 rfl)
  clear hd3 hm3 HT
  clear c0 c1 c3 c4 c5 c6 c7 cf b0 b1 b2 b3
  have c3 : w4.cell? ⟨P, 3, none⟩ = some (.int .i64 role) := HT2.out.p.nd.r.cell 3 _ rfl
  have HT := HT2
  clear HT2
  go_wp2
  go_ret
  exact ⟨rfl, _, HT.out.p, HT.out.u⟩
set_option maxRecDepth 100000 in
set_option maxHeartbeats 4000000 in
theorem rtake1a {w : World} {P D n : Nat} {v : Value} {self wait lead term ticks : Int} {ws : List Wd} {every now : Nat} {limit : Int} {xs ats : List Int} (h : RAt w P D v n ⟨⟨n, self, wait, 0, lead, term, ticks, ws⟩, every, limit, now, ats⟩) (hs : Sync xs ats n self limit now) (f : Int)
    (hn0 : 0 ≤ self) (hn1 : self < n) (hn8 : n ≤ 8) (hws : ws.length ≤ 1048000) (hq1 : ¬ f < 0) (hq2 : ¬ n ≤ f) (hq0 : f ≠ self) (hq : f < self) :
    Calls Try.prog 12 #[.pointer (some ⟨P, 0, none⟩), .agg #[.int .i64 1, .int .i64 f, .int .i64 self, .int .i64 0]] w fun e w' => e = .returned (.int .i64 0) ∧ ∃ u, RAt w' P D u n ⟨Nd.ask (Nd.say ⟨n, self, wait, 0, lead, term, ticks, ws⟩ 2 f 0), every, limit, now, ratsR ats n now f⟩ ∧ Stp (rfp P D v) (rfp P D u) w w' := by
  have HB := Lib.hid (And.intro hn0 (And.intro hn1 (And.intro hn8 hws)))
  have HS := Lib.hid hs
  have hbq : (f == self) = false := by simp [hq0]
  clear hq0
  clear hs hn0 hn1 hn8 hws
  go_enter Try.func12, Try.ntmps12
  go_upto_region 1 with (fail)
  have HT := Lib.hid (RTS.start h #[.int .i64 1, .int .i64 f, .int .i64 self, .int .i64 0])
  clear h
  generalize w.alloc (.cells #[.int .i64 1, .int .i64 f, .int .i64 self, .int .i64 0] 31) = wc at HT ⊢
  generalize w.heap.size = B at HT ⊢
  have c0 : wc.cell? ⟨P, 0, none⟩ = some (.int .i64 n) := HT.out.p.nd.r.cell 0 _ rfl
  have c1 : wc.cell? ⟨P, 1, none⟩ = some (.int .i64 self) := HT.out.p.nd.r.cell 1 _ rfl
  have c3 : wc.cell? ⟨P, 3, none⟩ = some (.int .i64 0) := HT.out.p.nd.r.cell 3 _ rfl
  have c4 : wc.cell? ⟨P, 4, none⟩ = some (.int .i64 lead) := HT.out.p.nd.r.cell 4 _ rfl
  have c5 : wc.cell? ⟨P, 5, none⟩ = some (.int .i64 term) := HT.out.p.nd.r.cell 5 _ rfl
  have c6 : wc.cell? ⟨P, 6, none⟩ = some (.int .i64 ticks) := HT.out.p.nd.r.cell 6 _ rfl
  have c7 : wc.cell? ⟨P, 7, none⟩ = some (ptr D) := HT.out.p.nd.r.cell 7 _ rfl
  have cf : ∀ i, wc.frozen? ⟨P, i, none⟩ = false := HT.out.p.nd.r.free
  have b0 : wc.cell? ⟨B, 0, none⟩ = some (.int .i64 1) := HT.out.b.cell 0 _ rfl
  have b1 : wc.cell? ⟨B, 1, none⟩ = some (.int .i64 f) := HT.out.b.cell 1 _ rfl
  have b2 : wc.cell? ⟨B, 2, none⟩ = some (.int .i64 self) := HT.out.b.cell 2 _ rfl
  have b3 : wc.cell? ⟨B, 3, none⟩ = some (.int .i64 0) := HT.out.b.cell 3 _ rfl
  refine region_gen (Rd wc) (by kernel_rfl) (by kernel_rfl) (Rd.start _) ?_
  repeat
    (refine step_gen (by decide) (by rfl) (fun K hK => ?_)
     go_simp
     first
       | (with_reducible refine Sk.of Rd.skips ?_
          refine hK _ _ _ ?_
          clear hK K)
       | (with_reducible apply H1.one
          · intro σ wv hk hd hv
            obtain ⟨⟨m_, rfl⟩⟩ := hv
            go_simp
            (with_reducible refine ⟨rfl, ?_⟩)
            exact ⟨m_, rfl⟩
          refine hK _ _ _ ?_
          clear hK K))
  refine nil_gen ?_
  rintro σ wv - - ⟨⟨nq, rfl⟩⟩
  clear σ
  have HT2 := Lib.hid (HT.out.drewN nq)
  clear HT
  generalize wc.drewN nq = w1 at HT2 ⊢
  clear c0 c1 c3 c4 c5 c6 c7 cf b0 b1 b2 b3
  have HT := HT2
  clear HT2
  have c0 : w1.cell? ⟨P, 0, none⟩ = some (.int .i64 n) := HT.out.p.nd.r.cell 0 _ rfl
  have c1 : w1.cell? ⟨P, 1, none⟩ = some (.int .i64 self) := HT.out.p.nd.r.cell 1 _ rfl
  have c3 : w1.cell? ⟨P, 3, none⟩ = some (.int .i64 0) := HT.out.p.nd.r.cell 3 _ rfl
  have c4 : w1.cell? ⟨P, 4, none⟩ = some (.int .i64 lead) := HT.out.p.nd.r.cell 4 _ rfl
  have c5 : w1.cell? ⟨P, 5, none⟩ = some (.int .i64 term) := HT.out.p.nd.r.cell 5 _ rfl
  have c6 : w1.cell? ⟨P, 6, none⟩ = some (.int .i64 ticks) := HT.out.p.nd.r.cell 6 _ rfl
  have c7 : w1.cell? ⟨P, 7, none⟩ = some (ptr D) := HT.out.p.nd.r.cell 7 _ rfl
  have cf : ∀ i, w1.frozen? ⟨P, i, none⟩ = false := HT.out.p.nd.r.free
  have b0 : w1.cell? ⟨B, 0, none⟩ = some (.int .i64 1) := HT.out.b.cell 0 _ rfl
  have b1 : w1.cell? ⟨B, 1, none⟩ = some (.int .i64 f) := HT.out.b.cell 1 _ rfl
  have b2 : w1.cell? ⟨B, 2, none⟩ = some (.int .i64 self) := HT.out.b.cell 2 _ rfl
  have b3 : w1.cell? ⟨B, 3, none⟩ = some (.int .i64 0) := HT.out.b.cell 3 _ rfl
  go_upto_region 5 with (fail)
  refine region_gen (Cl 6 w1 (fun wv => wv.cell? ⟨P, 7, none⟩ = some (ptr D) ∧ wv.cell? ⟨B, 1, none⟩ = some (.int .i64 f)) (fun _ wv => RTS w wv P D v v n ⟨⟨n, self, wait, 0, lead, term, ticks, ws⟩, every, limit, now, ratsR ats n now f⟩ B #[.int .i64 1, .int .i64 f, .int .i64 self, .int .i64 0])) (by kernel_rfl) (by kernel_rfl) (Cl.start ⟨c7, b1⟩) ?_
  repeat
    (refine step_gen (by decide) (by rfl) (fun K hK => ?_)
     go_simp
     first
       | (with_reducible apply H1.one
          · intro σ wv hk hd hv
            obtain ⟨z7, z1⟩ := hv.i
            have Hv := Lib.hid hv
            clear hv
            go_simp
            (first
              | (with_reducible refine ⟨rfl, ?_⟩; exact Cl.pure Hv.out (by decide))
              | (obtain ⟨m_, rfl⟩ := Hv.out.a hk
                 refine (rheard_any (HT.out.p.dt.drewN m_) HS.out f).mono ?_
                 rintro e2 w2 ⟨rfl, hd2, hk2⟩
                 have ht2 := (HT.out.drewN m_).det hd2 hk2
                 exact ⟨_, rfl, rfl, Cl.call ⟨ht2.p.nd.r.cell 7 _ rfl, ht2.b.cell 1 _ rfl⟩ ht2⟩))
          refine hK _ _ _ ?_
          clear hK K))
  refine nil_gen ?_
  intro σ w2 hall ht hv
  have hn6 := hall 6 (by decide)
  cases e6 : σ 6 with
  | none => rw [e6] at hn6; cases hn6
  | some y =>
  have HT2 := Lib.hid (hv.b y e6)
  clear hv hall ht hn6 e6 HT
  clear c0 c1 c3 c4 c5 c6 c7 cf b0 b1 b2 b3
  clear y σ
  have HT := HT2
  clear HT2
  have c0 : w2.cell? ⟨P, 0, none⟩ = some (.int .i64 n) := HT.out.p.nd.r.cell 0 _ rfl
  have c1 : w2.cell? ⟨P, 1, none⟩ = some (.int .i64 self) := HT.out.p.nd.r.cell 1 _ rfl
  have c3 : w2.cell? ⟨P, 3, none⟩ = some (.int .i64 0) := HT.out.p.nd.r.cell 3 _ rfl
  have c4 : w2.cell? ⟨P, 4, none⟩ = some (.int .i64 lead) := HT.out.p.nd.r.cell 4 _ rfl
  have c5 : w2.cell? ⟨P, 5, none⟩ = some (.int .i64 term) := HT.out.p.nd.r.cell 5 _ rfl
  have c6 : w2.cell? ⟨P, 6, none⟩ = some (.int .i64 ticks) := HT.out.p.nd.r.cell 6 _ rfl
  have c7 : w2.cell? ⟨P, 7, none⟩ = some (ptr D) := HT.out.p.nd.r.cell 7 _ rfl
  have cf : ∀ i, w2.frozen? ⟨P, i, none⟩ = false := HT.out.p.nd.r.free
  have b0 : w2.cell? ⟨B, 0, none⟩ = some (.int .i64 1) := HT.out.b.cell 0 _ rfl
  have b1 : w2.cell? ⟨B, 1, none⟩ = some (.int .i64 f) := HT.out.b.cell 1 _ rfl
  have b2 : w2.cell? ⟨B, 2, none⟩ = some (.int .i64 self) := HT.out.b.cell 2 _ rfl
  have b3 : w2.cell? ⟨B, 3, none⟩ = some (.int .i64 0) := HT.out.b.cell 3 _ rfl
  go_upto_region 6 with (fail)
  refine region_gen (Rd w2) (by kernel_rfl) (by kernel_rfl) (Rd.start _) ?_
  repeat
    (refine step_gen (by decide) (by rfl) (fun K hK => ?_)
     go_simp
     first
       | (with_reducible refine Sk.of Rd.skips ?_
          refine hK _ _ _ ?_
          clear hK K)
       | (with_reducible apply H1.one
          · intro σ wv hk hd hv
            obtain ⟨⟨m_, rfl⟩⟩ := hv
            go_simp
            (with_reducible refine ⟨rfl, ?_⟩)
            exact ⟨m_, rfl⟩
          refine hK _ _ _ ?_
          clear hK K))
  refine nil_gen ?_
  rintro σ wv - - ⟨⟨nq, rfl⟩⟩
  clear σ
  have HT2 := Lib.hid (HT.out.drewN nq)
  clear HT
  generalize w2.drewN nq = w3 at HT2 ⊢
  clear c0 c1 c3 c4 c5 c6 c7 cf b0 b1 b2 b3
  have HT := HT2
  clear HT2
  have c0 : w3.cell? ⟨P, 0, none⟩ = some (.int .i64 n) := HT.out.p.nd.r.cell 0 _ rfl
  have c1 : w3.cell? ⟨P, 1, none⟩ = some (.int .i64 self) := HT.out.p.nd.r.cell 1 _ rfl
  have c3 : w3.cell? ⟨P, 3, none⟩ = some (.int .i64 0) := HT.out.p.nd.r.cell 3 _ rfl
  have c4 : w3.cell? ⟨P, 4, none⟩ = some (.int .i64 lead) := HT.out.p.nd.r.cell 4 _ rfl
  have c5 : w3.cell? ⟨P, 5, none⟩ = some (.int .i64 term) := HT.out.p.nd.r.cell 5 _ rfl
  have c6 : w3.cell? ⟨P, 6, none⟩ = some (.int .i64 ticks) := HT.out.p.nd.r.cell 6 _ rfl
  have c7 : w3.cell? ⟨P, 7, none⟩ = some (ptr D) := HT.out.p.nd.r.cell 7 _ rfl
  have cf : ∀ i, w3.frozen? ⟨P, i, none⟩ = false := HT.out.p.nd.r.free
  have b0 : w3.cell? ⟨B, 0, none⟩ = some (.int .i64 1) := HT.out.b.cell 0 _ rfl
  have b1 : w3.cell? ⟨B, 1, none⟩ = some (.int .i64 f) := HT.out.b.cell 1 _ rfl
  have b2 : w3.cell? ⟨B, 2, none⟩ = some (.int .i64 self) := HT.out.b.cell 2 _ rfl
  have b3 : w3.cell? ⟨B, 3, none⟩ = some (.int .i64 0) := HT.out.b.cell 3 _ rfl
  go_upto_region 8 with (go_at_call 42; (with_reducible refine (rsay (show NodeAt 52 31 _ P ⟨n, self, wait, 0, lead, term, ticks, ws⟩ (ptr D) v from HT.out.p.nd) 2 f 0 (by have := HB.out.2.2.2; simp only []; omega)).mono ?_); rintro e' w4 ⟨rfl, u3, hd3, hm3⟩)
  have HT2 := Lib.hid (HT.out.node hd3 hm3 rfl)
  clear hd3 hm3 HT
  clear c0 c1 c3 c4 c5 c6 c7 cf b0 b1 b2 b3
  have c3 : w4.cell? ⟨P, 3, none⟩ = some (.int .i64 0) := HT2.out.p.nd.r.cell 3 _ rfl
  have HT := HT2
  clear HT2
  go_wp2_with (go_at_call 37; (with_reducible refine (rask_any (show NodeAt 52 31 _ P ⟨n, self, wait, 0, lead, term, ticks, ws ++ [⟨2, self, f, 0⟩]⟩ (ptr D) u3 from HT.out.p.nd) HB.out.1 HB.out.2.1 (by have := HB.out.2.2.1; omega) (by have := HB.out.2.2.2; simp only [List.length_append, List.length_singleton]; omega)).mono ?_); rintro e' w5 ⟨rfl, HR⟩)
  obtain ⟨u4, hd4, hm4⟩ := HR
  have HT2 := Lib.hid (HT.out.node hd4 hm4 (Nd.ask_self _))
  clear hd4 hm4 HT
  go_ret
  exact ⟨rfl, _, HT2.out.p, HT2.out.u⟩
set_option maxRecDepth 100000 in
set_option maxHeartbeats 4000000 in
theorem rtake2y {w : World} {P D n : Nat} {v : Value} {self wait lead term ticks : Int} {ws : List Wd} {every now : Nat} {limit : Int} {xs ats : List Int} (h : RAt w P D v n ⟨⟨n, self, wait, 1, lead, term, ticks, ws⟩, every, limit, now, ats⟩) (hs : Sync xs ats n self limit now) (f : Int)
    (hn0 : 0 ≤ self) (hn1 : self < n) (hn8 : n ≤ 8) (hws : ws.length ≤ 1048000) (hq1 : ¬ f < 0) (hq2 : ¬ n ≤ f) (hq0 : f ≠ self) :
    Calls Try.prog 12 #[.pointer (some ⟨P, 0, none⟩), .agg #[.int .i64 2, .int .i64 f, .int .i64 self, .int .i64 0]] w fun e w' => e = .returned (.int .i64 0) ∧ ∃ u, RAt w' P D u n ⟨Nd.turn ⟨n, self, wait, 1, lead, term, ticks, ws⟩ 2, every, limit, now, ratsR ats n now f⟩ ∧ Stp (rfp P D v) (rfp P D u) w w' := by
  have HB := Lib.hid (And.intro hn0 (And.intro hn1 (And.intro hn8 hws)))
  have HS := Lib.hid hs
  have hbq : (f == self) = false := by simp [hq0]
  clear hq0
  clear hs hn0 hn1 hn8 hws
  go_enter Try.func12, Try.ntmps12
  go_upto_region 1 with (fail)
  have HT := Lib.hid (RTS.start h #[.int .i64 2, .int .i64 f, .int .i64 self, .int .i64 0])
  clear h
  generalize w.alloc (.cells #[.int .i64 2, .int .i64 f, .int .i64 self, .int .i64 0] 31) = wc at HT ⊢
  generalize w.heap.size = B at HT ⊢
  have c0 : wc.cell? ⟨P, 0, none⟩ = some (.int .i64 n) := HT.out.p.nd.r.cell 0 _ rfl
  have c1 : wc.cell? ⟨P, 1, none⟩ = some (.int .i64 self) := HT.out.p.nd.r.cell 1 _ rfl
  have c3 : wc.cell? ⟨P, 3, none⟩ = some (.int .i64 1) := HT.out.p.nd.r.cell 3 _ rfl
  have c4 : wc.cell? ⟨P, 4, none⟩ = some (.int .i64 lead) := HT.out.p.nd.r.cell 4 _ rfl
  have c5 : wc.cell? ⟨P, 5, none⟩ = some (.int .i64 term) := HT.out.p.nd.r.cell 5 _ rfl
  have c6 : wc.cell? ⟨P, 6, none⟩ = some (.int .i64 ticks) := HT.out.p.nd.r.cell 6 _ rfl
  have c7 : wc.cell? ⟨P, 7, none⟩ = some (ptr D) := HT.out.p.nd.r.cell 7 _ rfl
  have cf : ∀ i, wc.frozen? ⟨P, i, none⟩ = false := HT.out.p.nd.r.free
  have b0 : wc.cell? ⟨B, 0, none⟩ = some (.int .i64 2) := HT.out.b.cell 0 _ rfl
  have b1 : wc.cell? ⟨B, 1, none⟩ = some (.int .i64 f) := HT.out.b.cell 1 _ rfl
  have b2 : wc.cell? ⟨B, 2, none⟩ = some (.int .i64 self) := HT.out.b.cell 2 _ rfl
  have b3 : wc.cell? ⟨B, 3, none⟩ = some (.int .i64 0) := HT.out.b.cell 3 _ rfl
  refine region_gen (Rd wc) (by kernel_rfl) (by kernel_rfl) (Rd.start _) ?_
  repeat
    (refine step_gen (by decide) (by rfl) (fun K hK => ?_)
     go_simp
     first
       | (with_reducible refine Sk.of Rd.skips ?_
          refine hK _ _ _ ?_
          clear hK K)
       | (with_reducible apply H1.one
          · intro σ wv hk hd hv
            obtain ⟨⟨m_, rfl⟩⟩ := hv
            go_simp
            (with_reducible refine ⟨rfl, ?_⟩)
            exact ⟨m_, rfl⟩
          refine hK _ _ _ ?_
          clear hK K))
  refine nil_gen ?_
  rintro σ wv - - ⟨⟨nq, rfl⟩⟩
  clear σ
  have HT2 := Lib.hid (HT.out.drewN nq)
  clear HT
  generalize wc.drewN nq = w1 at HT2 ⊢
  clear c0 c1 c3 c4 c5 c6 c7 cf b0 b1 b2 b3
  have HT := HT2
  clear HT2
  have c0 : w1.cell? ⟨P, 0, none⟩ = some (.int .i64 n) := HT.out.p.nd.r.cell 0 _ rfl
  have c1 : w1.cell? ⟨P, 1, none⟩ = some (.int .i64 self) := HT.out.p.nd.r.cell 1 _ rfl
  have c3 : w1.cell? ⟨P, 3, none⟩ = some (.int .i64 1) := HT.out.p.nd.r.cell 3 _ rfl
  have c4 : w1.cell? ⟨P, 4, none⟩ = some (.int .i64 lead) := HT.out.p.nd.r.cell 4 _ rfl
  have c5 : w1.cell? ⟨P, 5, none⟩ = some (.int .i64 term) := HT.out.p.nd.r.cell 5 _ rfl
  have c6 : w1.cell? ⟨P, 6, none⟩ = some (.int .i64 ticks) := HT.out.p.nd.r.cell 6 _ rfl
  have c7 : w1.cell? ⟨P, 7, none⟩ = some (ptr D) := HT.out.p.nd.r.cell 7 _ rfl
  have cf : ∀ i, w1.frozen? ⟨P, i, none⟩ = false := HT.out.p.nd.r.free
  have b0 : w1.cell? ⟨B, 0, none⟩ = some (.int .i64 2) := HT.out.b.cell 0 _ rfl
  have b1 : w1.cell? ⟨B, 1, none⟩ = some (.int .i64 f) := HT.out.b.cell 1 _ rfl
  have b2 : w1.cell? ⟨B, 2, none⟩ = some (.int .i64 self) := HT.out.b.cell 2 _ rfl
  have b3 : w1.cell? ⟨B, 3, none⟩ = some (.int .i64 0) := HT.out.b.cell 3 _ rfl
  go_upto_region 5 with (fail)
  refine region_gen (Cl 6 w1 (fun wv => wv.cell? ⟨P, 7, none⟩ = some (ptr D) ∧ wv.cell? ⟨B, 1, none⟩ = some (.int .i64 f)) (fun _ wv => RTS w wv P D v v n ⟨⟨n, self, wait, 1, lead, term, ticks, ws⟩, every, limit, now, ratsR ats n now f⟩ B #[.int .i64 2, .int .i64 f, .int .i64 self, .int .i64 0])) (by kernel_rfl) (by kernel_rfl) (Cl.start ⟨c7, b1⟩) ?_
  repeat
    (refine step_gen (by decide) (by rfl) (fun K hK => ?_)
     go_simp
     first
       | (with_reducible apply H1.one
          · intro σ wv hk hd hv
            obtain ⟨z7, z1⟩ := hv.i
            have Hv := Lib.hid hv
            clear hv
            go_simp
            (first
              | (with_reducible refine ⟨rfl, ?_⟩; exact Cl.pure Hv.out (by decide))
              | (obtain ⟨m_, rfl⟩ := Hv.out.a hk
                 refine (rheard_any (HT.out.p.dt.drewN m_) HS.out f).mono ?_
                 rintro e2 w2 ⟨rfl, hd2, hk2⟩
                 have ht2 := (HT.out.drewN m_).det hd2 hk2
                 exact ⟨_, rfl, rfl, Cl.call ⟨ht2.p.nd.r.cell 7 _ rfl, ht2.b.cell 1 _ rfl⟩ ht2⟩))
          refine hK _ _ _ ?_
          clear hK K))
  refine nil_gen ?_
  intro σ w2 hall ht hv
  have hn6 := hall 6 (by decide)
  cases e6 : σ 6 with
  | none => rw [e6] at hn6; cases hn6
  | some y =>
  have HT2 := Lib.hid (hv.b y e6)
  clear hv hall ht hn6 e6 HT
  clear c0 c1 c3 c4 c5 c6 c7 cf b0 b1 b2 b3
  clear y σ
  have HT := HT2
  clear HT2
  have c0 : w2.cell? ⟨P, 0, none⟩ = some (.int .i64 n) := HT.out.p.nd.r.cell 0 _ rfl
  have c1 : w2.cell? ⟨P, 1, none⟩ = some (.int .i64 self) := HT.out.p.nd.r.cell 1 _ rfl
  have c3 : w2.cell? ⟨P, 3, none⟩ = some (.int .i64 1) := HT.out.p.nd.r.cell 3 _ rfl
  have c4 : w2.cell? ⟨P, 4, none⟩ = some (.int .i64 lead) := HT.out.p.nd.r.cell 4 _ rfl
  have c5 : w2.cell? ⟨P, 5, none⟩ = some (.int .i64 term) := HT.out.p.nd.r.cell 5 _ rfl
  have c6 : w2.cell? ⟨P, 6, none⟩ = some (.int .i64 ticks) := HT.out.p.nd.r.cell 6 _ rfl
  have c7 : w2.cell? ⟨P, 7, none⟩ = some (ptr D) := HT.out.p.nd.r.cell 7 _ rfl
  have cf : ∀ i, w2.frozen? ⟨P, i, none⟩ = false := HT.out.p.nd.r.free
  have b0 : w2.cell? ⟨B, 0, none⟩ = some (.int .i64 2) := HT.out.b.cell 0 _ rfl
  have b1 : w2.cell? ⟨B, 1, none⟩ = some (.int .i64 f) := HT.out.b.cell 1 _ rfl
  have b2 : w2.cell? ⟨B, 2, none⟩ = some (.int .i64 self) := HT.out.b.cell 2 _ rfl
  have b3 : w2.cell? ⟨B, 3, none⟩ = some (.int .i64 0) := HT.out.b.cell 3 _ rfl
  go_upto_region 6 with (fail)
  refine region_gen (Rd w2) (by kernel_rfl) (by kernel_rfl) (Rd.start _) ?_
  repeat
    (refine step_gen (by decide) (by rfl) (fun K hK => ?_)
     go_simp
     first
       | (with_reducible refine Sk.of Rd.skips ?_
          refine hK _ _ _ ?_
          clear hK K)
       | (with_reducible apply H1.one
          · intro σ wv hk hd hv
            obtain ⟨⟨m_, rfl⟩⟩ := hv
            go_simp
            (with_reducible refine ⟨rfl, ?_⟩)
            exact ⟨m_, rfl⟩
          refine hK _ _ _ ?_
          clear hK K))
  refine nil_gen ?_
  rintro σ wv - - ⟨⟨nq, rfl⟩⟩
  clear σ
  have HT2 := Lib.hid (HT.out.drewN nq)
  clear HT
  generalize w2.drewN nq = w3 at HT2 ⊢
  clear c0 c1 c3 c4 c5 c6 c7 cf b0 b1 b2 b3
  have HT := HT2
  clear HT2
  have c0 : w3.cell? ⟨P, 0, none⟩ = some (.int .i64 n) := HT.out.p.nd.r.cell 0 _ rfl
  have c1 : w3.cell? ⟨P, 1, none⟩ = some (.int .i64 self) := HT.out.p.nd.r.cell 1 _ rfl
  have c3 : w3.cell? ⟨P, 3, none⟩ = some (.int .i64 1) := HT.out.p.nd.r.cell 3 _ rfl
  have c4 : w3.cell? ⟨P, 4, none⟩ = some (.int .i64 lead) := HT.out.p.nd.r.cell 4 _ rfl
  have c5 : w3.cell? ⟨P, 5, none⟩ = some (.int .i64 term) := HT.out.p.nd.r.cell 5 _ rfl
  have c6 : w3.cell? ⟨P, 6, none⟩ = some (.int .i64 ticks) := HT.out.p.nd.r.cell 6 _ rfl
  have c7 : w3.cell? ⟨P, 7, none⟩ = some (ptr D) := HT.out.p.nd.r.cell 7 _ rfl
  have cf : ∀ i, w3.frozen? ⟨P, i, none⟩ = false := HT.out.p.nd.r.free
  have b0 : w3.cell? ⟨B, 0, none⟩ = some (.int .i64 2) := HT.out.b.cell 0 _ rfl
  have b1 : w3.cell? ⟨B, 1, none⟩ = some (.int .i64 f) := HT.out.b.cell 1 _ rfl
  have b2 : w3.cell? ⟨B, 2, none⟩ = some (.int .i64 self) := HT.out.b.cell 2 _ rfl
  have b3 : w3.cell? ⟨B, 3, none⟩ = some (.int .i64 0) := HT.out.b.cell 3 _ rfl
  have HT2 := Lib.hid ((HT.out.set3 2).set6 0)
  go_wp2
  go_ret
  exact ⟨rfl, _, HT2.out.p, HT2.out.u⟩
set_option maxRecDepth 100000 in
set_option maxHeartbeats 4000000 in
theorem rtake2n {w : World} {P D n : Nat} {v : Value} {self wait role lead term ticks : Int} {ws : List Wd} {every now : Nat} {limit : Int} {xs ats : List Int} (h : RAt w P D v n ⟨⟨n, self, wait, role, lead, term, ticks, ws⟩, every, limit, now, ats⟩) (hs : Sync xs ats n self limit now) (f : Int)
    (hn0 : 0 ≤ self) (hn1 : self < n) (hn8 : n ≤ 8) (hws : ws.length ≤ 1048000) (hq1 : ¬ f < 0) (hq2 : ¬ n ≤ f) (hq0 : f ≠ self) (hr : role ≠ 1) :
    Calls Try.prog 12 #[.pointer (some ⟨P, 0, none⟩), .agg #[.int .i64 2, .int .i64 f, .int .i64 self, .int .i64 0]] w fun e w' => e = .returned (.int .i64 0) ∧ ∃ u, RAt w' P D u n ⟨⟨n, self, wait, role, lead, term, ticks, ws⟩, every, limit, now, ratsR ats n now f⟩ ∧ Stp (rfp P D v) (rfp P D u) w w' := by
  have HB := Lib.hid (And.intro hn0 (And.intro hn1 (And.intro hn8 hws)))
  have HS := Lib.hid hs
  have hbq : (f == self) = false := by simp [hq0]
  clear hq0
  have hrb : (role == 1) = false := by simp [hr]
  clear hr
  clear hs hn0 hn1 hn8 hws
  go_enter Try.func12, Try.ntmps12
  go_upto_region 1 with (fail)
  have HT := Lib.hid (RTS.start h #[.int .i64 2, .int .i64 f, .int .i64 self, .int .i64 0])
  clear h
  generalize w.alloc (.cells #[.int .i64 2, .int .i64 f, .int .i64 self, .int .i64 0] 31) = wc at HT ⊢
  generalize w.heap.size = B at HT ⊢
  have c0 : wc.cell? ⟨P, 0, none⟩ = some (.int .i64 n) := HT.out.p.nd.r.cell 0 _ rfl
  have c1 : wc.cell? ⟨P, 1, none⟩ = some (.int .i64 self) := HT.out.p.nd.r.cell 1 _ rfl
  have c3 : wc.cell? ⟨P, 3, none⟩ = some (.int .i64 role) := HT.out.p.nd.r.cell 3 _ rfl
  have c4 : wc.cell? ⟨P, 4, none⟩ = some (.int .i64 lead) := HT.out.p.nd.r.cell 4 _ rfl
  have c5 : wc.cell? ⟨P, 5, none⟩ = some (.int .i64 term) := HT.out.p.nd.r.cell 5 _ rfl
  have c6 : wc.cell? ⟨P, 6, none⟩ = some (.int .i64 ticks) := HT.out.p.nd.r.cell 6 _ rfl
  have c7 : wc.cell? ⟨P, 7, none⟩ = some (ptr D) := HT.out.p.nd.r.cell 7 _ rfl
  have cf : ∀ i, wc.frozen? ⟨P, i, none⟩ = false := HT.out.p.nd.r.free
  have b0 : wc.cell? ⟨B, 0, none⟩ = some (.int .i64 2) := HT.out.b.cell 0 _ rfl
  have b1 : wc.cell? ⟨B, 1, none⟩ = some (.int .i64 f) := HT.out.b.cell 1 _ rfl
  have b2 : wc.cell? ⟨B, 2, none⟩ = some (.int .i64 self) := HT.out.b.cell 2 _ rfl
  have b3 : wc.cell? ⟨B, 3, none⟩ = some (.int .i64 0) := HT.out.b.cell 3 _ rfl
  refine region_gen (Rd wc) (by kernel_rfl) (by kernel_rfl) (Rd.start _) ?_
  repeat
    (refine step_gen (by decide) (by rfl) (fun K hK => ?_)
     go_simp
     first
       | (with_reducible refine Sk.of Rd.skips ?_
          refine hK _ _ _ ?_
          clear hK K)
       | (with_reducible apply H1.one
          · intro σ wv hk hd hv
            obtain ⟨⟨m_, rfl⟩⟩ := hv
            go_simp
            (with_reducible refine ⟨rfl, ?_⟩)
            exact ⟨m_, rfl⟩
          refine hK _ _ _ ?_
          clear hK K))
  refine nil_gen ?_
  rintro σ wv - - ⟨⟨nq, rfl⟩⟩
  clear σ
  have HT2 := Lib.hid (HT.out.drewN nq)
  clear HT
  generalize wc.drewN nq = w1 at HT2 ⊢
  clear c0 c1 c3 c4 c5 c6 c7 cf b0 b1 b2 b3
  have HT := HT2
  clear HT2
  have c0 : w1.cell? ⟨P, 0, none⟩ = some (.int .i64 n) := HT.out.p.nd.r.cell 0 _ rfl
  have c1 : w1.cell? ⟨P, 1, none⟩ = some (.int .i64 self) := HT.out.p.nd.r.cell 1 _ rfl
  have c3 : w1.cell? ⟨P, 3, none⟩ = some (.int .i64 role) := HT.out.p.nd.r.cell 3 _ rfl
  have c4 : w1.cell? ⟨P, 4, none⟩ = some (.int .i64 lead) := HT.out.p.nd.r.cell 4 _ rfl
  have c5 : w1.cell? ⟨P, 5, none⟩ = some (.int .i64 term) := HT.out.p.nd.r.cell 5 _ rfl
  have c6 : w1.cell? ⟨P, 6, none⟩ = some (.int .i64 ticks) := HT.out.p.nd.r.cell 6 _ rfl
  have c7 : w1.cell? ⟨P, 7, none⟩ = some (ptr D) := HT.out.p.nd.r.cell 7 _ rfl
  have cf : ∀ i, w1.frozen? ⟨P, i, none⟩ = false := HT.out.p.nd.r.free
  have b0 : w1.cell? ⟨B, 0, none⟩ = some (.int .i64 2) := HT.out.b.cell 0 _ rfl
  have b1 : w1.cell? ⟨B, 1, none⟩ = some (.int .i64 f) := HT.out.b.cell 1 _ rfl
  have b2 : w1.cell? ⟨B, 2, none⟩ = some (.int .i64 self) := HT.out.b.cell 2 _ rfl
  have b3 : w1.cell? ⟨B, 3, none⟩ = some (.int .i64 0) := HT.out.b.cell 3 _ rfl
  go_upto_region 5 with (fail)
  refine region_gen (Cl 6 w1 (fun wv => wv.cell? ⟨P, 7, none⟩ = some (ptr D) ∧ wv.cell? ⟨B, 1, none⟩ = some (.int .i64 f)) (fun _ wv => RTS w wv P D v v n ⟨⟨n, self, wait, role, lead, term, ticks, ws⟩, every, limit, now, ratsR ats n now f⟩ B #[.int .i64 2, .int .i64 f, .int .i64 self, .int .i64 0])) (by kernel_rfl) (by kernel_rfl) (Cl.start ⟨c7, b1⟩) ?_
  repeat
    (refine step_gen (by decide) (by rfl) (fun K hK => ?_)
     go_simp
     first
       | (with_reducible apply H1.one
          · intro σ wv hk hd hv
            obtain ⟨z7, z1⟩ := hv.i
            have Hv := Lib.hid hv
            clear hv
            go_simp
            (first
              | (with_reducible refine ⟨rfl, ?_⟩; exact Cl.pure Hv.out (by decide))
              | (obtain ⟨m_, rfl⟩ := Hv.out.a hk
                 refine (rheard_any (HT.out.p.dt.drewN m_) HS.out f).mono ?_
                 rintro e2 w2 ⟨rfl, hd2, hk2⟩
                 have ht2 := (HT.out.drewN m_).det hd2 hk2
                 exact ⟨_, rfl, rfl, Cl.call ⟨ht2.p.nd.r.cell 7 _ rfl, ht2.b.cell 1 _ rfl⟩ ht2⟩))
          refine hK _ _ _ ?_
          clear hK K))
  refine nil_gen ?_
  intro σ w2 hall ht hv
  have hn6 := hall 6 (by decide)
  cases e6 : σ 6 with
  | none => rw [e6] at hn6; cases hn6
  | some y =>
  have HT2 := Lib.hid (hv.b y e6)
  clear hv hall ht hn6 e6 HT
  clear c0 c1 c3 c4 c5 c6 c7 cf b0 b1 b2 b3
  clear y σ
  have HT := HT2
  clear HT2
  have c0 : w2.cell? ⟨P, 0, none⟩ = some (.int .i64 n) := HT.out.p.nd.r.cell 0 _ rfl
  have c1 : w2.cell? ⟨P, 1, none⟩ = some (.int .i64 self) := HT.out.p.nd.r.cell 1 _ rfl
  have c3 : w2.cell? ⟨P, 3, none⟩ = some (.int .i64 role) := HT.out.p.nd.r.cell 3 _ rfl
  have c4 : w2.cell? ⟨P, 4, none⟩ = some (.int .i64 lead) := HT.out.p.nd.r.cell 4 _ rfl
  have c5 : w2.cell? ⟨P, 5, none⟩ = some (.int .i64 term) := HT.out.p.nd.r.cell 5 _ rfl
  have c6 : w2.cell? ⟨P, 6, none⟩ = some (.int .i64 ticks) := HT.out.p.nd.r.cell 6 _ rfl
  have c7 : w2.cell? ⟨P, 7, none⟩ = some (ptr D) := HT.out.p.nd.r.cell 7 _ rfl
  have cf : ∀ i, w2.frozen? ⟨P, i, none⟩ = false := HT.out.p.nd.r.free
  have b0 : w2.cell? ⟨B, 0, none⟩ = some (.int .i64 2) := HT.out.b.cell 0 _ rfl
  have b1 : w2.cell? ⟨B, 1, none⟩ = some (.int .i64 f) := HT.out.b.cell 1 _ rfl
  have b2 : w2.cell? ⟨B, 2, none⟩ = some (.int .i64 self) := HT.out.b.cell 2 _ rfl
  have b3 : w2.cell? ⟨B, 3, none⟩ = some (.int .i64 0) := HT.out.b.cell 3 _ rfl
  go_upto_region 6 with (fail)
  refine region_gen (Rd w2) (by kernel_rfl) (by kernel_rfl) (Rd.start _) ?_
  repeat
    (refine step_gen (by decide) (by rfl) (fun K hK => ?_)
     go_simp
     first
       | (with_reducible refine Sk.of Rd.skips ?_
          refine hK _ _ _ ?_
          clear hK K)
       | (with_reducible apply H1.one
          · intro σ wv hk hd hv
            obtain ⟨⟨m_, rfl⟩⟩ := hv
            go_simp
            (with_reducible refine ⟨rfl, ?_⟩)
            exact ⟨m_, rfl⟩
          refine hK _ _ _ ?_
          clear hK K))
  refine nil_gen ?_
  rintro σ wv - - ⟨⟨nq, rfl⟩⟩
  clear σ
  have HT2 := Lib.hid (HT.out.drewN nq)
  clear HT
  generalize w2.drewN nq = w3 at HT2 ⊢
  clear c0 c1 c3 c4 c5 c6 c7 cf b0 b1 b2 b3
  have HT := HT2
  clear HT2
  have c0 : w3.cell? ⟨P, 0, none⟩ = some (.int .i64 n) := HT.out.p.nd.r.cell 0 _ rfl
  have c1 : w3.cell? ⟨P, 1, none⟩ = some (.int .i64 self) := HT.out.p.nd.r.cell 1 _ rfl
  have c3 : w3.cell? ⟨P, 3, none⟩ = some (.int .i64 role) := HT.out.p.nd.r.cell 3 _ rfl
  have c4 : w3.cell? ⟨P, 4, none⟩ = some (.int .i64 lead) := HT.out.p.nd.r.cell 4 _ rfl
  have c5 : w3.cell? ⟨P, 5, none⟩ = some (.int .i64 term) := HT.out.p.nd.r.cell 5 _ rfl
  have c6 : w3.cell? ⟨P, 6, none⟩ = some (.int .i64 ticks) := HT.out.p.nd.r.cell 6 _ rfl
  have c7 : w3.cell? ⟨P, 7, none⟩ = some (ptr D) := HT.out.p.nd.r.cell 7 _ rfl
  have cf : ∀ i, w3.frozen? ⟨P, i, none⟩ = false := HT.out.p.nd.r.free
  have b0 : w3.cell? ⟨B, 0, none⟩ = some (.int .i64 2) := HT.out.b.cell 0 _ rfl
  have b1 : w3.cell? ⟨B, 1, none⟩ = some (.int .i64 f) := HT.out.b.cell 1 _ rfl
  have b2 : w3.cell? ⟨B, 2, none⟩ = some (.int .i64 self) := HT.out.b.cell 2 _ rfl
  have b3 : w3.cell? ⟨B, 3, none⟩ = some (.int .i64 0) := HT.out.b.cell 3 _ rfl
  go_upto_region 13 with (fail)
  refine region_gen (Rd w3) (by kernel_rfl) (by kernel_rfl) (Rd.start _) ?_
  repeat
    (refine step_gen (by decide) (by rfl) (fun K hK => ?_)
     go_simp
     first
       | (with_reducible refine Sk.of Rd.skips ?_
          refine hK _ _ _ ?_
          clear hK K)
       | (with_reducible apply H1.one
          · intro σ wv hk hd hv
            obtain ⟨⟨m_, rfl⟩⟩ := hv
            go_simp
            (with_reducible refine ⟨rfl, ?_⟩)
            exact ⟨m_, rfl⟩
          refine hK _ _ _ ?_
          clear hK K))
  refine nil_gen ?_
  rintro σ wv - - ⟨⟨nq, rfl⟩⟩
  clear σ
  have HT2 := Lib.hid (HT.out.drewN nq)
  clear HT
  generalize w3.drewN nq = w4 at HT2 ⊢
  clear c0 c1 c3 c4 c5 c6 c7 cf b0 b1 b2 b3
  have HT := HT2
  clear HT2
  have c0 : w4.cell? ⟨P, 0, none⟩ = some (.int .i64 n) := HT.out.p.nd.r.cell 0 _ rfl
  have c1 : w4.cell? ⟨P, 1, none⟩ = some (.int .i64 self) := HT.out.p.nd.r.cell 1 _ rfl
  have c3 : w4.cell? ⟨P, 3, none⟩ = some (.int .i64 role) := HT.out.p.nd.r.cell 3 _ rfl
  have c4 : w4.cell? ⟨P, 4, none⟩ = some (.int .i64 lead) := HT.out.p.nd.r.cell 4 _ rfl
  have c5 : w4.cell? ⟨P, 5, none⟩ = some (.int .i64 term) := HT.out.p.nd.r.cell 5 _ rfl
  have c6 : w4.cell? ⟨P, 6, none⟩ = some (.int .i64 ticks) := HT.out.p.nd.r.cell 6 _ rfl
  have c7 : w4.cell? ⟨P, 7, none⟩ = some (ptr D) := HT.out.p.nd.r.cell 7 _ rfl
  have cf : ∀ i, w4.frozen? ⟨P, i, none⟩ = false := HT.out.p.nd.r.free
  have b0 : w4.cell? ⟨B, 0, none⟩ = some (.int .i64 2) := HT.out.b.cell 0 _ rfl
  have b1 : w4.cell? ⟨B, 1, none⟩ = some (.int .i64 f) := HT.out.b.cell 1 _ rfl
  have b2 : w4.cell? ⟨B, 2, none⟩ = some (.int .i64 self) := HT.out.b.cell 2 _ rfl
  have b3 : w4.cell? ⟨B, 3, none⟩ = some (.int .i64 0) := HT.out.b.cell 3 _ rfl
  go_wp2
  go_ret
  exact ⟨rfl, _, HT.out.p, HT.out.u⟩
set_option maxRecDepth 100000 in
set_option maxHeartbeats 4000000 in
theorem rtake3n {w : World} {P D n : Nat} {v : Value} {self wait role lead term ticks : Int} {ws : List Wd} {every now : Nat} {limit : Int} {xs ats : List Int} (h : RAt w P D v n ⟨⟨n, self, wait, role, lead, term, ticks, ws⟩, every, limit, now, ats⟩) (hs : Sync xs ats n self limit now) (f m : Int)
    (hn0 : 0 ≤ self) (hn1 : self < n) (hn8 : n ≤ 8) (hws : ws.length ≤ 1048000) (hq1 : ¬ f < 0) (hq2 : ¬ n ≤ f) (hq0 : f ≠ self) (hm1 : 0 < m) (hm2 : m ≤ 1073741824) (hq : m < term) :
    Calls Try.prog 12 #[.pointer (some ⟨P, 0, none⟩), .agg #[.int .i64 3, .int .i64 f, .int .i64 self, .int .i64 m]] w fun e w' => e = .returned (.int .i64 0) ∧ ∃ u, RAt w' P D u n ⟨⟨n, self, wait, role, lead, term, ticks, ws⟩, every, limit, now, ratsR ats n now f⟩ ∧ Stp (rfp P D v) (rfp P D u) w w' := by
  have HB := Lib.hid (And.intro hn0 (And.intro hn1 (And.intro hn8 hws)))
  have HS := Lib.hid hs
  have hbq : (f == self) = false := by simp [hq0]
  clear hq0
  have hm3 : ¬ m < 0 := by omega
  clear hs hn0 hn1 hn8 hws
  go_enter Try.func12, Try.ntmps12
  go_upto_region 1 with (fail)
  have HT := Lib.hid (RTS.start h #[.int .i64 3, .int .i64 f, .int .i64 self, .int .i64 m])
  clear h
  generalize w.alloc (.cells #[.int .i64 3, .int .i64 f, .int .i64 self, .int .i64 m] 31) = wc at HT ⊢
  generalize w.heap.size = B at HT ⊢
  have c0 : wc.cell? ⟨P, 0, none⟩ = some (.int .i64 n) := HT.out.p.nd.r.cell 0 _ rfl
  have c1 : wc.cell? ⟨P, 1, none⟩ = some (.int .i64 self) := HT.out.p.nd.r.cell 1 _ rfl
  have c3 : wc.cell? ⟨P, 3, none⟩ = some (.int .i64 role) := HT.out.p.nd.r.cell 3 _ rfl
  have c4 : wc.cell? ⟨P, 4, none⟩ = some (.int .i64 lead) := HT.out.p.nd.r.cell 4 _ rfl
  have c5 : wc.cell? ⟨P, 5, none⟩ = some (.int .i64 term) := HT.out.p.nd.r.cell 5 _ rfl
  have c6 : wc.cell? ⟨P, 6, none⟩ = some (.int .i64 ticks) := HT.out.p.nd.r.cell 6 _ rfl
  have c7 : wc.cell? ⟨P, 7, none⟩ = some (ptr D) := HT.out.p.nd.r.cell 7 _ rfl
  have cf : ∀ i, wc.frozen? ⟨P, i, none⟩ = false := HT.out.p.nd.r.free
  have b0 : wc.cell? ⟨B, 0, none⟩ = some (.int .i64 3) := HT.out.b.cell 0 _ rfl
  have b1 : wc.cell? ⟨B, 1, none⟩ = some (.int .i64 f) := HT.out.b.cell 1 _ rfl
  have b2 : wc.cell? ⟨B, 2, none⟩ = some (.int .i64 self) := HT.out.b.cell 2 _ rfl
  have b3 : wc.cell? ⟨B, 3, none⟩ = some (.int .i64 m) := HT.out.b.cell 3 _ rfl
  refine region_gen (Rd wc) (by kernel_rfl) (by kernel_rfl) (Rd.start _) ?_
  repeat
    (refine step_gen (by decide) (by rfl) (fun K hK => ?_)
     go_simp
     first
       | (with_reducible refine Sk.of Rd.skips ?_
          refine hK _ _ _ ?_
          clear hK K)
       | (with_reducible apply H1.one
          · intro σ wv hk hd hv
            obtain ⟨⟨m_, rfl⟩⟩ := hv
            go_simp
            (with_reducible refine ⟨rfl, ?_⟩)
            exact ⟨m_, rfl⟩
          refine hK _ _ _ ?_
          clear hK K))
  refine nil_gen ?_
  rintro σ wv - - ⟨⟨nq, rfl⟩⟩
  clear σ
  have HT2 := Lib.hid (HT.out.drewN nq)
  clear HT
  generalize wc.drewN nq = w1 at HT2 ⊢
  clear c0 c1 c3 c4 c5 c6 c7 cf b0 b1 b2 b3
  have HT := HT2
  clear HT2
  have c0 : w1.cell? ⟨P, 0, none⟩ = some (.int .i64 n) := HT.out.p.nd.r.cell 0 _ rfl
  have c1 : w1.cell? ⟨P, 1, none⟩ = some (.int .i64 self) := HT.out.p.nd.r.cell 1 _ rfl
  have c3 : w1.cell? ⟨P, 3, none⟩ = some (.int .i64 role) := HT.out.p.nd.r.cell 3 _ rfl
  have c4 : w1.cell? ⟨P, 4, none⟩ = some (.int .i64 lead) := HT.out.p.nd.r.cell 4 _ rfl
  have c5 : w1.cell? ⟨P, 5, none⟩ = some (.int .i64 term) := HT.out.p.nd.r.cell 5 _ rfl
  have c6 : w1.cell? ⟨P, 6, none⟩ = some (.int .i64 ticks) := HT.out.p.nd.r.cell 6 _ rfl
  have c7 : w1.cell? ⟨P, 7, none⟩ = some (ptr D) := HT.out.p.nd.r.cell 7 _ rfl
  have cf : ∀ i, w1.frozen? ⟨P, i, none⟩ = false := HT.out.p.nd.r.free
  have b0 : w1.cell? ⟨B, 0, none⟩ = some (.int .i64 3) := HT.out.b.cell 0 _ rfl
  have b1 : w1.cell? ⟨B, 1, none⟩ = some (.int .i64 f) := HT.out.b.cell 1 _ rfl
  have b2 : w1.cell? ⟨B, 2, none⟩ = some (.int .i64 self) := HT.out.b.cell 2 _ rfl
  have b3 : w1.cell? ⟨B, 3, none⟩ = some (.int .i64 m) := HT.out.b.cell 3 _ rfl
  go_upto_region 5 with (fail)
  refine region_gen (Cl 6 w1 (fun wv => wv.cell? ⟨P, 7, none⟩ = some (ptr D) ∧ wv.cell? ⟨B, 1, none⟩ = some (.int .i64 f)) (fun _ wv => RTS w wv P D v v n ⟨⟨n, self, wait, role, lead, term, ticks, ws⟩, every, limit, now, ratsR ats n now f⟩ B #[.int .i64 3, .int .i64 f, .int .i64 self, .int .i64 m])) (by kernel_rfl) (by kernel_rfl) (Cl.start ⟨c7, b1⟩) ?_
  repeat
    (refine step_gen (by decide) (by rfl) (fun K hK => ?_)
     go_simp
     first
       | (with_reducible apply H1.one
          · intro σ wv hk hd hv
            obtain ⟨z7, z1⟩ := hv.i
            have Hv := Lib.hid hv
            clear hv
            go_simp
            (first
              | (with_reducible refine ⟨rfl, ?_⟩; exact Cl.pure Hv.out (by decide))
              | (obtain ⟨m_, rfl⟩ := Hv.out.a hk
                 refine (rheard_any (HT.out.p.dt.drewN m_) HS.out f).mono ?_
                 rintro e2 w2 ⟨rfl, hd2, hk2⟩
                 have ht2 := (HT.out.drewN m_).det hd2 hk2
                 exact ⟨_, rfl, rfl, Cl.call ⟨ht2.p.nd.r.cell 7 _ rfl, ht2.b.cell 1 _ rfl⟩ ht2⟩))
          refine hK _ _ _ ?_
          clear hK K))
  refine nil_gen ?_
  intro σ w2 hall ht hv
  have hn6 := hall 6 (by decide)
  cases e6 : σ 6 with
  | none => rw [e6] at hn6; cases hn6
  | some y =>
  have HT2 := Lib.hid (hv.b y e6)
  clear hv hall ht hn6 e6 HT
  clear c0 c1 c3 c4 c5 c6 c7 cf b0 b1 b2 b3
  clear y σ
  have HT := HT2
  clear HT2
  have c0 : w2.cell? ⟨P, 0, none⟩ = some (.int .i64 n) := HT.out.p.nd.r.cell 0 _ rfl
  have c1 : w2.cell? ⟨P, 1, none⟩ = some (.int .i64 self) := HT.out.p.nd.r.cell 1 _ rfl
  have c3 : w2.cell? ⟨P, 3, none⟩ = some (.int .i64 role) := HT.out.p.nd.r.cell 3 _ rfl
  have c4 : w2.cell? ⟨P, 4, none⟩ = some (.int .i64 lead) := HT.out.p.nd.r.cell 4 _ rfl
  have c5 : w2.cell? ⟨P, 5, none⟩ = some (.int .i64 term) := HT.out.p.nd.r.cell 5 _ rfl
  have c6 : w2.cell? ⟨P, 6, none⟩ = some (.int .i64 ticks) := HT.out.p.nd.r.cell 6 _ rfl
  have c7 : w2.cell? ⟨P, 7, none⟩ = some (ptr D) := HT.out.p.nd.r.cell 7 _ rfl
  have cf : ∀ i, w2.frozen? ⟨P, i, none⟩ = false := HT.out.p.nd.r.free
  have b0 : w2.cell? ⟨B, 0, none⟩ = some (.int .i64 3) := HT.out.b.cell 0 _ rfl
  have b1 : w2.cell? ⟨B, 1, none⟩ = some (.int .i64 f) := HT.out.b.cell 1 _ rfl
  have b2 : w2.cell? ⟨B, 2, none⟩ = some (.int .i64 self) := HT.out.b.cell 2 _ rfl
  have b3 : w2.cell? ⟨B, 3, none⟩ = some (.int .i64 m) := HT.out.b.cell 3 _ rfl
  go_upto_region 6 with (fail)
  refine region_gen (Rd w2) (by kernel_rfl) (by kernel_rfl) (Rd.start _) ?_
  repeat
    (refine step_gen (by decide) (by rfl) (fun K hK => ?_)
     go_simp
     first
       | (with_reducible refine Sk.of Rd.skips ?_
          refine hK _ _ _ ?_
          clear hK K)
       | (with_reducible apply H1.one
          · intro σ wv hk hd hv
            obtain ⟨⟨m_, rfl⟩⟩ := hv
            go_simp
            (with_reducible refine ⟨rfl, ?_⟩)
            exact ⟨m_, rfl⟩
          refine hK _ _ _ ?_
          clear hK K))
  refine nil_gen ?_
  rintro σ wv - - ⟨⟨nq, rfl⟩⟩
  clear σ
  have HT2 := Lib.hid (HT.out.drewN nq)
  clear HT
  generalize w2.drewN nq = w3 at HT2 ⊢
  clear c0 c1 c3 c4 c5 c6 c7 cf b0 b1 b2 b3
  have HT := HT2
  clear HT2
  have c0 : w3.cell? ⟨P, 0, none⟩ = some (.int .i64 n) := HT.out.p.nd.r.cell 0 _ rfl
  have c1 : w3.cell? ⟨P, 1, none⟩ = some (.int .i64 self) := HT.out.p.nd.r.cell 1 _ rfl
  have c3 : w3.cell? ⟨P, 3, none⟩ = some (.int .i64 role) := HT.out.p.nd.r.cell 3 _ rfl
  have c4 : w3.cell? ⟨P, 4, none⟩ = some (.int .i64 lead) := HT.out.p.nd.r.cell 4 _ rfl
  have c5 : w3.cell? ⟨P, 5, none⟩ = some (.int .i64 term) := HT.out.p.nd.r.cell 5 _ rfl
  have c6 : w3.cell? ⟨P, 6, none⟩ = some (.int .i64 ticks) := HT.out.p.nd.r.cell 6 _ rfl
  have c7 : w3.cell? ⟨P, 7, none⟩ = some (ptr D) := HT.out.p.nd.r.cell 7 _ rfl
  have cf : ∀ i, w3.frozen? ⟨P, i, none⟩ = false := HT.out.p.nd.r.free
  have b0 : w3.cell? ⟨B, 0, none⟩ = some (.int .i64 3) := HT.out.b.cell 0 _ rfl
  have b1 : w3.cell? ⟨B, 1, none⟩ = some (.int .i64 f) := HT.out.b.cell 1 _ rfl
  have b2 : w3.cell? ⟨B, 2, none⟩ = some (.int .i64 self) := HT.out.b.cell 2 _ rfl
  have b3 : w3.cell? ⟨B, 3, none⟩ = some (.int .i64 m) := HT.out.b.cell 3 _ rfl
  go_upto_region 13 with (fail)
  refine region_gen (Rd w3) (by kernel_rfl) (by kernel_rfl) (Rd.start _) ?_
  repeat
    (refine step_gen (by decide) (by rfl) (fun K hK => ?_)
     go_simp
     first
       | (with_reducible refine Sk.of Rd.skips ?_
          refine hK _ _ _ ?_
          clear hK K)
       | (with_reducible apply H1.one
          · intro σ wv hk hd hv
            obtain ⟨⟨m_, rfl⟩⟩ := hv
            go_simp
            (with_reducible refine ⟨rfl, ?_⟩)
            exact ⟨m_, rfl⟩
          refine hK _ _ _ ?_
          clear hK K))
  refine nil_gen ?_
  rintro σ wv - - ⟨⟨nq, rfl⟩⟩
  clear σ
  have HT2 := Lib.hid (HT.out.drewN nq)
  clear HT
  generalize w3.drewN nq = w4 at HT2 ⊢
  clear c0 c1 c3 c4 c5 c6 c7 cf b0 b1 b2 b3
  have HT := HT2
  clear HT2
  have c0 : w4.cell? ⟨P, 0, none⟩ = some (.int .i64 n) := HT.out.p.nd.r.cell 0 _ rfl
  have c1 : w4.cell? ⟨P, 1, none⟩ = some (.int .i64 self) := HT.out.p.nd.r.cell 1 _ rfl
  have c3 : w4.cell? ⟨P, 3, none⟩ = some (.int .i64 role) := HT.out.p.nd.r.cell 3 _ rfl
  have c4 : w4.cell? ⟨P, 4, none⟩ = some (.int .i64 lead) := HT.out.p.nd.r.cell 4 _ rfl
  have c5 : w4.cell? ⟨P, 5, none⟩ = some (.int .i64 term) := HT.out.p.nd.r.cell 5 _ rfl
  have c6 : w4.cell? ⟨P, 6, none⟩ = some (.int .i64 ticks) := HT.out.p.nd.r.cell 6 _ rfl
  have c7 : w4.cell? ⟨P, 7, none⟩ = some (ptr D) := HT.out.p.nd.r.cell 7 _ rfl
  have cf : ∀ i, w4.frozen? ⟨P, i, none⟩ = false := HT.out.p.nd.r.free
  have b0 : w4.cell? ⟨B, 0, none⟩ = some (.int .i64 3) := HT.out.b.cell 0 _ rfl
  have b1 : w4.cell? ⟨B, 1, none⟩ = some (.int .i64 f) := HT.out.b.cell 1 _ rfl
  have b2 : w4.cell? ⟨B, 2, none⟩ = some (.int .i64 self) := HT.out.b.cell 2 _ rfl
  have b3 : w4.cell? ⟨B, 3, none⟩ = some (.int .i64 m) := HT.out.b.cell 3 _ rfl
  go_wp2
  go_ret
  exact ⟨rfl, _, HT.out.p, HT.out.u⟩
set_option maxRecDepth 100000 in
set_option maxHeartbeats 4000000 in
theorem rtake3y {w : World} {P D n : Nat} {v : Value} {self wait role lead term ticks : Int} {ws : List Wd} {every now : Nat} {limit : Int} {xs ats : List Int} (h : RAt w P D v n ⟨⟨n, self, wait, role, lead, term, ticks, ws⟩, every, limit, now, ats⟩) (hs : Sync xs ats n self limit now) (f m : Int)
    (hn0 : 0 ≤ self) (hn1 : self < n) (hn8 : n ≤ 8) (hws : ws.length ≤ 1048000) (hq1 : ¬ f < 0) (hq2 : ¬ n ≤ f) (hq0 : f ≠ self) (hm1 : 0 < m) (hm2 : m ≤ 1073741824) (hq : term ≤ m) :
    Calls Try.prog 12 #[.pointer (some ⟨P, 0, none⟩), .agg #[.int .i64 3, .int .i64 f, .int .i64 self, .int .i64 m]] w fun e w' => e = .returned (.int .i64 0) ∧ ∃ u, RAt w' P D u n ⟨⟨n, self, wait, 0, f, m, ticks, ws⟩, every, limit, now, ratsR ats n now f⟩ ∧ Stp (rfp P D v) (rfp P D u) w w' := by
  have HB := Lib.hid (And.intro hn0 (And.intro hn1 (And.intro hn8 hws)))
  have HS := Lib.hid hs
  have hbq : (f == self) = false := by simp [hq0]
  clear hq0
  have hm3 : ¬ m < 0 := by omega
  clear hs hn0 hn1 hn8 hws
  go_enter Try.func12, Try.ntmps12
  go_upto_region 1 with (fail)
  have HT := Lib.hid (RTS.start h #[.int .i64 3, .int .i64 f, .int .i64 self, .int .i64 m])
  clear h
  generalize w.alloc (.cells #[.int .i64 3, .int .i64 f, .int .i64 self, .int .i64 m] 31) = wc at HT ⊢
  generalize w.heap.size = B at HT ⊢
  have c0 : wc.cell? ⟨P, 0, none⟩ = some (.int .i64 n) := HT.out.p.nd.r.cell 0 _ rfl
  have c1 : wc.cell? ⟨P, 1, none⟩ = some (.int .i64 self) := HT.out.p.nd.r.cell 1 _ rfl
  have c3 : wc.cell? ⟨P, 3, none⟩ = some (.int .i64 role) := HT.out.p.nd.r.cell 3 _ rfl
  have c4 : wc.cell? ⟨P, 4, none⟩ = some (.int .i64 lead) := HT.out.p.nd.r.cell 4 _ rfl
  have c5 : wc.cell? ⟨P, 5, none⟩ = some (.int .i64 term) := HT.out.p.nd.r.cell 5 _ rfl
  have c6 : wc.cell? ⟨P, 6, none⟩ = some (.int .i64 ticks) := HT.out.p.nd.r.cell 6 _ rfl
  have c7 : wc.cell? ⟨P, 7, none⟩ = some (ptr D) := HT.out.p.nd.r.cell 7 _ rfl
  have cf : ∀ i, wc.frozen? ⟨P, i, none⟩ = false := HT.out.p.nd.r.free
  have b0 : wc.cell? ⟨B, 0, none⟩ = some (.int .i64 3) := HT.out.b.cell 0 _ rfl
  have b1 : wc.cell? ⟨B, 1, none⟩ = some (.int .i64 f) := HT.out.b.cell 1 _ rfl
  have b2 : wc.cell? ⟨B, 2, none⟩ = some (.int .i64 self) := HT.out.b.cell 2 _ rfl
  have b3 : wc.cell? ⟨B, 3, none⟩ = some (.int .i64 m) := HT.out.b.cell 3 _ rfl
  refine region_gen (Rd wc) (by kernel_rfl) (by kernel_rfl) (Rd.start _) ?_
  repeat
    (refine step_gen (by decide) (by rfl) (fun K hK => ?_)
     go_simp
     first
       | (with_reducible refine Sk.of Rd.skips ?_
          refine hK _ _ _ ?_
          clear hK K)
       | (with_reducible apply H1.one
          · intro σ wv hk hd hv
            obtain ⟨⟨m_, rfl⟩⟩ := hv
            go_simp
            (with_reducible refine ⟨rfl, ?_⟩)
            exact ⟨m_, rfl⟩
          refine hK _ _ _ ?_
          clear hK K))
  refine nil_gen ?_
  rintro σ wv - - ⟨⟨nq, rfl⟩⟩
  clear σ
  have HT2 := Lib.hid (HT.out.drewN nq)
  clear HT
  generalize wc.drewN nq = w1 at HT2 ⊢
  clear c0 c1 c3 c4 c5 c6 c7 cf b0 b1 b2 b3
  have HT := HT2
  clear HT2
  have c0 : w1.cell? ⟨P, 0, none⟩ = some (.int .i64 n) := HT.out.p.nd.r.cell 0 _ rfl
  have c1 : w1.cell? ⟨P, 1, none⟩ = some (.int .i64 self) := HT.out.p.nd.r.cell 1 _ rfl
  have c3 : w1.cell? ⟨P, 3, none⟩ = some (.int .i64 role) := HT.out.p.nd.r.cell 3 _ rfl
  have c4 : w1.cell? ⟨P, 4, none⟩ = some (.int .i64 lead) := HT.out.p.nd.r.cell 4 _ rfl
  have c5 : w1.cell? ⟨P, 5, none⟩ = some (.int .i64 term) := HT.out.p.nd.r.cell 5 _ rfl
  have c6 : w1.cell? ⟨P, 6, none⟩ = some (.int .i64 ticks) := HT.out.p.nd.r.cell 6 _ rfl
  have c7 : w1.cell? ⟨P, 7, none⟩ = some (ptr D) := HT.out.p.nd.r.cell 7 _ rfl
  have cf : ∀ i, w1.frozen? ⟨P, i, none⟩ = false := HT.out.p.nd.r.free
  have b0 : w1.cell? ⟨B, 0, none⟩ = some (.int .i64 3) := HT.out.b.cell 0 _ rfl
  have b1 : w1.cell? ⟨B, 1, none⟩ = some (.int .i64 f) := HT.out.b.cell 1 _ rfl
  have b2 : w1.cell? ⟨B, 2, none⟩ = some (.int .i64 self) := HT.out.b.cell 2 _ rfl
  have b3 : w1.cell? ⟨B, 3, none⟩ = some (.int .i64 m) := HT.out.b.cell 3 _ rfl
  go_upto_region 5 with (fail)
  refine region_gen (Cl 6 w1 (fun wv => wv.cell? ⟨P, 7, none⟩ = some (ptr D) ∧ wv.cell? ⟨B, 1, none⟩ = some (.int .i64 f)) (fun _ wv => RTS w wv P D v v n ⟨⟨n, self, wait, role, lead, term, ticks, ws⟩, every, limit, now, ratsR ats n now f⟩ B #[.int .i64 3, .int .i64 f, .int .i64 self, .int .i64 m])) (by kernel_rfl) (by kernel_rfl) (Cl.start ⟨c7, b1⟩) ?_
  repeat
    (refine step_gen (by decide) (by rfl) (fun K hK => ?_)
     go_simp
     first
       | (with_reducible apply H1.one
          · intro σ wv hk hd hv
            obtain ⟨z7, z1⟩ := hv.i
            have Hv := Lib.hid hv
            clear hv
            go_simp
            (first
              | (with_reducible refine ⟨rfl, ?_⟩; exact Cl.pure Hv.out (by decide))
              | (obtain ⟨m_, rfl⟩ := Hv.out.a hk
                 refine (rheard_any (HT.out.p.dt.drewN m_) HS.out f).mono ?_
                 rintro e2 w2 ⟨rfl, hd2, hk2⟩
                 have ht2 := (HT.out.drewN m_).det hd2 hk2
                 exact ⟨_, rfl, rfl, Cl.call ⟨ht2.p.nd.r.cell 7 _ rfl, ht2.b.cell 1 _ rfl⟩ ht2⟩))
          refine hK _ _ _ ?_
          clear hK K))
  refine nil_gen ?_
  intro σ w2 hall ht hv
  have hn6 := hall 6 (by decide)
  cases e6 : σ 6 with
  | none => rw [e6] at hn6; cases hn6
  | some y =>
  have HT2 := Lib.hid (hv.b y e6)
  clear hv hall ht hn6 e6 HT
  clear c0 c1 c3 c4 c5 c6 c7 cf b0 b1 b2 b3
  clear y σ
  have HT := HT2
  clear HT2
  have c0 : w2.cell? ⟨P, 0, none⟩ = some (.int .i64 n) := HT.out.p.nd.r.cell 0 _ rfl
  have c1 : w2.cell? ⟨P, 1, none⟩ = some (.int .i64 self) := HT.out.p.nd.r.cell 1 _ rfl
  have c3 : w2.cell? ⟨P, 3, none⟩ = some (.int .i64 role) := HT.out.p.nd.r.cell 3 _ rfl
  have c4 : w2.cell? ⟨P, 4, none⟩ = some (.int .i64 lead) := HT.out.p.nd.r.cell 4 _ rfl
  have c5 : w2.cell? ⟨P, 5, none⟩ = some (.int .i64 term) := HT.out.p.nd.r.cell 5 _ rfl
  have c6 : w2.cell? ⟨P, 6, none⟩ = some (.int .i64 ticks) := HT.out.p.nd.r.cell 6 _ rfl
  have c7 : w2.cell? ⟨P, 7, none⟩ = some (ptr D) := HT.out.p.nd.r.cell 7 _ rfl
  have cf : ∀ i, w2.frozen? ⟨P, i, none⟩ = false := HT.out.p.nd.r.free
  have b0 : w2.cell? ⟨B, 0, none⟩ = some (.int .i64 3) := HT.out.b.cell 0 _ rfl
  have b1 : w2.cell? ⟨B, 1, none⟩ = some (.int .i64 f) := HT.out.b.cell 1 _ rfl
  have b2 : w2.cell? ⟨B, 2, none⟩ = some (.int .i64 self) := HT.out.b.cell 2 _ rfl
  have b3 : w2.cell? ⟨B, 3, none⟩ = some (.int .i64 m) := HT.out.b.cell 3 _ rfl
  go_upto_region 6 with (fail)
  refine region_gen (Rd w2) (by kernel_rfl) (by kernel_rfl) (Rd.start _) ?_
  repeat
    (refine step_gen (by decide) (by rfl) (fun K hK => ?_)
     go_simp
     first
       | (with_reducible refine Sk.of Rd.skips ?_
          refine hK _ _ _ ?_
          clear hK K)
       | (with_reducible apply H1.one
          · intro σ wv hk hd hv
            obtain ⟨⟨m_, rfl⟩⟩ := hv
            go_simp
            (with_reducible refine ⟨rfl, ?_⟩)
            exact ⟨m_, rfl⟩
          refine hK _ _ _ ?_
          clear hK K))
  refine nil_gen ?_
  rintro σ wv - - ⟨⟨nq, rfl⟩⟩
  clear σ
  have HT2 := Lib.hid (HT.out.drewN nq)
  clear HT
  generalize w2.drewN nq = w3 at HT2 ⊢
  clear c0 c1 c3 c4 c5 c6 c7 cf b0 b1 b2 b3
  have HT := HT2
  clear HT2
  have c0 : w3.cell? ⟨P, 0, none⟩ = some (.int .i64 n) := HT.out.p.nd.r.cell 0 _ rfl
  have c1 : w3.cell? ⟨P, 1, none⟩ = some (.int .i64 self) := HT.out.p.nd.r.cell 1 _ rfl
  have c3 : w3.cell? ⟨P, 3, none⟩ = some (.int .i64 role) := HT.out.p.nd.r.cell 3 _ rfl
  have c4 : w3.cell? ⟨P, 4, none⟩ = some (.int .i64 lead) := HT.out.p.nd.r.cell 4 _ rfl
  have c5 : w3.cell? ⟨P, 5, none⟩ = some (.int .i64 term) := HT.out.p.nd.r.cell 5 _ rfl
  have c6 : w3.cell? ⟨P, 6, none⟩ = some (.int .i64 ticks) := HT.out.p.nd.r.cell 6 _ rfl
  have c7 : w3.cell? ⟨P, 7, none⟩ = some (ptr D) := HT.out.p.nd.r.cell 7 _ rfl
  have cf : ∀ i, w3.frozen? ⟨P, i, none⟩ = false := HT.out.p.nd.r.free
  have b0 : w3.cell? ⟨B, 0, none⟩ = some (.int .i64 3) := HT.out.b.cell 0 _ rfl
  have b1 : w3.cell? ⟨B, 1, none⟩ = some (.int .i64 f) := HT.out.b.cell 1 _ rfl
  have b2 : w3.cell? ⟨B, 2, none⟩ = some (.int .i64 self) := HT.out.b.cell 2 _ rfl
  have b3 : w3.cell? ⟨B, 3, none⟩ = some (.int .i64 m) := HT.out.b.cell 3 _ rfl
  go_upto_region 13 with (fail)
  refine region_gen (Rd w3) (by kernel_rfl) (by kernel_rfl) (Rd.start _) ?_
  repeat
    (refine step_gen (by decide) (by rfl) (fun K hK => ?_)
     go_simp
     first
       | (with_reducible refine Sk.of Rd.skips ?_
          refine hK _ _ _ ?_
          clear hK K)
       | (with_reducible apply H1.one
          · intro σ wv hk hd hv
            obtain ⟨⟨m_, rfl⟩⟩ := hv
            go_simp
            (with_reducible refine ⟨rfl, ?_⟩)
            exact ⟨m_, rfl⟩
          refine hK _ _ _ ?_
          clear hK K))
  refine nil_gen ?_
  rintro σ wv - - ⟨⟨nq, rfl⟩⟩
  clear σ
  have HT2 := Lib.hid (HT.out.drewN nq)
  clear HT
  generalize w3.drewN nq = w4 at HT2 ⊢
  clear c0 c1 c3 c4 c5 c6 c7 cf b0 b1 b2 b3
  have HT := HT2
  clear HT2
  have c0 : w4.cell? ⟨P, 0, none⟩ = some (.int .i64 n) := HT.out.p.nd.r.cell 0 _ rfl
  have c1 : w4.cell? ⟨P, 1, none⟩ = some (.int .i64 self) := HT.out.p.nd.r.cell 1 _ rfl
  have c3 : w4.cell? ⟨P, 3, none⟩ = some (.int .i64 role) := HT.out.p.nd.r.cell 3 _ rfl
  have c4 : w4.cell? ⟨P, 4, none⟩ = some (.int .i64 lead) := HT.out.p.nd.r.cell 4 _ rfl
  have c5 : w4.cell? ⟨P, 5, none⟩ = some (.int .i64 term) := HT.out.p.nd.r.cell 5 _ rfl
  have c6 : w4.cell? ⟨P, 6, none⟩ = some (.int .i64 ticks) := HT.out.p.nd.r.cell 6 _ rfl
  have c7 : w4.cell? ⟨P, 7, none⟩ = some (ptr D) := HT.out.p.nd.r.cell 7 _ rfl
  have cf : ∀ i, w4.frozen? ⟨P, i, none⟩ = false := HT.out.p.nd.r.free
  have b0 : w4.cell? ⟨B, 0, none⟩ = some (.int .i64 3) := HT.out.b.cell 0 _ rfl
  have b1 : w4.cell? ⟨B, 1, none⟩ = some (.int .i64 f) := HT.out.b.cell 1 _ rfl
  have b2 : w4.cell? ⟨B, 2, none⟩ = some (.int .i64 self) := HT.out.b.cell 2 _ rfl
  have b3 : w4.cell? ⟨B, 3, none⟩ = some (.int .i64 m) := HT.out.b.cell 3 _ rfl
  have HT2 := Lib.hid (((HT.out.set5 m).set4 f).set3 0)
  go_wp2
  go_ret
  exact ⟨rfl, _, HT2.out.p, HT2.out.u⟩
def RN.take (s : RN) (n : Nat) (y : Wd) : RN := if checkE s.x.n s.x.self y = 0 then { s with x := s.x.rtake y, ats := ratsR s.ats n s.now y.f } else s
theorem check_cases (n self : Int) (y : Wd) : (checkE n self y = 1 ∧ (y.t ≠ self ∨ y.f < 0 ∨ n ≤ y.f ∨ y.f = self)) ∨
    (y.t = self ∧ ¬ y.f < 0 ∧ ¬ n ≤ y.f ∧ y.f ≠ self ∧ ((checkE n self y = 6 ∧ (y.k < 1 ∨ 3 < y.k ∨ y.m < 0 ∨ 1073741824 < y.m ∨ ((y.k = 3) ≠ (0 < y.m)))) ∨ (checkE n self y = 0 ∧ ((y.k = 1 ∧ y.m = 0) ∨ (y.k = 2 ∧ y.m = 0) ∨ (y.k = 3 ∧ 0 < y.m ∧ y.m ≤ 1073741824))))) := by
  unfold checkE
  split
  · next h => exact .inl ⟨rfl, h⟩
  · next h =>
    simp only [not_or] at h
    refine .inr ⟨by omega, h.2.1, h.2.2.1, h.2.2.2, ?_⟩
    split
    · next h6 => exact .inl ⟨rfl, h6⟩
    · next h6 =>
      refine .inr ⟨rfl, ?_⟩
      simp only [not_or, ne_eq, Classical.not_not, eq_iff_iff] at h6
      obtain ⟨a1, a2, a3, a4, a5⟩ := h6
      by_cases e3 : y.k = 3
      · exact .inr (.inr ⟨e3, a5.1 e3, by omega⟩)
      · have : ¬ 0 < y.m := fun hh => e3 (a5.2 hh)
        omega
set_option maxHeartbeats 1000000 in
/-- The reference's node takes a word. -/
theorem rntake_any {w : World} {P D n : Nat} {v : Value} {s : RN} (h : RAt w P D v n s) (hn : s.x.n = n) {xs : List Int} (hs : Sync xs s.ats n s.x.self s.limit s.now) (y : Wd) (hn0 : 0 ≤ s.x.self) (hn1 : s.x.self < n) (hn8 : n ≤ 8) (hws : s.x.ws.length ≤ 1048000) :
    Calls Try.prog 12 #[.pointer (some ⟨P, 0, none⟩), .agg (wdc y).toArray] w fun e w' => e = .returned (.int .i64 (checkE s.x.n s.x.self y)) ∧ ∃ u, RAt w' P D u n (s.take n y) ∧ Stp (rfp P D v) (rfp P D u) w w' := by
  obtain ⟨⟨n0, self, wait, role, lead, term, ticks, ws⟩, every, limit, now, ats⟩ := s
  obtain ⟨k, f, t, m⟩ := y
  simp only at hn hs hn0 hn1 hws
  subst hn
  simp only [wdc, RN.take]
  rcases check_cases n self ⟨k, f, t, m⟩ with ⟨e, hh⟩ | ⟨ht, hf, hnf, hs2, ⟨e, hh⟩ | ⟨e, hh⟩⟩
  · rw [if_neg (by rw [e]; decide), e]
    simp only at hh
    by_cases h1 : t = self
    · subst h1
      by_cases h2 : f < 0
      · exact rtake_r1 h hs k f m hn0 hn1 hn8 hws h2
      · by_cases h3 : (n : Int) ≤ f
        · exact rtake_r2 h hs k f m hn0 hn1 hn8 hws h2 h3
        · obtain rfl : f = t := by omega
          exact rtake_r3 h hs k m hn0 hn1 hn8 hws h2 h3
    · exact rtake_r0 h hs k f t m hn0 hn1 hn8 hws h1
  · simp only at ht hf hnf hs2 hh
    subst ht
    rw [if_neg (by rw [e]; decide), e]
    exact rtake_6 h hs k f m hn0 hn1 hn8 hws hf hnf hs2 hh
  · simp only at ht hf hnf hs2 hh
    subst ht
    rw [if_pos e, e]
    rcases hh with ⟨rfl, rfl⟩ | ⟨rfl, rfl⟩ | ⟨rfl, hm1, hm2⟩
    · by_cases hq : t < f
      · simpa [Nd.rtake, hq] using rtake1g h hs f hn0 hn1 hn8 hws hf hnf hs2 hq
      · have hq2 : f < t := by omega
        by_cases hr : role = 0
        · subst hr
          simpa [Nd.rtake, hq] using rtake1a h hs f hn0 hn1 hn8 hws hf hnf hs2 hq2
        · simpa [Nd.rtake, hq, hr] using rtake1n h hs f hn0 hn1 hn8 hws hf hnf hs2 hq2 hr
    · by_cases hr : role = 1
      · subst hr
        simpa [Nd.rtake] using rtake2y h hs f hn0 hn1 hn8 hws hf hnf hs2
      · simpa [Nd.rtake, hr] using rtake2n h hs f hn0 hn1 hn8 hws hf hnf hs2 hr
    · by_cases hq : term ≤ m
      · simpa [Nd.rtake, hq] using rtake3y h hs f m hn0 hn1 hn8 hws hf hnf hs2 hm1 hm2 hq
      · simpa [Nd.rtake, hq] using rtake3n h hs f m hn0 hn1 hn8 hws hf hnf hs2 hm1 hm2 (by omega)
end Go.Proofs.Ytccmnphjiebiaaa
