/- A letter is sent; one is doubled. Conditions: the links lie whole in memory; not many letters are there. -/
import Derived.Test.YtppjjbhbbnnpgaaApp
namespace Go.Proofs.Ytppjjbhbbnnpgaa
open Go.RowKit G
set_option linter.unusedVariables false
set_option linter.unusedSimpArgs false
attribute [local go_sem] upon_value upon_skip upon_enter runAt_run
def Wn.sendE (x : Wn) (y : Lt) : Int := if linkB x.n y.f y.t = false then 1 else if 8192 < y.s.size then 7 else if x.out y.f.toNat y.t.toNat = true then 14 else if 96 ≤ x.ls.length then 2 else 0
def Wn.send (x : Wn) (y : Lt) : Wn := if x.sendE y = 0 then x.add y else if x.sendE y = 14 ∨ x.sendE y = 2 then { x with lost := x.lost + 1 } else x
/-- Links while a letter comes: the letter's own block beside them. -/
structure TW (T E : TypeId) (w0 w : World) (P : Nat) (v0 v : Value) (x : Wn) (B : Nat) (bx : Array Value) : Prop where
  p : WAt T E w P v x
  b : Row w B bx E
  n : B ∉ P :: own v
  u : Stp (wfp P v0) (wfp P v) w0 w
section
variable {T E : TypeId} {w0 w w' : World} {P : Nat} {v0 v : Value} {x : Wn} {B : Nat} {bx : Array Value}
theorem TW.start (h : WAt T E w P v x) (bx : Array Value) : TW T E w (w.alloc (.cells bx E)) P v v x w.heap.size bx :=
  ⟨h.below (below_new w _), Row.new _ _ _, fun hm => absurd (h.lts _ hm) (Nat.lt_irrefl _), Stp.same (Kept.of_below (below_new w _))⟩
theorem TW.drewN (h : TW T E w0 w P v0 v x B bx) (k : Nat) : TW T E w0 (w.drewN k) P v0 v x B bx := ⟨h.p.drewN k, h.b.drewN k, h.n, h.u.drewN k⟩
theorem TW.below (h : TW T E w0 w P v0 v x B bx) (hb : Below w.heap.size w w') : TW T E w0 w' P v0 v x B bx := ⟨h.p.below hb, h.b.below hb, h.n, h.u.trans (Stp.same (Kept.of_below hb))⟩
theorem TW.setC (h : TW T E w0 w P v0 v x B bx) (k : Int) : TW T E w0 (w.setCell ⟨P, 258, none⟩ (.int .i64 k)) P v0 v { x with lost := k } B bx :=
  ⟨h.p.setC k, h.b.setOther P 258 (fun e => h.n (by rw [← e]; exact List.mem_cons_self ..)) _, h.n, h.u.trans (stpC ..)⟩
end
set_option maxHeartbeats 4000000 in
theorem send_link {w : World} {P : Nat} {v : Value} {x : Wn} (h : WAt 58 34 w P v x) (hn16 : x.n ≤ 16) (hl : x.ls.length ≤ 96) (hc0 : 0 ≤ x.lost) (hc1 : x.lost ≤ 900000) (f t : Int) (s : ByteArray) (hlk : linkB x.n f t = false) :
    Calls Try.prog 8 #[.pointer (some ⟨P, 0, none⟩), .agg #[.int .i64 f, .int .i64 t, .string s]] w fun e w' => e = .returned (.int .i64 1) ∧ ∃ u, WAt 58 34 w' P u x ∧ Stp (wfp P v) (wfp P u) w w' := by
  have hwl : wrap64 (x.lost + 1) = x.lost + 1 := wrap64_mid (by omega) (by omega)
  clear hc0 hc1
  have HL := Lib.hid hlk
  clear hlk
  go_enter Try.func8, Try.ntmps8
  go_upto_region 1 with (fail)
  have HT := Lib.hid (TW.start h #[.int .i64 f, .int .i64 t, .string s])
  clear h
  generalize w.alloc (.cells #[.int .i64 f, .int .i64 t, .string s] 34) = wc at HT ⊢
  generalize w.heap.size = B at HT ⊢
  have c0 : wc.cell? ⟨P, 0, none⟩ = some (.int .i64 x.n) := HT.out.p.c0
  have c1 : wc.cell? ⟨P, 1, none⟩ = some v := HT.out.p.c1
  have cl : wc.cell? ⟨P, 258, none⟩ = some (.int .i64 x.lost) := HT.out.p.cl
  have cf : ∀ i, wc.frozen? ⟨P, i, none⟩ = false := HT.out.p.free
  have b0 : wc.cell? ⟨B, 0, none⟩ = some (.int .i64 f) := HT.out.b.cell 0 _ rfl
  have b1 : wc.cell? ⟨B, 1, none⟩ = some (.int .i64 t) := HT.out.b.cell 1 _ rfl
  have b2 : wc.cell? ⟨B, 2, none⟩ = some (.string s) := HT.out.b.cell 2 _ rfl
  go_wp2_with (go_at_call 24; (with_reducible refine (link_any c0 f t).mono ?_); rw [HL.out]; rintro e1 w1 ⟨rfl, hw1⟩; obtain rfl := hw1.symm)
  go_ret
  exact ⟨rfl, v, HT.out.p, HT.out.u⟩
set_option maxHeartbeats 4000000 in
theorem send_long {w : World} {P : Nat} {v : Value} {x : Wn} (h : WAt 58 34 w P v x) (hn16 : x.n ≤ 16) (hl : x.ls.length ≤ 96) (hc0 : 0 ≤ x.lost) (hc1 : x.lost ≤ 900000) (f t : Int) (s : ByteArray) (hlk : linkB x.n f t = true) (hs : 8192 < s.size) :
    Calls Try.prog 8 #[.pointer (some ⟨P, 0, none⟩), .agg #[.int .i64 f, .int .i64 t, .string s]] w fun e w' => e = .returned (.int .i64 7) ∧ ∃ u, WAt 58 34 w' P u x ∧ Stp (wfp P v) (wfp P u) w w' := by
  have hwl : wrap64 (x.lost + 1) = x.lost + 1 := wrap64_mid (by omega) (by omega)
  clear hc0 hc1
  have HL := Lib.hid hlk
  have hs2 : (8192 : Int) < (s.size : Int) := by omega
  clear hlk hs
  go_enter Try.func8, Try.ntmps8
  go_upto_region 1 with (fail)
  have HT := Lib.hid (TW.start h #[.int .i64 f, .int .i64 t, .string s])
  clear h
  generalize w.alloc (.cells #[.int .i64 f, .int .i64 t, .string s] 34) = wc at HT ⊢
  generalize w.heap.size = B at HT ⊢
  have c0 : wc.cell? ⟨P, 0, none⟩ = some (.int .i64 x.n) := HT.out.p.c0
  have c1 : wc.cell? ⟨P, 1, none⟩ = some v := HT.out.p.c1
  have cl : wc.cell? ⟨P, 258, none⟩ = some (.int .i64 x.lost) := HT.out.p.cl
  have cf : ∀ i, wc.frozen? ⟨P, i, none⟩ = false := HT.out.p.free
  have b0 : wc.cell? ⟨B, 0, none⟩ = some (.int .i64 f) := HT.out.b.cell 0 _ rfl
  have b1 : wc.cell? ⟨B, 1, none⟩ = some (.int .i64 t) := HT.out.b.cell 1 _ rfl
  have b2 : wc.cell? ⟨B, 2, none⟩ = some (.string s) := HT.out.b.cell 2 _ rfl
  go_wp2_with (go_at_call 24; (with_reducible refine (link_any c0 f t).mono ?_); rw [HL.out]; rintro e1 w1 ⟨rfl, hw1⟩; obtain rfl := hw1.symm)
  go_ret
  exact ⟨rfl, v, HT.out.p, HT.out.u⟩
set_option maxHeartbeats 4000000 in
theorem send_down {w : World} {P : Nat} {v : Value} {x : Wn} (h : WAt 58 34 w P v x) (hn16 : x.n ≤ 16) (hl : x.ls.length ≤ 96) (hc0 : 0 ≤ x.lost) (hc1 : x.lost ≤ 900000) (f t : Nat) (s : ByteArray) (hlk : linkB x.n f t = true) (hs : ¬ 8192 < s.size) (hf : f < 16) (ht : t < 16) (ho : x.out f t = true) :
    Calls Try.prog 8 #[.pointer (some ⟨P, 0, none⟩), .agg #[.int .i64 f, .int .i64 t, .string s]] w fun e w' => e = .returned (.int .i64 14) ∧ ∃ u, WAt 58 34 w' P u { x with lost := x.lost + 1 } ∧ Stp (wfp P v) (wfp P u) w w' := by
  have hwl : wrap64 (x.lost + 1) = x.lost + 1 := wrap64_mid (by omega) (by omega)
  clear hc0 hc1
  obtain ⟨re, hre⟩ : ∃ z : Int, (if 96 ≤ x.ls.length then (2 : Int) else 0) = z := ⟨_, rfl⟩
  have HFU := Lib.hid hre
  clear hre
  have HL := Lib.hid hlk
  have hs2 : ¬ (8192 : Int) < (s.size : Int) := by omega
  have HF := Lib.hid (And.intro hf ht)
  have hf2 : (f : Int) < 16 := by omega
  have ht2 : (t : Int) < 16 := by omega
  have HO := Lib.hid ho
  clear hlk hs hf ht ho
  obtain ⟨pa, ca, hv⟩ := h.s.len
  subst hv
  go_enter Try.func8, Try.ntmps8
  go_upto_region 1 with (fail)
  have HT := Lib.hid (TW.start h #[.int .i64 f, .int .i64 t, .string s])
  clear h
  generalize w.alloc (.cells #[.int .i64 f, .int .i64 t, .string s] 34) = wc at HT ⊢
  generalize w.heap.size = B at HT ⊢
  have c0 : wc.cell? ⟨P, 0, none⟩ = some (.int .i64 x.n) := HT.out.p.c0
  have c1 : wc.cell? ⟨P, 1, none⟩ = some (.slice pa x.ls.length ca) := HT.out.p.c1
  have cl : wc.cell? ⟨P, 258, none⟩ = some (.int .i64 x.lost) := HT.out.p.cl
  have cf : ∀ i, wc.frozen? ⟨P, i, none⟩ = false := HT.out.p.free
  have b0 : wc.cell? ⟨B, 0, none⟩ = some (.int .i64 f) := HT.out.b.cell 0 _ rfl
  have b1 : wc.cell? ⟨B, 1, none⟩ = some (.int .i64 t) := HT.out.b.cell 1 _ rfl
  have b2 : wc.cell? ⟨B, 2, none⟩ = some (.string s) := HT.out.b.cell 2 _ rfl
  have co : wc.cell? ⟨P, 2 + f * 16 + t, none⟩ = some (.bool true) := by rw [← HO.out]; exact HT.out.p.co HF.out.1 HF.out.2
  go_upto_region 6 with (first | (go_at_call 24; (with_reducible refine (link_any c0 f t).mono ?_); rw [HL.out]; rintro e1 w1 ⟨rfl, hw1⟩; obtain rfl := hw1.symm) | (go_at_call 25; (with_reducible refine (room_any c1).mono ?_); rw [HFU.out]; rintro e2 w2 ⟨rfl, hw2⟩; obtain rfl := hw2.symm))
  refine region_gen (Rd wc) (by kernel_rfl) (by kernel_rfl) (Rd.start _) ?_
  repeat
    (refine step_gen (by decide) (by rfl) (fun K hK => ?_)
     go_simp
     first
       | (with_reducible refine Sk.of Rd.skips ?_
          refine hK _ _ _ ?_
          clear hK K)
       | (with_reducible apply H1.one
          · intro σ wv hk hd hv
            obtain ⟨⟨m_, rfl⟩⟩ := hv
            go_simp
            (with_reducible refine ⟨rfl, ?_⟩)
            exact ⟨m_, rfl⟩
          refine hK _ _ _ ?_
          clear hK K))
  refine nil_gen ?_
  rintro σ wv - - ⟨⟨nq, rfl⟩⟩
  clear σ
  have HT2 := Lib.hid (HT.out.drewN nq)
  clear HT
  generalize wc.drewN nq = w6 at HT2 ⊢
  clear c0 c1 cl cf b0 b1 b2 co
  have HT := HT2
  clear HT2
  have c0 : w6.cell? ⟨P, 0, none⟩ = some (.int .i64 x.n) := HT.out.p.c0
  have c1 : w6.cell? ⟨P, 1, none⟩ = some (.slice pa x.ls.length ca) := HT.out.p.c1
  have cl : w6.cell? ⟨P, 258, none⟩ = some (.int .i64 x.lost) := HT.out.p.cl
  have cf : ∀ i, w6.frozen? ⟨P, i, none⟩ = false := HT.out.p.free
  have b0 : w6.cell? ⟨B, 0, none⟩ = some (.int .i64 f) := HT.out.b.cell 0 _ rfl
  have b1 : w6.cell? ⟨B, 1, none⟩ = some (.int .i64 t) := HT.out.b.cell 1 _ rfl
  have b2 : w6.cell? ⟨B, 2, none⟩ = some (.string s) := HT.out.b.cell 2 _ rfl
  have co : w6.cell? ⟨P, 2 + f * 16 + t, none⟩ = some (.bool true) := by rw [← HO.out]; exact HT.out.p.co HF.out.1 HF.out.2
  have HT2 := Lib.hid (HT.out.setC (x.lost + 1))
  go_wp2
  go_ret
  exact ⟨rfl, _, HT2.out.p, HT2.out.u⟩
set_option maxHeartbeats 4000000 in
theorem send_full {w : World} {P : Nat} {v : Value} {x : Wn} (h : WAt 58 34 w P v x) (hn16 : x.n ≤ 16) (hl : x.ls.length ≤ 96) (hc0 : 0 ≤ x.lost) (hc1 : x.lost ≤ 900000) (f t : Nat) (s : ByteArray) (hlk : linkB x.n f t = true) (hs : ¬ 8192 < s.size) (hf : f < 16) (ht : t < 16) (ho : x.out f t = false) (hfull : 96 ≤ x.ls.length) :
    Calls Try.prog 8 #[.pointer (some ⟨P, 0, none⟩), .agg #[.int .i64 f, .int .i64 t, .string s]] w fun e w' => e = .returned (.int .i64 2) ∧ ∃ u, WAt 58 34 w' P u { x with lost := x.lost + 1 } ∧ Stp (wfp P v) (wfp P u) w w' := by
  have hwl : wrap64 (x.lost + 1) = x.lost + 1 := wrap64_mid (by omega) (by omega)
  clear hc0 hc1
  have HFU := Lib.hid (show (if 96 ≤ x.ls.length then (2 : Int) else 0) = 2 from if_pos hfull)
  clear hfull
  have HL := Lib.hid hlk
  have hs2 : ¬ (8192 : Int) < (s.size : Int) := by omega
  have HF := Lib.hid (And.intro hf ht)
  have hf2 : (f : Int) < 16 := by omega
  have ht2 : (t : Int) < 16 := by omega
  have HO := Lib.hid ho
  clear hlk hs hf ht ho
  obtain ⟨pa, ca, hv⟩ := h.s.len
  subst hv
  go_enter Try.func8, Try.ntmps8
  go_upto_region 1 with (fail)
  have HT := Lib.hid (TW.start h #[.int .i64 f, .int .i64 t, .string s])
  clear h
  generalize w.alloc (.cells #[.int .i64 f, .int .i64 t, .string s] 34) = wc at HT ⊢
  generalize w.heap.size = B at HT ⊢
  have c0 : wc.cell? ⟨P, 0, none⟩ = some (.int .i64 x.n) := HT.out.p.c0
  have c1 : wc.cell? ⟨P, 1, none⟩ = some (.slice pa x.ls.length ca) := HT.out.p.c1
  have cl : wc.cell? ⟨P, 258, none⟩ = some (.int .i64 x.lost) := HT.out.p.cl
  have cf : ∀ i, wc.frozen? ⟨P, i, none⟩ = false := HT.out.p.free
  have b0 : wc.cell? ⟨B, 0, none⟩ = some (.int .i64 f) := HT.out.b.cell 0 _ rfl
  have b1 : wc.cell? ⟨B, 1, none⟩ = some (.int .i64 t) := HT.out.b.cell 1 _ rfl
  have b2 : wc.cell? ⟨B, 2, none⟩ = some (.string s) := HT.out.b.cell 2 _ rfl
  have co : wc.cell? ⟨P, 2 + f * 16 + t, none⟩ = some (.bool false) := by rw [← HO.out]; exact HT.out.p.co HF.out.1 HF.out.2
  go_upto_region 6 with (first | (go_at_call 24; (with_reducible refine (link_any c0 f t).mono ?_); rw [HL.out]; rintro e1 w1 ⟨rfl, hw1⟩; obtain rfl := hw1.symm) | (go_at_call 25; (with_reducible refine (room_any c1).mono ?_); rw [HFU.out]; rintro e2 w2 ⟨rfl, hw2⟩; obtain rfl := hw2.symm))
  refine region_gen (Rd wc) (by kernel_rfl) (by kernel_rfl) (Rd.start _) ?_
  repeat
    (refine step_gen (by decide) (by rfl) (fun K hK => ?_)
     go_simp
     first
       | (with_reducible refine Sk.of Rd.skips ?_
          refine hK _ _ _ ?_
          clear hK K)
       | (with_reducible apply H1.one
          · intro σ wv hk hd hv
            obtain ⟨⟨m_, rfl⟩⟩ := hv
            go_simp
            (with_reducible refine ⟨rfl, ?_⟩)
            exact ⟨m_, rfl⟩
          refine hK _ _ _ ?_
          clear hK K))
  refine nil_gen ?_
  rintro σ wv - - ⟨⟨nq, rfl⟩⟩
  clear σ
  have HT2 := Lib.hid (HT.out.drewN nq)
  clear HT
  generalize wc.drewN nq = w6 at HT2 ⊢
  clear c0 c1 cl cf b0 b1 b2 co
  have HT := HT2
  clear HT2
  have c0 : w6.cell? ⟨P, 0, none⟩ = some (.int .i64 x.n) := HT.out.p.c0
  have c1 : w6.cell? ⟨P, 1, none⟩ = some (.slice pa x.ls.length ca) := HT.out.p.c1
  have cl : w6.cell? ⟨P, 258, none⟩ = some (.int .i64 x.lost) := HT.out.p.cl
  have cf : ∀ i, w6.frozen? ⟨P, i, none⟩ = false := HT.out.p.free
  have b0 : w6.cell? ⟨B, 0, none⟩ = some (.int .i64 f) := HT.out.b.cell 0 _ rfl
  have b1 : w6.cell? ⟨B, 1, none⟩ = some (.int .i64 t) := HT.out.b.cell 1 _ rfl
  have b2 : w6.cell? ⟨B, 2, none⟩ = some (.string s) := HT.out.b.cell 2 _ rfl
  have co : w6.cell? ⟨P, 2 + f * 16 + t, none⟩ = some (.bool false) := by rw [← HO.out]; exact HT.out.p.co HF.out.1 HF.out.2
  have HT2 := Lib.hid (HT.out.setC (x.lost + 1))
  go_wp2
  go_ret
  exact ⟨rfl, _, HT2.out.p, HT2.out.u⟩
set_option maxHeartbeats 4000000 in
theorem send_ok {w : World} {P : Nat} {v : Value} {x : Wn} (h : WAt 58 34 w P v x) (hn16 : x.n ≤ 16) (hl : x.ls.length ≤ 96) (hc0 : 0 ≤ x.lost) (hc1 : x.lost ≤ 900000) (f t : Nat) (s : ByteArray) (hlk : linkB x.n f t = true) (hs : ¬ 8192 < s.size) (hf : f < 16) (ht : t < 16) (ho : x.out f t = false) (hfull : ¬ 96 ≤ x.ls.length) :
    Calls Try.prog 8 #[.pointer (some ⟨P, 0, none⟩), .agg #[.int .i64 f, .int .i64 t, .string s]] w fun e w' => e = .returned (.int .i64 0) ∧ ∃ u, WAt 58 34 w' P u (x.add ⟨f, t, s⟩) ∧ Stp (wfp P v) (wfp P u) w w' := by
  have hwl : wrap64 (x.lost + 1) = x.lost + 1 := wrap64_mid (by omega) (by omega)
  clear hc0 hc1
  obtain ⟨i0, hi0, hz0, hz1, hz2⟩ := info_parts info34
  have HLEN := Lib.hid hl
  have HFU := Lib.hid (show (if 96 ≤ x.ls.length then (2 : Int) else 0) = 0 from if_neg hfull)
  clear hfull
  have HL := Lib.hid hlk
  have hs2 : ¬ (8192 : Int) < (s.size : Int) := by omega
  have HF := Lib.hid (And.intro hf ht)
  have hf2 : (f : Int) < 16 := by omega
  have ht2 : (t : Int) < 16 := by omega
  have HO := Lib.hid ho
  clear hlk hs hf ht ho
  obtain ⟨pa, ca, hv⟩ := h.s.len
  subst hv
  go_enter Try.func8, Try.ntmps8
  go_upto_region 1 with (fail)
  have HT := Lib.hid (TW.start h #[.int .i64 f, .int .i64 t, .string s])
  clear h
  generalize w.alloc (.cells #[.int .i64 f, .int .i64 t, .string s] 34) = wc at HT ⊢
  generalize w.heap.size = B at HT ⊢
  have c0 : wc.cell? ⟨P, 0, none⟩ = some (.int .i64 x.n) := HT.out.p.c0
  have c1 : wc.cell? ⟨P, 1, none⟩ = some (.slice pa x.ls.length ca) := HT.out.p.c1
  have cl : wc.cell? ⟨P, 258, none⟩ = some (.int .i64 x.lost) := HT.out.p.cl
  have cf : ∀ i, wc.frozen? ⟨P, i, none⟩ = false := HT.out.p.free
  have b0 : wc.cell? ⟨B, 0, none⟩ = some (.int .i64 f) := HT.out.b.cell 0 _ rfl
  have b1 : wc.cell? ⟨B, 1, none⟩ = some (.int .i64 t) := HT.out.b.cell 1 _ rfl
  have b2 : wc.cell? ⟨B, 2, none⟩ = some (.string s) := HT.out.b.cell 2 _ rfl
  have co : wc.cell? ⟨P, 2 + f * 16 + t, none⟩ = some (.bool false) := by rw [← HO.out]; exact HT.out.p.co HF.out.1 HF.out.2
  go_upto_region 6 with (first | (go_at_call 24; (with_reducible refine (link_any c0 f t).mono ?_); rw [HL.out]; rintro e1 w1 ⟨rfl, hw1⟩; obtain rfl := hw1.symm) | (go_at_call 25; (with_reducible refine (room_any c1).mono ?_); rw [HFU.out]; rintro e2 w2 ⟨rfl, hw2⟩; obtain rfl := hw2.symm))
  refine region_gen (Rd wc) (by kernel_rfl) (by kernel_rfl) (Rd.start _) ?_
  repeat
    (refine step_gen (by decide) (by rfl) (fun K hK => ?_)
     go_simp
     first
       | (with_reducible refine Sk.of Rd.skips ?_
          refine hK _ _ _ ?_
          clear hK K)
       | (with_reducible apply H1.one
          · intro σ wv hk hd hv
            obtain ⟨⟨m_, rfl⟩⟩ := hv
            go_simp
            (with_reducible refine ⟨rfl, ?_⟩)
            exact ⟨m_, rfl⟩
          refine hK _ _ _ ?_
          clear hK K))
  refine nil_gen ?_
  rintro σ wv - - ⟨⟨nq, rfl⟩⟩
  clear σ
  have HT2 := Lib.hid (HT.out.drewN nq)
  clear HT
  generalize wc.drewN nq = w6 at HT2 ⊢
  clear c0 c1 cl cf b0 b1 b2 co
  have HT := HT2
  clear HT2
  have c0 : w6.cell? ⟨P, 0, none⟩ = some (.int .i64 x.n) := HT.out.p.c0
  have c1 : w6.cell? ⟨P, 1, none⟩ = some (.slice pa x.ls.length ca) := HT.out.p.c1
  have cl : w6.cell? ⟨P, 258, none⟩ = some (.int .i64 x.lost) := HT.out.p.cl
  have cf : ∀ i, w6.frozen? ⟨P, i, none⟩ = false := HT.out.p.free
  have b0 : w6.cell? ⟨B, 0, none⟩ = some (.int .i64 f) := HT.out.b.cell 0 _ rfl
  have b1 : w6.cell? ⟨B, 1, none⟩ = some (.int .i64 t) := HT.out.b.cell 1 _ rfl
  have b2 : w6.cell? ⟨B, 2, none⟩ = some (.string s) := HT.out.b.cell 2 _ rfl
  have co : w6.cell? ⟨P, 2 + f * 16 + t, none⟩ = some (.bool false) := by rw [← HO.out]; exact HT.out.p.co HF.out.1 HF.out.2
  go_upto_region 11 with (fail)
  generalize hvv : Value.slice pa x.ls.length ca = v at HT
  have HVV := Lib.hid hvv
  clear hvv
  have HW := Lib.hid (And.intro HT.out.p (And.intro HT.out.b HT.out.n))
  clear c0 c1 cl cf b0 b1 b2 co
  refine region_gen (AP 58 34 w6 P v x ⟨f, t, s⟩ B) (by kernel_rfl) (by kernel_rfl) (AP.start HW.out.1 HW.out.2.1 HW.out.2.2) ?_
  repeat
    (refine step_gen (by decide) (by rfl) (fun K hK => ?_)
     go_simp
     first
       | (with_reducible apply H1.one
          · intro σ wv hk hd hv
            have Hv := Lib.hid hv
            have zf := hv.free
            obtain ⟨b0, b1, b2⟩ := hv.box
            try (have z_ := hv.cellS hk)
            clear hv
            go_simp
            (first
              | (with_reducible refine ⟨rfl, ?_⟩; first | (with_reducible exact AP.pure Hv.out (by decide)) | (with_reducible exact AP.store Hv.out (hd.get 7 (List.mem_cons_self ..) (by kernel_rfl)) hk)))
          refine hK _ _ _ ?_
          clear hK K)
       | (with_reducible refine H1.any (v = ·) ⟨_, rfl⟩ ?_ ?_
          · intro σ wv hk hd hv
            have c1 := hv.cell1 hk
            go_simp
            exact hv.load
          intro v_ hv_
          subst hv_
          refine hK _ _ _ ?_
          clear hK K)
       | (with_reducible refine H1.any IsSl ⟨_, IsSl.mk 0⟩ ?_ ?_
          · intro σ wv hk hd hv
            have Hv := Lib.hid hv
            clear hv
            go_simp
            exact ⟨IsSl.mk _, Hv.out.alloc hk⟩
          intro v_ hv_
          obtain ⟨Bz⟩ := hv_
          refine hK _ _ _ ?_
          clear hK K)
       | (with_reducible refine H1.any IsSlice ⟨_, .mk none 0 0⟩ ?_ ?_
          · intro σ wv hk hd hv
            have h4 := hd.get 4 (List.mem_cons_of_mem _ (List.mem_cons_self ..)) (by kernel_rfl)
            have h6 := hd.get 6 (List.mem_cons_self ..) (by kernel_rfl)
            obtain ⟨B', eB, hB, hb⟩ := hv.b _ h6
            cases eB
            obtain ⟨u, w', hrun, hu, hg, hnew⟩ := run_append_new (P := Try.prog) wv 0 56 56 34 i0 (.agg #[.int .i64 0, .int .i64 0, .string ⟨#[]⟩]) 3 32 Try.underlying56 hi0 hz0 hz1 hz2 rfl (by decide) v x.ls.length (lts x.ls) (hv.o hk) ⟨Bz, 0, none⟩ 1 1 (ltc ⟨f, t, s⟩) rfl
              (by intro j z hj; rcases j with _ | _ | _ | _ <;> first | (cases hj; exact hb.cell _ _ rfl) | cases hj) (one_ltc _) (by have := HLEN.out; simp only [maxLen]; omega) (by have := HLEN.out; omega) (Nat.zero_le _)
            rw [← lts_snoc] at hu
            have hfin := hv.append h4 h6 hk hg (u := u) (by unfold Ls; rw [List.length_append]; exact hu) hnew
            exact runAt_append rfl rfl rfl hrun ⟨own_slice hu, hfin⟩
          intro v_ hv_
          obtain ⟨up, un, uc⟩ := hv_
          refine hK _ _ _ ?_
          clear hK K)
       | (trace_state; fail))
  refine nil_gen ?_
  intro σ w9 hall ht hv
  obtain ⟨u9, hw9, hs9⟩ := hv.fin (hall 7 (by decide)) (hall 10 (by decide))
  have H9 := Lib.hid (And.intro hw9 hs9)
  clear hv hall ht hw9 hs9 σ
  go_wp2
  go_ret
  exact ⟨rfl, u9, H9.out.1, by rw [HVV.out]; exact HT.out.u.trans H9.out.2⟩
set_option maxHeartbeats 4000000 in
theorem rsend_link {w : World} {P : Nat} {v : Value} {x : Wn} (h : WAt 49 36 w P v x) (hn16 : x.n ≤ 16) (hl : x.ls.length ≤ 96) (hc0 : 0 ≤ x.lost) (hc1 : x.lost ≤ 900000) (f t : Int) (s : ByteArray) (hlk : linkB x.n f t = false) :
    Calls Try.prog 9 #[.pointer (some ⟨P, 0, none⟩), .agg #[.int .i64 f, .int .i64 t, .string s]] w fun e w' => e = .returned (.int .i64 1) ∧ ∃ u, WAt 49 36 w' P u x ∧ Stp (wfp P v) (wfp P u) w w' := by
  have hwl : wrap64 (x.lost + 1) = x.lost + 1 := wrap64_mid (by omega) (by omega)
  clear hc0 hc1
  have HL := Lib.hid hlk
  clear hlk
  go_enter Try.func9, Try.ntmps9
  go_upto_region 1 with (fail)
  have HT := Lib.hid (TW.start h #[.int .i64 f, .int .i64 t, .string s])
  clear h
  generalize w.alloc (.cells #[.int .i64 f, .int .i64 t, .string s] 36) = wc at HT ⊢
  generalize w.heap.size = B at HT ⊢
  have c0 : wc.cell? ⟨P, 0, none⟩ = some (.int .i64 x.n) := HT.out.p.c0
  have c1 : wc.cell? ⟨P, 1, none⟩ = some v := HT.out.p.c1
  have cl : wc.cell? ⟨P, 258, none⟩ = some (.int .i64 x.lost) := HT.out.p.cl
  have cf : ∀ i, wc.frozen? ⟨P, i, none⟩ = false := HT.out.p.free
  have b0 : wc.cell? ⟨B, 0, none⟩ = some (.int .i64 f) := HT.out.b.cell 0 _ rfl
  have b1 : wc.cell? ⟨B, 1, none⟩ = some (.int .i64 t) := HT.out.b.cell 1 _ rfl
  have b2 : wc.cell? ⟨B, 2, none⟩ = some (.string s) := HT.out.b.cell 2 _ rfl
  go_wp2_with (go_at_call 26; (with_reducible refine (rlink_any c0 f t).mono ?_); rw [HL.out]; rintro e1 w1 ⟨rfl, hw1⟩; obtain rfl := hw1.symm)
  go_ret
  exact ⟨rfl, v, HT.out.p, HT.out.u⟩
set_option maxHeartbeats 4000000 in
theorem rsend_long {w : World} {P : Nat} {v : Value} {x : Wn} (h : WAt 49 36 w P v x) (hn16 : x.n ≤ 16) (hl : x.ls.length ≤ 96) (hc0 : 0 ≤ x.lost) (hc1 : x.lost ≤ 900000) (f t : Int) (s : ByteArray) (hlk : linkB x.n f t = true) (hs : 8192 < s.size) :
    Calls Try.prog 9 #[.pointer (some ⟨P, 0, none⟩), .agg #[.int .i64 f, .int .i64 t, .string s]] w fun e w' => e = .returned (.int .i64 7) ∧ ∃ u, WAt 49 36 w' P u x ∧ Stp (wfp P v) (wfp P u) w w' := by
  have hwl : wrap64 (x.lost + 1) = x.lost + 1 := wrap64_mid (by omega) (by omega)
  clear hc0 hc1
  have HL := Lib.hid hlk
  have hs2 : (8192 : Int) < (s.size : Int) := by omega
  clear hlk hs
  go_enter Try.func9, Try.ntmps9
  go_upto_region 1 with (fail)
  have HT := Lib.hid (TW.start h #[.int .i64 f, .int .i64 t, .string s])
  clear h
  generalize w.alloc (.cells #[.int .i64 f, .int .i64 t, .string s] 36) = wc at HT ⊢
  generalize w.heap.size = B at HT ⊢
  have c0 : wc.cell? ⟨P, 0, none⟩ = some (.int .i64 x.n) := HT.out.p.c0
  have c1 : wc.cell? ⟨P, 1, none⟩ = some v := HT.out.p.c1
  have cl : wc.cell? ⟨P, 258, none⟩ = some (.int .i64 x.lost) := HT.out.p.cl
  have cf : ∀ i, wc.frozen? ⟨P, i, none⟩ = false := HT.out.p.free
  have b0 : wc.cell? ⟨B, 0, none⟩ = some (.int .i64 f) := HT.out.b.cell 0 _ rfl
  have b1 : wc.cell? ⟨B, 1, none⟩ = some (.int .i64 t) := HT.out.b.cell 1 _ rfl
  have b2 : wc.cell? ⟨B, 2, none⟩ = some (.string s) := HT.out.b.cell 2 _ rfl
  go_wp2_with (go_at_call 26; (with_reducible refine (rlink_any c0 f t).mono ?_); rw [HL.out]; rintro e1 w1 ⟨rfl, hw1⟩; obtain rfl := hw1.symm)
  go_ret
  exact ⟨rfl, v, HT.out.p, HT.out.u⟩
set_option maxHeartbeats 4000000 in
theorem rsend_down {w : World} {P : Nat} {v : Value} {x : Wn} (h : WAt 49 36 w P v x) (hn16 : x.n ≤ 16) (hl : x.ls.length ≤ 96) (hc0 : 0 ≤ x.lost) (hc1 : x.lost ≤ 900000) (f t : Nat) (s : ByteArray) (hlk : linkB x.n f t = true) (hs : ¬ 8192 < s.size) (hf : f < 16) (ht : t < 16) (ho : x.out f t = true) :
    Calls Try.prog 9 #[.pointer (some ⟨P, 0, none⟩), .agg #[.int .i64 f, .int .i64 t, .string s]] w fun e w' => e = .returned (.int .i64 14) ∧ ∃ u, WAt 49 36 w' P u { x with lost := x.lost + 1 } ∧ Stp (wfp P v) (wfp P u) w w' := by
  have hwl : wrap64 (x.lost + 1) = x.lost + 1 := wrap64_mid (by omega) (by omega)
  clear hc0 hc1
  have HL := Lib.hid hlk
  have hs2 : ¬ (8192 : Int) < (s.size : Int) := by omega
  have HF := Lib.hid (And.intro hf ht)
  have hf2 : (f : Int) < 16 := by omega
  have ht2 : (t : Int) < 16 := by omega
  have HO := Lib.hid ho
  clear hlk hs hf ht ho
  obtain ⟨pa, ca, hv⟩ := h.s.len
  subst hv
  go_enter Try.func9, Try.ntmps9
  go_upto_region 1 with (fail)
  have HT := Lib.hid (TW.start h #[.int .i64 f, .int .i64 t, .string s])
  clear h
  generalize w.alloc (.cells #[.int .i64 f, .int .i64 t, .string s] 36) = wc at HT ⊢
  generalize w.heap.size = B at HT ⊢
  have c0 : wc.cell? ⟨P, 0, none⟩ = some (.int .i64 x.n) := HT.out.p.c0
  have c1 : wc.cell? ⟨P, 1, none⟩ = some (.slice pa x.ls.length ca) := HT.out.p.c1
  have cl : wc.cell? ⟨P, 258, none⟩ = some (.int .i64 x.lost) := HT.out.p.cl
  have cf : ∀ i, wc.frozen? ⟨P, i, none⟩ = false := HT.out.p.free
  have b0 : wc.cell? ⟨B, 0, none⟩ = some (.int .i64 f) := HT.out.b.cell 0 _ rfl
  have b1 : wc.cell? ⟨B, 1, none⟩ = some (.int .i64 t) := HT.out.b.cell 1 _ rfl
  have b2 : wc.cell? ⟨B, 2, none⟩ = some (.string s) := HT.out.b.cell 2 _ rfl
  have co : wc.cell? ⟨P, 2 + f * 16 + t, none⟩ = some (.bool true) := by rw [← HO.out]; exact HT.out.p.co HF.out.1 HF.out.2
  go_upto_region 5 with (go_at_call 26; (with_reducible refine (rlink_any c0 f t).mono ?_); rw [HL.out]; rintro e1 w1 ⟨rfl, hw1⟩; obtain rfl := hw1.symm)
  refine region_gen (Rd wc) (by kernel_rfl) (by kernel_rfl) (Rd.start _) ?_
  repeat
    (refine step_gen (by decide) (by rfl) (fun K hK => ?_)
     go_simp
     first
       | (with_reducible refine Sk.of Rd.skips ?_
          refine hK _ _ _ ?_
          clear hK K)
       | (with_reducible apply H1.one
          · intro σ wv hk hd hv
            obtain ⟨⟨m_, rfl⟩⟩ := hv
            go_simp
            (with_reducible refine ⟨rfl, ?_⟩)
            exact ⟨m_, rfl⟩
          refine hK _ _ _ ?_
          clear hK K))
  refine nil_gen ?_
  rintro σ wv - - ⟨⟨nq, rfl⟩⟩
  clear σ
  have HT2 := Lib.hid (HT.out.drewN nq)
  clear HT
  generalize wc.drewN nq = w6 at HT2 ⊢
  clear c0 c1 cl cf b0 b1 b2 co
  have HT := HT2
  clear HT2
  have c0 : w6.cell? ⟨P, 0, none⟩ = some (.int .i64 x.n) := HT.out.p.c0
  have c1 : w6.cell? ⟨P, 1, none⟩ = some (.slice pa x.ls.length ca) := HT.out.p.c1
  have cl : w6.cell? ⟨P, 258, none⟩ = some (.int .i64 x.lost) := HT.out.p.cl
  have cf : ∀ i, w6.frozen? ⟨P, i, none⟩ = false := HT.out.p.free
  have b0 : w6.cell? ⟨B, 0, none⟩ = some (.int .i64 f) := HT.out.b.cell 0 _ rfl
  have b1 : w6.cell? ⟨B, 1, none⟩ = some (.int .i64 t) := HT.out.b.cell 1 _ rfl
  have b2 : w6.cell? ⟨B, 2, none⟩ = some (.string s) := HT.out.b.cell 2 _ rfl
  have co : w6.cell? ⟨P, 2 + f * 16 + t, none⟩ = some (.bool true) := by rw [← HO.out]; exact HT.out.p.co HF.out.1 HF.out.2
  have HT2 := Lib.hid (HT.out.setC (x.lost + 1))
  go_wp2
  go_ret
  exact ⟨rfl, _, HT2.out.p, HT2.out.u⟩
set_option maxHeartbeats 4000000 in
theorem rsend_full {w : World} {P : Nat} {v : Value} {x : Wn} (h : WAt 49 36 w P v x) (hn16 : x.n ≤ 16) (hl : x.ls.length ≤ 96) (hc0 : 0 ≤ x.lost) (hc1 : x.lost ≤ 900000) (f t : Nat) (s : ByteArray) (hlk : linkB x.n f t = true) (hs : ¬ 8192 < s.size) (hf : f < 16) (ht : t < 16) (ho : x.out f t = false) (hfull : 96 ≤ x.ls.length) :
    Calls Try.prog 9 #[.pointer (some ⟨P, 0, none⟩), .agg #[.int .i64 f, .int .i64 t, .string s]] w fun e w' => e = .returned (.int .i64 2) ∧ ∃ u, WAt 49 36 w' P u { x with lost := x.lost + 1 } ∧ Stp (wfp P v) (wfp P u) w w' := by
  have hwl : wrap64 (x.lost + 1) = x.lost + 1 := wrap64_mid (by omega) (by omega)
  clear hc0 hc1
  have hfu : (96 : Int) ≤ (x.ls.length : Int) := by omega
  clear hfull
  have HL := Lib.hid hlk
  have hs2 : ¬ (8192 : Int) < (s.size : Int) := by omega
  have HF := Lib.hid (And.intro hf ht)
  have hf2 : (f : Int) < 16 := by omega
  have ht2 : (t : Int) < 16 := by omega
  have HO := Lib.hid ho
  clear hlk hs hf ht ho
  obtain ⟨pa, ca, hv⟩ := h.s.len
  subst hv
  go_enter Try.func9, Try.ntmps9
  go_upto_region 1 with (fail)
  have HT := Lib.hid (TW.start h #[.int .i64 f, .int .i64 t, .string s])
  clear h
  generalize w.alloc (.cells #[.int .i64 f, .int .i64 t, .string s] 36) = wc at HT ⊢
  generalize w.heap.size = B at HT ⊢
  have c0 : wc.cell? ⟨P, 0, none⟩ = some (.int .i64 x.n) := HT.out.p.c0
  have c1 : wc.cell? ⟨P, 1, none⟩ = some (.slice pa x.ls.length ca) := HT.out.p.c1
  have cl : wc.cell? ⟨P, 258, none⟩ = some (.int .i64 x.lost) := HT.out.p.cl
  have cf : ∀ i, wc.frozen? ⟨P, i, none⟩ = false := HT.out.p.free
  have b0 : wc.cell? ⟨B, 0, none⟩ = some (.int .i64 f) := HT.out.b.cell 0 _ rfl
  have b1 : wc.cell? ⟨B, 1, none⟩ = some (.int .i64 t) := HT.out.b.cell 1 _ rfl
  have b2 : wc.cell? ⟨B, 2, none⟩ = some (.string s) := HT.out.b.cell 2 _ rfl
  have co : wc.cell? ⟨P, 2 + f * 16 + t, none⟩ = some (.bool false) := by rw [← HO.out]; exact HT.out.p.co HF.out.1 HF.out.2
  go_upto_region 5 with (go_at_call 26; (with_reducible refine (rlink_any c0 f t).mono ?_); rw [HL.out]; rintro e1 w1 ⟨rfl, hw1⟩; obtain rfl := hw1.symm)
  refine region_gen (Rd wc) (by kernel_rfl) (by kernel_rfl) (Rd.start _) ?_
  repeat
    (refine step_gen (by decide) (by rfl) (fun K hK => ?_)
     go_simp
     first
       | (with_reducible refine Sk.of Rd.skips ?_
          refine hK _ _ _ ?_
          clear hK K)
       | (with_reducible apply H1.one
          · intro σ wv hk hd hv
            obtain ⟨⟨m_, rfl⟩⟩ := hv
            go_simp
            (with_reducible refine ⟨rfl, ?_⟩)
            exact ⟨m_, rfl⟩
          refine hK _ _ _ ?_
          clear hK K))
  refine nil_gen ?_
  rintro σ wv - - ⟨⟨nq, rfl⟩⟩
  clear σ
  have HT2 := Lib.hid (HT.out.drewN nq)
  clear HT
  generalize wc.drewN nq = w6 at HT2 ⊢
  clear c0 c1 cl cf b0 b1 b2 co
  have HT := HT2
  clear HT2
  have c0 : w6.cell? ⟨P, 0, none⟩ = some (.int .i64 x.n) := HT.out.p.c0
  have c1 : w6.cell? ⟨P, 1, none⟩ = some (.slice pa x.ls.length ca) := HT.out.p.c1
  have cl : w6.cell? ⟨P, 258, none⟩ = some (.int .i64 x.lost) := HT.out.p.cl
  have cf : ∀ i, w6.frozen? ⟨P, i, none⟩ = false := HT.out.p.free
  have b0 : w6.cell? ⟨B, 0, none⟩ = some (.int .i64 f) := HT.out.b.cell 0 _ rfl
  have b1 : w6.cell? ⟨B, 1, none⟩ = some (.int .i64 t) := HT.out.b.cell 1 _ rfl
  have b2 : w6.cell? ⟨B, 2, none⟩ = some (.string s) := HT.out.b.cell 2 _ rfl
  have co : w6.cell? ⟨P, 2 + f * 16 + t, none⟩ = some (.bool false) := by rw [← HO.out]; exact HT.out.p.co HF.out.1 HF.out.2
  have HT2 := Lib.hid (HT.out.setC (x.lost + 1))
  go_wp2
  go_ret
  exact ⟨rfl, _, HT2.out.p, HT2.out.u⟩
set_option maxHeartbeats 4000000 in
theorem rsend_ok {w : World} {P : Nat} {v : Value} {x : Wn} (h : WAt 49 36 w P v x) (hn16 : x.n ≤ 16) (hl : x.ls.length ≤ 96) (hc0 : 0 ≤ x.lost) (hc1 : x.lost ≤ 900000) (f t : Nat) (s : ByteArray) (hlk : linkB x.n f t = true) (hs : ¬ 8192 < s.size) (hf : f < 16) (ht : t < 16) (ho : x.out f t = false) (hfull : ¬ 96 ≤ x.ls.length) :
    Calls Try.prog 9 #[.pointer (some ⟨P, 0, none⟩), .agg #[.int .i64 f, .int .i64 t, .string s]] w fun e w' => e = .returned (.int .i64 0) ∧ ∃ u, WAt 49 36 w' P u (x.add ⟨f, t, s⟩) ∧ Stp (wfp P v) (wfp P u) w w' := by
  have hwl : wrap64 (x.lost + 1) = x.lost + 1 := wrap64_mid (by omega) (by omega)
  clear hc0 hc1
  obtain ⟨i0, hi0, hz0, hz1, hz2⟩ := info_parts info36
  have HLEN := Lib.hid hl
  have hfu : ¬ (96 : Int) ≤ (x.ls.length : Int) := by omega
  clear hfull
  have HL := Lib.hid hlk
  have hs2 : ¬ (8192 : Int) < (s.size : Int) := by omega
  have HF := Lib.hid (And.intro hf ht)
  have hf2 : (f : Int) < 16 := by omega
  have ht2 : (t : Int) < 16 := by omega
  have HO := Lib.hid ho
  clear hlk hs hf ht ho
  obtain ⟨pa, ca, hv⟩ := h.s.len
  subst hv
  go_enter Try.func9, Try.ntmps9
  go_upto_region 1 with (fail)
  have HT := Lib.hid (TW.start h #[.int .i64 f, .int .i64 t, .string s])
  clear h
  generalize w.alloc (.cells #[.int .i64 f, .int .i64 t, .string s] 36) = wc at HT ⊢
  generalize w.heap.size = B at HT ⊢
  have c0 : wc.cell? ⟨P, 0, none⟩ = some (.int .i64 x.n) := HT.out.p.c0
  have c1 : wc.cell? ⟨P, 1, none⟩ = some (.slice pa x.ls.length ca) := HT.out.p.c1
  have cl : wc.cell? ⟨P, 258, none⟩ = some (.int .i64 x.lost) := HT.out.p.cl
  have cf : ∀ i, wc.frozen? ⟨P, i, none⟩ = false := HT.out.p.free
  have b0 : wc.cell? ⟨B, 0, none⟩ = some (.int .i64 f) := HT.out.b.cell 0 _ rfl
  have b1 : wc.cell? ⟨B, 1, none⟩ = some (.int .i64 t) := HT.out.b.cell 1 _ rfl
  have b2 : wc.cell? ⟨B, 2, none⟩ = some (.string s) := HT.out.b.cell 2 _ rfl
  have co : wc.cell? ⟨P, 2 + f * 16 + t, none⟩ = some (.bool false) := by rw [← HO.out]; exact HT.out.p.co HF.out.1 HF.out.2
  go_upto_region 5 with (go_at_call 26; (with_reducible refine (rlink_any c0 f t).mono ?_); rw [HL.out]; rintro e1 w1 ⟨rfl, hw1⟩; obtain rfl := hw1.symm)
  refine region_gen (Rd wc) (by kernel_rfl) (by kernel_rfl) (Rd.start _) ?_
  repeat
    (refine step_gen (by decide) (by rfl) (fun K hK => ?_)
     go_simp
     first
       | (with_reducible refine Sk.of Rd.skips ?_
          refine hK _ _ _ ?_
          clear hK K)
       | (with_reducible apply H1.one
          · intro σ wv hk hd hv
            obtain ⟨⟨m_, rfl⟩⟩ := hv
            go_simp
            (with_reducible refine ⟨rfl, ?_⟩)
            exact ⟨m_, rfl⟩
          refine hK _ _ _ ?_
          clear hK K))
  refine nil_gen ?_
  rintro σ wv - - ⟨⟨nq, rfl⟩⟩
  clear σ
  have HT2 := Lib.hid (HT.out.drewN nq)
  clear HT
  generalize wc.drewN nq = w6 at HT2 ⊢
  clear c0 c1 cl cf b0 b1 b2 co
  have HT := HT2
  clear HT2
  have c0 : w6.cell? ⟨P, 0, none⟩ = some (.int .i64 x.n) := HT.out.p.c0
  have c1 : w6.cell? ⟨P, 1, none⟩ = some (.slice pa x.ls.length ca) := HT.out.p.c1
  have cl : w6.cell? ⟨P, 258, none⟩ = some (.int .i64 x.lost) := HT.out.p.cl
  have cf : ∀ i, w6.frozen? ⟨P, i, none⟩ = false := HT.out.p.free
  have b0 : w6.cell? ⟨B, 0, none⟩ = some (.int .i64 f) := HT.out.b.cell 0 _ rfl
  have b1 : w6.cell? ⟨B, 1, none⟩ = some (.int .i64 t) := HT.out.b.cell 1 _ rfl
  have b2 : w6.cell? ⟨B, 2, none⟩ = some (.string s) := HT.out.b.cell 2 _ rfl
  have co : w6.cell? ⟨P, 2 + f * 16 + t, none⟩ = some (.bool false) := by rw [← HO.out]; exact HT.out.p.co HF.out.1 HF.out.2
  go_upto_region 11 with (fail)
  generalize hvv : Value.slice pa x.ls.length ca = v at HT
  have HVV := Lib.hid hvv
  clear hvv
  have HW := Lib.hid (And.intro HT.out.p (And.intro HT.out.b HT.out.n))
  clear c0 c1 cl cf b0 b1 b2 co
  refine region_gen (AP 49 36 w6 P v x ⟨f, t, s⟩ B) (by kernel_rfl) (by kernel_rfl) (AP.start HW.out.1 HW.out.2.1 HW.out.2.2) ?_
  repeat
    (refine step_gen (by decide) (by rfl) (fun K hK => ?_)
     go_simp
     first
       | (with_reducible apply H1.one
          · intro σ wv hk hd hv
            have Hv := Lib.hid hv
            have zf := hv.free
            obtain ⟨b0, b1, b2⟩ := hv.box
            try (have z_ := hv.cellS hk)
            clear hv
            go_simp
            (first
              | (with_reducible refine ⟨rfl, ?_⟩; first | (with_reducible exact AP.pure Hv.out (by decide)) | (with_reducible exact AP.store Hv.out (hd.get 7 (List.mem_cons_self ..) (by kernel_rfl)) hk)))
          refine hK _ _ _ ?_
          clear hK K)
       | (with_reducible refine H1.any (v = ·) ⟨_, rfl⟩ ?_ ?_
          · intro σ wv hk hd hv
            have c1 := hv.cell1 hk
            go_simp
            exact hv.load
          intro v_ hv_
          subst hv_
          refine hK _ _ _ ?_
          clear hK K)
       | (with_reducible refine H1.any IsSl ⟨_, IsSl.mk 0⟩ ?_ ?_
          · intro σ wv hk hd hv
            have Hv := Lib.hid hv
            clear hv
            go_simp
            exact ⟨IsSl.mk _, Hv.out.alloc hk⟩
          intro v_ hv_
          obtain ⟨Bz⟩ := hv_
          refine hK _ _ _ ?_
          clear hK K)
       | (with_reducible refine H1.any IsSlice ⟨_, .mk none 0 0⟩ ?_ ?_
          · intro σ wv hk hd hv
            have h4 := hd.get 4 (List.mem_cons_of_mem _ (List.mem_cons_self ..)) (by kernel_rfl)
            have h6 := hd.get 6 (List.mem_cons_self ..) (by kernel_rfl)
            obtain ⟨B', eB, hB, hb⟩ := hv.b _ h6
            cases eB
            obtain ⟨u, w', hrun, hu, hg, hnew⟩ := run_append_new (P := Try.prog) wv 0 45 45 36 i0 (.agg #[.int .i64 0, .int .i64 0, .string ⟨#[]⟩]) 3 32 Try.underlying45 hi0 hz0 hz1 hz2 rfl (by decide) v x.ls.length (lts x.ls) (hv.o hk) ⟨Bz, 0, none⟩ 1 1 (ltc ⟨f, t, s⟩) rfl
              (by intro j z hj; rcases j with _ | _ | _ | _ <;> first | (cases hj; exact hb.cell _ _ rfl) | cases hj) (one_ltc _) (by have := HLEN.out; simp only [maxLen]; omega) (by have := HLEN.out; omega) (Nat.zero_le _)
            rw [← lts_snoc] at hu
            have hfin := hv.append h4 h6 hk hg (u := u) (by unfold Ls; rw [List.length_append]; exact hu) hnew
            exact runAt_append rfl rfl rfl hrun ⟨own_slice hu, hfin⟩
          intro v_ hv_
          obtain ⟨up, un, uc⟩ := hv_
          refine hK _ _ _ ?_
          clear hK K)
       | (trace_state; fail))
  refine nil_gen ?_
  intro σ w9 hall ht hv
  obtain ⟨u9, hw9, hs9⟩ := hv.fin (hall 7 (by decide)) (hall 10 (by decide))
  have H9 := Lib.hid (And.intro hw9 hs9)
  clear hv hall ht hw9 hs9 σ
  go_wp2
  go_ret
  exact ⟨rfl, u9, H9.out.1, by rw [HVV.out]; exact HT.out.u.trans H9.out.2⟩
/-- A letter is sent. -/
theorem send_any {w : World} {P : Nat} {v : Value} {x : Wn} (h : WAt 58 34 w P v x) (hn16 : x.n ≤ 16) (hl : x.ls.length ≤ 96) (hc0 : 0 ≤ x.lost) (hc1 : x.lost ≤ 900000) (y : Lt) :
    Calls Try.prog 8 #[.pointer (some ⟨P, 0, none⟩), .agg (ltc y).toArray] w fun e w' => e = .returned (.int .i64 (x.sendE y)) ∧ ∃ u, WAt 58 34 w' P u (x.send y) ∧ Stp (wfp P v) (wfp P u) w w' := by
  obtain ⟨f, t, s⟩ := y
  cases hlk : linkB x.n f t
  · have e : x.sendE ⟨f, t, s⟩ = 1 := by simp [Wn.sendE, hlk]
    have e2 : x.send ⟨f, t, s⟩ = x := by simp [Wn.send, e]
    rw [e, e2]
    exact send_link h hn16 hl hc0 hc1 f t s hlk
  · by_cases hs : 8192 < s.size
    · have e : x.sendE ⟨f, t, s⟩ = 7 := by simp [Wn.sendE, hlk, hs]
      have e2 : x.send ⟨f, t, s⟩ = x := by simp [Wn.send, e]
      rw [e, e2]
      exact send_long h hn16 hl hc0 hc1 f t s hlk hs
    · have hh : 0 ≤ f ∧ f < x.n ∧ 0 ≤ t ∧ t < x.n ∧ f ≠ t := by simpa [linkB] using hlk
      obtain ⟨f, rfl⟩ := Int.eq_ofNat_of_zero_le hh.1
      obtain ⟨t, rfl⟩ := Int.eq_ofNat_of_zero_le hh.2.2.1
      have hf : f < 16 := by omega
      have ht : t < 16 := by omega
      cases ho : x.out f t
      · by_cases hfull : 96 ≤ x.ls.length
        · have e : x.sendE ⟨f, t, s⟩ = 2 := by simp [Wn.sendE, hlk, hs, ho, hfull]
          have e2 : x.send ⟨f, t, s⟩ = { x with lost := x.lost + 1 } := by simp [Wn.send, e]
          rw [e, e2]
          exact send_full h hn16 hl hc0 hc1 f t s hlk hs hf ht ho hfull
        · have e : x.sendE ⟨f, t, s⟩ = 0 := by simp [Wn.sendE, hlk, hs, ho, hfull]
          have e2 : x.send ⟨f, t, s⟩ = x.add ⟨f, t, s⟩ := by simp [Wn.send, e]
          rw [e, e2]
          exact send_ok h hn16 hl hc0 hc1 f t s hlk hs hf ht ho hfull
      · have e : x.sendE ⟨f, t, s⟩ = 14 := by simp [Wn.sendE, hlk, hs, ho]
        have e2 : x.send ⟨f, t, s⟩ = { x with lost := x.lost + 1 } := by simp [Wn.send, e]
        rw [e, e2]
        exact send_down h hn16 hl hc0 hc1 f t s hlk hs hf ht ho
/-- A letter is sent. -/
theorem rsend_any {w : World} {P : Nat} {v : Value} {x : Wn} (h : WAt 49 36 w P v x) (hn16 : x.n ≤ 16) (hl : x.ls.length ≤ 96) (hc0 : 0 ≤ x.lost) (hc1 : x.lost ≤ 900000) (y : Lt) :
    Calls Try.prog 9 #[.pointer (some ⟨P, 0, none⟩), .agg (ltc y).toArray] w fun e w' => e = .returned (.int .i64 (x.sendE y)) ∧ ∃ u, WAt 49 36 w' P u (x.send y) ∧ Stp (wfp P v) (wfp P u) w w' := by
  obtain ⟨f, t, s⟩ := y
  cases hlk : linkB x.n f t
  · have e : x.sendE ⟨f, t, s⟩ = 1 := by simp [Wn.sendE, hlk]
    have e2 : x.send ⟨f, t, s⟩ = x := by simp [Wn.send, e]
    rw [e, e2]
    exact rsend_link h hn16 hl hc0 hc1 f t s hlk
  · by_cases hs : 8192 < s.size
    · have e : x.sendE ⟨f, t, s⟩ = 7 := by simp [Wn.sendE, hlk, hs]
      have e2 : x.send ⟨f, t, s⟩ = x := by simp [Wn.send, e]
      rw [e, e2]
      exact rsend_long h hn16 hl hc0 hc1 f t s hlk hs
    · have hh : 0 ≤ f ∧ f < x.n ∧ 0 ≤ t ∧ t < x.n ∧ f ≠ t := by simpa [linkB] using hlk
      obtain ⟨f, rfl⟩ := Int.eq_ofNat_of_zero_le hh.1
      obtain ⟨t, rfl⟩ := Int.eq_ofNat_of_zero_le hh.2.2.1
      have hf : f < 16 := by omega
      have ht : t < 16 := by omega
      cases ho : x.out f t
      · by_cases hfull : 96 ≤ x.ls.length
        · have e : x.sendE ⟨f, t, s⟩ = 2 := by simp [Wn.sendE, hlk, hs, ho, hfull]
          have e2 : x.send ⟨f, t, s⟩ = { x with lost := x.lost + 1 } := by simp [Wn.send, e]
          rw [e, e2]
          exact rsend_full h hn16 hl hc0 hc1 f t s hlk hs hf ht ho hfull
        · have e : x.sendE ⟨f, t, s⟩ = 0 := by simp [Wn.sendE, hlk, hs, ho, hfull]
          have e2 : x.send ⟨f, t, s⟩ = x.add ⟨f, t, s⟩ := by simp [Wn.send, e]
          rw [e, e2]
          exact rsend_ok h hn16 hl hc0 hc1 f t s hlk hs hf ht ho hfull
      · have e : x.sendE ⟨f, t, s⟩ = 14 := by simp [Wn.sendE, hlk, hs, ho]
        have e2 : x.send ⟨f, t, s⟩ = { x with lost := x.lost + 1 } := by simp [Wn.send, e]
        rw [e, e2]
        exact rsend_down h hn16 hl hc0 hc1 f t s hlk hs hf ht ho
end Go.Proofs.Ytppjjbhbbnnpgaa
