/- What becomes of a time: the program's Apply. Condition: counts of uint32's range. -/
import Derived.Test.YtfmnbkcjibhloaaAdd2
import Derived.Test.YtfmnbkcjibhloaaFam
import Derived.Deep.CutBlock
import Derived.BigQuiet
import Derived.IntWalk
namespace Go.Proofs.Ytfmnbkcjibhloaa
open Go.RowKit
set_option linter.unusedVariables false
set_option linter.unusedSimpArgs false
section
variable {P : Program} {D : World → Prop} {v u : Value} {w : World}
theorem famUpon_value : famUpon P D v (.ok (.value u) w) = (D w ∧ u = v) := rfl
theorem famUpon_skip : famUpon P D v (.ok .skip w) = (D w ∧ v = undef) := rfl
theorem famUpon_enter {f : FuncId} {args : Array Value} : famUpon P D v (.ok (.enter f args) w) = Calls P f args w (fun e w'' => e = .returned v ∧ D w'') := rfl
theorem famAt_run {o : Oper} {a : Act} : famAt P o a D w v = famUpon P D v ((execOp a.eval o).run P w) := rfl
end
attribute [local go_sem] famUpon_value famUpon_skip famUpon_enter famAt_run
abbrev AtPa (b : Nat) (f k a0 a1 a2 a3 u l0 l1 l2 : Int) (w : World) : Prop := w.cell? ⟨b, 0, none⟩ = some (.int .i64 f) ∧ w.cell? ⟨b, 1, none⟩ = some (.int .i64 k) ∧ w.cell? ⟨b, 2, none⟩ = some (.int .u32 a0) ∧ w.cell? ⟨b, 3, none⟩ = some (.int .u32 a1) ∧ w.cell? ⟨b, 4, none⟩ = some (.int .u32 a2) ∧ w.cell? ⟨b, 5, none⟩ = some (.int .u32 a3) ∧ w.cell? ⟨b, 6, none⟩ = some (.int .i64 u) ∧ w.cell? ⟨b, 7, none⟩ = some (.int .u32 l0) ∧ w.cell? ⟨b, 8, none⟩ = some (.int .u32 l1) ∧ w.cell? ⟨b, 9, none⟩ = some (.int .u32 l2) ∧ ∀ i, w.frozen? ⟨b, i, none⟩ = false
theorem Row.atPa {w : World} {b T : Nat} {f k a0 a1 a2 a3 u l0 l1 l2 : Int} (h : Row w b #[.int .i64 f, .int .i64 k, .int .u32 a0, .int .u32 a1, .int .u32 a2, .int .u32 a3, .int .i64 u, .int .u32 l0, .int .u32 l1, .int .u32 l2] T) : AtPa b f k a0 a1 a2 a3 u l0 l1 l2 w := h.ten
/-- What the first region reads. -/
abbrev S3 (w0 : World) (A B R : Nat) (f k a0 a1 a2 a3 u l0 l1 l2 e d m0 m1 m2 : Int) (w : World) : Prop := Q3 w0 A B R #[.int .i64 f, .int .i64 k, .int .u32 a0, .int .u32 a1, .int .u32 a2, .int .u32 a3, .int .i64 u, .int .u32 l0, .int .u32 l1, .int .u32 l2] #[.int .u32 e, .int .i64 d, .int .u32 m0, .int .u32 m1, .int .u32 m2] #[.int .u32 0, .int .i64 0, .int .u32 0, .int .u32 0, .int .u32 0] 26 49 49 w ∧ AtPa A f k a0 a1 a2 a3 u l0 l1 l2 w ∧ AtTm B e d m0 m1 m2 w ∧ AtTm R 0 0 0 0 0 w
theorem Q3.s {w0 w : World} {A B R : Nat} {f k a0 a1 a2 a3 u l0 l1 l2 e d m0 m1 m2 : Int} (h : Q3 w0 A B R #[.int .i64 f, .int .i64 k, .int .u32 a0, .int .u32 a1, .int .u32 a2, .int .u32 a3, .int .i64 u, .int .u32 l0, .int .u32 l1, .int .u32 l2] #[.int .u32 e, .int .i64 d, .int .u32 m0, .int .u32 m1, .int .u32 m2] #[.int .u32 0, .int .i64 0, .int .u32 0, .int .u32 0, .int .u32 0] 26 49 49 w) : S3 w0 A B R f k a0 a1 a2 a3 u l0 l1 l2 e d m0 m1 m2 w := ⟨h, h.a.atPa, h.b.atTm, h.r.atTm⟩
theorem s3_below {w0 w w' : World} {A B R : Nat} {f k a0 a1 a2 a3 u l0 l1 l2 e d m0 m1 m2 : Int} (hb : Below w.heap.size w w') (h : S3 w0 A B R f k a0 a1 a2 a3 u l0 l1 l2 e d m0 m1 m2 w) : S3 w0 A B R f k a0 a1 a2 a3 u l0 l1 l2 e d m0 m1 m2 w' := (h.1.below hb).s
theorem or2_new (w : World) (x1 x2 : Int) : Calls Try.prog 49 #[.slice (some ⟨w.heap.size, 0, none⟩) 2 2] (w.alloc (.cells #[.int .i64 x1, .int .i64 x2] 27)) fun e w' => e = .returned (.int .i64 (orL [x1, x2])) ∧ (w.alloc (.cells #[.int .i64 x1, .int .i64 x2] 27)) = w' :=
  or49 w.heap.size 2 [x1, x2] _ (by simp) (fun i x hi => (Row.new w _ 27).cell i _ (by
    rcases i with _ | _ | i
    · cases hi; rfl
    · cases hi; rfl
    · cases hi))
set_option maxHeartbeats 4000000 in
theorem apply_a (f k a0 a1 a2 a3 u l0 l1 l2 e d m0 m1 m2 : Int) (w : World) (cp ct c : Int) (hp : chk ⟨f, k, a0, a1, a2, a3, u, l0, l1, l2⟩ = cp) (ht : tck ⟨e, d, m0, m1, m2⟩ = ct) (hc : orL [cp, ct] = c) (h0 : c ≠ 0) : Calls Try.prog 33 #[.agg #[.int .i64 f, .int .i64 k, .int .u32 a0, .int .u32 a1, .int .u32 a2, .int .u32 a3, .int .i64 u, .int .u32 l0, .int .u32 l1, .int .u32 l2], .agg #[.int .u32 e, .int .i64 d, .int .u32 m0, .int .u32 m1, .int .u32 m2]] w fun e' w' => e' = .returned (.tuple #[.agg #[.int .u32 0, .int .i64 0, .int .u32 0, .int .u32 0, .int .u32 0], .int .i64 c]) ∧ Below w.heap.size w w' := by
  have HCP := Lib.hid hp
  have HCT := Lib.hid ht
  have HC := Lib.hid hc
  have g2 : (c != 0) = true := by simp [h0]
  clear hc h0 hp ht
  go_enter Try.func33, Try.ntmps33
  go_upto_region 1 with (fail)
  have hq := Q3.start w #[.int .i64 f, .int .i64 k, .int .u32 a0, .int .u32 a1, .int .u32 a2, .int .u32 a3, .int .i64 u, .int .u32 l0, .int .u32 l1, .int .u32 l2] #[.int .u32 e, .int .i64 d, .int .u32 m0, .int .u32 m1, .int .u32 m2] #[.int .u32 0, .int .i64 0, .int .u32 0, .int .u32 0, .int .u32 0] 26 49 49
  generalize ((w.alloc (.cells #[.int .i64 f, .int .i64 k, .int .u32 a0, .int .u32 a1, .int .u32 a2, .int .u32 a3, .int .i64 u, .int .u32 l0, .int .u32 l1, .int .u32 l2] 26)).alloc (.cells #[.int .u32 e, .int .i64 d, .int .u32 m0, .int .u32 m1, .int .u32 m2] 49)).alloc (.cells #[.int .u32 0, .int .i64 0, .int .u32 0, .int .u32 0, .int .u32 0] 49) = wc at hq ⊢
  generalize hA : w.heap.size = A at hq ⊢
  generalize hB : A + 1 = B at hq ⊢
  generalize hR : B + 1 = R at hq ⊢
  clear hA hB hR
  go_cut [6] (fun v6 wr => v6 = .int .i64 c ∧ Q3 w A B R #[.int .i64 f, .int .i64 k, .int .u32 a0, .int .u32 a1, .int .u32 a2, .int .u32 a3, .int .i64 u, .int .u32 l0, .int .u32 l1, .int .u32 l2] #[.int .u32 e, .int .i64 d, .int .u32 m0, .int .u32 m1, .int .u32 m2] #[.int .u32 0, .int .i64 0, .int .u32 0, .int .u32 0, .int .u32 0] 26 49 49 wr)
  case first =>
    have H := Lib.hid hq.drew.s
    clear hq
    go_region_held3 (S3 w A B R f k a0 a1 a2 a3 u l0 l1 l2 e d m0 m1 m2) (first | (with_reducible exact H.out) | (with_reducible assumption) | (with_reducible exact s3_below ‹_› ‹_›) | (with_reducible exact s3_below (below_new _ _) ‹_›))
      (first
        | (go_at_call 22; (with_reducible refine (check_all f k a0 a1 a2 a3 u l0 l1 l2 _ _ HCP.out).mono ?_); rintro e' w1 ⟨rfl, hb1⟩)
        | (go_at_call 50; (with_reducible refine (tcheck_all e d m0 m1 m2 _ _ HCT.out).mono ?_); rintro e' w1 ⟨rfl, hb1⟩)
        | (go_at_call 49; (with_reducible refine (or2_new _ _ _).mono ?_); rw [HC.out]; rintro e' w' ⟨rfl, rfl⟩))
    all_goals
      go_wp2_with fail
      go_meet
      case rel => exact ⟨rfl, (‹S3 w A B R f k a0 a1 a2 a3 u l0 l1 l2 e d m0 m1 m2 _›).1⟩
  case rest =>
  clear hq
  obtain ⟨rfl, hq⟩ := hcut
  obtain ⟨a_0, a_1, a_2, a_3, a_4, a_5, a_6, a_7, a_8, a_9, a_f⟩ := hq.a.ten
  obtain ⟨b_0, b_1, b_2, b_3, b_4, b_f⟩ := hq.b.atTm
  obtain ⟨r_0, r_1, r_2, r_3, r_4, r_f⟩ := hq.r.atTm
  go_wp2
  refine bodyPost_ret (v := .tuple #[.agg #[.int .u32 0, .int .i64 0, .int .u32 0, .int .u32 0, .int .u32 0], .int .i64 c]) (by simp [results, Try.results33, go_sem, *]) rfl ⟨rfl, ?_⟩
  exact (((((hq.setR 0 _).setR 1 _).setR 2 _).setR 3 _).setR 4 _).z
set_option maxHeartbeats 4000000 in
theorem apply_c (f k a0 a1 a2 a3 u l0 l1 l2 e d m0 m1 m2 : Int) (w : World) (hp : chk ⟨f, k, a0, a1, a2, a3, u, l0, l1, l2⟩ = 0) (ht : tck ⟨e, d, m0, m1, m2⟩ = 0) (h0 : d ≠ f) : Calls Try.prog 33 #[.agg #[.int .i64 f, .int .i64 k, .int .u32 a0, .int .u32 a1, .int .u32 a2, .int .u32 a3, .int .i64 u, .int .u32 l0, .int .u32 l1, .int .u32 l2], .agg #[.int .u32 e, .int .i64 d, .int .u32 m0, .int .u32 m1, .int .u32 m2]] w fun e' w' => e' = .returned (.tuple #[.agg #[.int .u32 0, .int .i64 0, .int .u32 0, .int .u32 0, .int .u32 0], .int .i64 10]) ∧ Below w.heap.size w w' := by
  have HCP := Lib.hid hp
  have HCT := Lib.hid ht
  have HC := Lib.hid (show orL [0, 0] = 0 from rfl)
  have g2 : (d != f) = true := by simp [h0]
  clear h0 hp ht
  go_enter Try.func33, Try.ntmps33
  go_upto_region 1 with (fail)
  have hq := Q3.start w #[.int .i64 f, .int .i64 k, .int .u32 a0, .int .u32 a1, .int .u32 a2, .int .u32 a3, .int .i64 u, .int .u32 l0, .int .u32 l1, .int .u32 l2] #[.int .u32 e, .int .i64 d, .int .u32 m0, .int .u32 m1, .int .u32 m2] #[.int .u32 0, .int .i64 0, .int .u32 0, .int .u32 0, .int .u32 0] 26 49 49
  generalize ((w.alloc (.cells #[.int .i64 f, .int .i64 k, .int .u32 a0, .int .u32 a1, .int .u32 a2, .int .u32 a3, .int .i64 u, .int .u32 l0, .int .u32 l1, .int .u32 l2] 26)).alloc (.cells #[.int .u32 e, .int .i64 d, .int .u32 m0, .int .u32 m1, .int .u32 m2] 49)).alloc (.cells #[.int .u32 0, .int .i64 0, .int .u32 0, .int .u32 0, .int .u32 0] 49) = wc at hq ⊢
  generalize hA : w.heap.size = A at hq ⊢
  generalize hB : A + 1 = B at hq ⊢
  generalize hR : B + 1 = R at hq ⊢
  clear hA hB hR
  go_cut [6] (fun v6 wr => v6 = .int .i64 0 ∧ Q3 w A B R #[.int .i64 f, .int .i64 k, .int .u32 a0, .int .u32 a1, .int .u32 a2, .int .u32 a3, .int .i64 u, .int .u32 l0, .int .u32 l1, .int .u32 l2] #[.int .u32 e, .int .i64 d, .int .u32 m0, .int .u32 m1, .int .u32 m2] #[.int .u32 0, .int .i64 0, .int .u32 0, .int .u32 0, .int .u32 0] 26 49 49 wr)
  case first =>
    have H := Lib.hid hq.drew.s
    clear hq
    go_region_held3 (S3 w A B R f k a0 a1 a2 a3 u l0 l1 l2 e d m0 m1 m2) (first | (with_reducible exact H.out) | (with_reducible assumption) | (with_reducible exact s3_below ‹_› ‹_›) | (with_reducible exact s3_below (below_new _ _) ‹_›))
      (first
        | (go_at_call 22; (with_reducible refine (check_all f k a0 a1 a2 a3 u l0 l1 l2 _ _ HCP.out).mono ?_); rintro e' w1 ⟨rfl, hb1⟩)
        | (go_at_call 50; (with_reducible refine (tcheck_all e d m0 m1 m2 _ _ HCT.out).mono ?_); rintro e' w1 ⟨rfl, hb1⟩)
        | (go_at_call 49; (with_reducible refine (or2_new _ _ _).mono ?_); rw [HC.out]; rintro e' w' ⟨rfl, rfl⟩))
    all_goals
      go_wp2_with fail
      go_meet
      case rel => exact ⟨rfl, (‹S3 w A B R f k a0 a1 a2 a3 u l0 l1 l2 e d m0 m1 m2 _›).1⟩
  case rest =>
  clear hq
  obtain ⟨rfl, hq⟩ := hcut
  obtain ⟨a_0, a_1, a_2, a_3, a_4, a_5, a_6, a_7, a_8, a_9, a_f⟩ := hq.a.ten
  obtain ⟨b_0, b_1, b_2, b_3, b_4, b_f⟩ := hq.b.atTm
  obtain ⟨r_0, r_1, r_2, r_3, r_4, r_f⟩ := hq.r.atTm
  go_wp2
  refine bodyPost_ret (v := .tuple #[.agg #[.int .u32 0, .int .i64 0, .int .u32 0, .int .u32 0, .int .u32 0], .int .i64 10]) (by simp [results, Try.results33, go_sem, *]) rfl ⟨rfl, ?_⟩
  exact (((((hq.setR 0 _).setR 1 _).setR 2 _).setR 3 _).setR 4 _).z

/-- What a copy comes to. -/
theorem run_copy_splice {P : Program} (w : World) (dT sT ty elem : TypeId) (hu : P.underlying dT = some (.slice elem)) (hsz : (P.info? elem).map (·.size) = some 1)
    (dp sp : Option Addr) (dLen dCap sLen sCap : Nat) (g off : Nat) (cur : List Value) (t : TypeId) (hg : w.heap[g]? = some (.cells cur.toArray t (0, 0))) (cs : List Value) (hn : cs.length = Nat.min sLen dLen)
    (hpos : 0 < cs.length → dp = some ⟨g, off, none⟩ ∧ ∃ ad, sp = some ad ∧ ∀ j v, cs[j]? = some v → w.cell? (ad.add j) = some v)
    (hfit : off + cs.length ≤ cur.length) (h1 : ∀ v ∈ cs, v.oneCell' = true) :
    ∃ w', (Builtin.copy_ #[dT, sT] ty #[.slice dp dLen dCap, .slice sp sLen sCap]).run P w = .ok (goInt cs.length) w' ∧ Row w' g (splice cur off cs).toArray t ∧ Below g w w' := by
  by_cases h0 : cs.length = 0
  · obtain rfl : cs = [] := List.eq_nil_of_length_eq_zero h0
    exact ⟨w, run_copy_none (P := P) w dT sT ty elem dp sp dLen dCap sLen sCap hu hsz (by simpa using hn.symm), (show _ = _ by simpa [splice] using hg), Below.refl _ _⟩
  · obtain ⟨rfl, ad, rfl, hsrc⟩ := hpos (by omega)
    exact ⟨_, run_copy_row (P := P) w dT sT ty elem g off dLen dCap ad sLen sCap cur.toArray t cs hu hsz hg hn hsrc (by simpa using hfit) h1, (show _ = _ by simpa [splice] using setRow_heap w g _ _ t _ hg), below_setRow (Below.refl _ _) (Nat.le_refl _) _⟩
/-- The sums' row, and the time that is made: which of them are done. -/
structure C7 (w0 : World) (A B R S X : Nat) (a b r : Array Value) (o1 : Bool) (v0 v1 : Value) (s : Nat → Bool) (w : World) : Prop where
  q : Q4 w0 A B R S a b r #[.bool (cond (s 6) o1 false)] 26 49 49 72 w
  lt : S < X
  i : s 14 = true → s 13 = true
  n : s 13 = false → w.heap.size = X
  x : s 13 = true → Row w X (cond (s 14) #[v0, v1, .int .u32 0, .int .u32 0, .int .u32 0] #[.int .u32 0, .int .i64 0, .int .u32 0, .int .u32 0, .int .u32 0]) 49
/-- Five blocks. -/
structure Q5 (w0 : World) (A B R S X : Nat) (a b r sc x : Array Value) (TA TB TR TS TX : Nat) (w : World) : Prop where
  q : Q4 w0 A B R S a b r sc TA TB TR TS w
  x : Row w X x TX
  SX : S < X
section
variable {w0 w w' : World} {A B R S X TA TB TR TS TX : Nat} {a b r sc x x' : Array Value}
theorem Q5.drew (h : Q5 w0 A B R S X a b r sc x TA TB TR TS TX w) : Q5 w0 A B R S X a b r sc x TA TB TR TS TX w.drew := ⟨h.q.drew, h.x, h.SX⟩
theorem Q5.setX (h : Q5 w0 A B R S X a b r sc x TA TB TR TS TX w) (i : Nat) (v : Value) : Q5 w0 A B R S X a b r sc (x.setIfInBounds i v) TA TB TR TS TX (w.setCell ⟨X, i, none⟩ v) := by
  have h1 := h.q.q.lA; have h2 := h.q.q.AB; have h3 := h.q.q.BR; have h4 := h.q.RX; have h5 := h.SX
  exact ⟨⟨⟨h.q.q.a.setOther X i (by omega) v, h.q.q.b.setOther X i (by omega) v, h.q.q.r.setOther X i (by omega) v, below_set h.q.q.z X i (by omega) v, h1, h2, h3⟩, h.q.x.setOther X i (by omega) v, h4⟩, h.x.set i v, h5⟩
theorem Q5.setS (h : Q5 w0 A B R S X a b r sc x TA TB TR TS TX w) (i : Nat) (v : Value) : Q5 w0 A B R S X a b r (sc.setIfInBounds i v) x TA TB TR TS TX (w.setCell ⟨S, i, none⟩ v) :=
  ⟨h.q.setX i v, h.x.setOther S i (by have := h.SX; omega) v, h.SX⟩
theorem Q5.cast (h : Q5 w0 A B R S X a b r sc x TA TB TR TS TX w) (e : x = x') : Q5 w0 A B R S X a b r sc x' TA TB TR TS TX w := e ▸ h
theorem Row.belowB {B b T : Nat} {cs : Array Value} (h : Row w b cs T) (hl : b < B) (hb : Below B w w') : Row w' b cs T := by
  unfold Row; rw [hb.block b hl]; exact h
/-- What a copy into the last block leaves. -/
theorem Q5.fill (h : Q5 w0 A B R S X a b r sc x TA TB TR TS TX w) (hb : Below X w w') (hx : Row w' X x' TX) : Q5 w0 A B R S X a b r sc x' TA TB TR TS TX w' := by
  have h1 := h.q.q.lA; have h2 := h.q.q.AB; have h3 := h.q.q.BR; have h4 := h.q.RX; have h5 := h.SX
  exact ⟨⟨⟨h.q.q.a.belowB (by omega) hb, h.q.q.b.belowB (by omega) hb, h.q.q.r.belowB (by omega) hb, h.q.q.z.trans (hb.mono (by omega)), h1, h2, h3⟩, h.q.x.belowB (by omega) hb, h4⟩, hx, h5⟩
end
/-- The sums' row and the time that is made, in a round: which of them are done (operations ic, is). -/
structure CL (ic is : Nat) (w0 : World) (A B R S X : Nat) (a b r : Array Value) (TA TB TR TX : Nat) (o1 o2 : Bool) (zs xs : Array Value) (s : Nat → Bool) (w : World) : Prop where
  q : Q5 w0 A B R S X a b r #[.bool (cond (s ic) o2 o1)] (cond (s is) xs zs) TA TB TR 72 TX w
section
variable {ic is : Nat} {w0 w : World} {A B R S X TA TB TR TX : Nat} {a b r zs xs : Array Value} {o1 o2 : Bool} {s : Nat → Bool}
theorem CL.cellS (h : CL ic is w0 A B R S X a b r TA TB TR TX o1 o2 zs xs s w) (h6 : s ic = false) : w.cell? ⟨S, 0, none⟩ = some (.bool o1) ∧ w.frozen? ⟨S, 0, none⟩ = false := by
  have := h.q.q.x
  rw [h6] at this
  exact ⟨this.cell 0 _ rfl, this.free 0⟩
theorem CL.rowX (h : CL ic is w0 A B R S X a b r TA TB TR TX o1 o2 zs xs s w) (h6 : s is = false) : Row w X zs TX := by
  have := h.q.x
  rw [h6] at this
  exact this
theorem CL.call (h : CL ic is w0 A B R S X a b r TA TB TR TX o1 o2 zs xs s w) (hn : is ≠ ic) : CL ic is w0 A B R S X a b r TA TB TR TX o1 o2 zs xs (upd s ic) (w.setCell ⟨S, 0, none⟩ (.bool o2)) := by
  refine ⟨?_⟩
  have := h.q.setS 0 (.bool o2)
  unfold upd
  rw [if_pos rfl, if_neg hn]
  exact this
theorem CL.store (h : CL ic is w0 A B R S X a b r TA TB TR TX o1 o2 zs xs s w) (h6 : s is = false) (hn : ic ≠ is) (i : Nat) (v : Value) (e : xs = zs.setIfInBounds i v) : CL ic is w0 A B R S X a b r TA TB TR TX o1 o2 zs xs (upd s is) (w.setCell ⟨X, i, none⟩ v) := by
  refine ⟨?_⟩
  have := h.q.setX i v
  unfold upd
  rw [if_pos rfl, if_neg hn]
  rw [h6] at this
  exact this.cast e.symm
theorem CL.pure (h : CL ic is w0 A B R S X a b r TA TB TR TX o1 o2 zs xs s w) {k : Nat} (h1 : ic ≠ k) (h2 : is ≠ k) : CL ic is w0 A B R S X a b r TA TB TR TX o1 o2 zs xs (upd s k) w := by
  refine ⟨?_⟩
  unfold upd
  rw [if_neg h1, if_neg h2]
  exact h.q
theorem CL.start (h : Q5 w0 A B R S X a b r #[.bool o1] zs TA TB TR 72 TX w) (h1 : s ic = false) (h2 : s is = false) : CL ic is w0 A B R S X a b r TA TB TR TX o1 o2 zs xs s w := by
  refine ⟨?_⟩
  rw [h1, h2]
  exact h
theorem CL.start0 (h : Q5 w0 A B R S X a b r #[.bool o1] zs TA TB TR 72 TX w) (h2 : s is = false) : CL ic is w0 A B R S X a b r TA TB TR TX o1 o1 zs xs s w := by
  refine ⟨?_⟩
  rw [h2]
  cases s ic <;> exact h
theorem CL.fill {w' : World} (h : CL ic is w0 A B R S X a b r TA TB TR TX o1 o2 zs xs s w) (hn : ic ≠ is) (hb : Below X w w') (hx : Row w' X xs TX) : CL ic is w0 A B R S X a b r TA TB TR TX o1 o2 zs xs (upd s is) w' := by
  refine ⟨?_⟩
  unfold upd
  rw [if_pos rfl, if_neg hn]
  exact h.q.fill hb hx
theorem CL.done (h : CL ic is w0 A B R S X a b r TA TB TR TX o1 o2 zs xs (fun _ => true) w) : Q5 w0 A B R S X a b r #[.bool o2] xs TA TB TR 72 TX w := h.q
end
section
variable {w0 w : World} {A B R S X : Nat} {a b r : Array Value} {o1 : Bool} {v0 v1 : Value} {s : Nat → Bool}
theorem C7.start (h : Q4 w0 A B R S a b r #[.bool false] 26 49 49 72 w) (hX : w.heap.size = X) (h6 : s 6 = false) (h13 : s 13 = false) (h14 : s 14 = false) : C7 w0 A B R S X a b r o1 v0 v1 s w :=
  ⟨by rw [h6]; exact h, hX ▸ h.x.lt, fun e => (by rw [h14] at e; cases e), fun _ => hX, fun e => (by rw [h13] at e; cases e)⟩
theorem C7.cellS (h : C7 w0 A B R S X a b r o1 v0 v1 s w) (h6 : s 6 = false) : w.cell? ⟨S, 0, none⟩ = some (.bool false) ∧ w.frozen? ⟨S, 0, none⟩ = false := by
  have := h.q.x
  rw [h6] at this
  exact ⟨this.cell 0 _ rfl, this.free 0⟩
theorem C7.cellX (h : C7 w0 A B R S X a b r o1 v0 v1 s w) (h13 : s 13 = true) (h14 : s 14 = false) : AtTm X 0 0 0 0 0 w := by
  have := h.x h13
  rw [h14] at this
  exact this.atTm
theorem C7.alloc (h : C7 w0 A B R S X a b r o1 v0 v1 s w) (h13 : s 13 = false) : C7 w0 A B R S X a b r o1 v0 v1 (upd s 13) (w.alloc (.cells #[.int .u32 0, .int .i64 0, .int .u32 0, .int .u32 0, .int .u32 0] 49)) := by
  have h14 : s 14 = false := by
    cases e : s 14
    · rfl
    · have := h.i e; rw [h13] at this; cases this
  have hX := h.n h13
  refine ⟨h.q.below (below_new _ _), h.lt, fun _ => rfl, fun e => (by cases e), fun _ => ?_⟩
  show Row _ X (cond (s 14) _ _) 49
  rw [h14, ← hX]
  exact Row.new _ _ _
theorem C7.call (h : C7 w0 A B R S X a b r o1 v0 v1 s w) (h6 : s 6 = false) : C7 w0 A B R S X a b r o1 v0 v1 (upd s 6) (w.setCell ⟨S, 0, none⟩ (.bool o1)) := by
  refine ⟨h.q.setX 0 _, h.lt, h.i, fun e => ?_, fun e => ?_⟩
  · rw [size_set]; exact h.n e
  · exact (h.x e).setOther S 0 (by have := h.lt; omega) _
theorem C7.store (h : C7 w0 A B R S X a b r o1 v0 v1 s w) (h13 : s 13 = true) (h14 : s 14 = false) : C7 w0 A B R S X a b r o1 v0 v1 (upd s 14) (((((w.setCell ⟨X, 0, none⟩ v0).setCell ⟨X, 1, none⟩ v1).setCell ⟨X, 2, none⟩ (.int .u32 0)).setCell ⟨X, 3, none⟩ (.int .u32 0)).setCell ⟨X, 4, none⟩ (.int .u32 0)) := by
  have hx := h.x h13
  rw [h14] at hx
  have h1 := h.q.q.lA; have h2 := h.q.q.AB; have h3 := h.q.q.BR; have h4 := h.q.RX; have h5 := h.lt
  have key : ∀ {w : World} {y : Array Value} (i : Nat) (v : Value), Q4 w0 A B R S a b r y 26 49 49 72 w → Q4 w0 A B R S a b r y 26 49 49 72 (w.setCell ⟨X, i, none⟩ v) := fun i v q =>
    ⟨⟨q.q.a.setOther X i (by omega) v, q.q.b.setOther X i (by omega) v, q.q.r.setOther X i (by omega) v, below_set q.q.z X i (by omega) v, h1, h2, h3⟩, q.x.setOther X i (by omega) v, h4⟩
  exact ⟨key 4 _ (key 3 _ (key 2 _ (key 1 _ (key 0 _ h.q)))), h.lt, fun _ => h13, fun e => (by have : s 13 = false := e; rw [h13] at this; cases this), fun _ => ((((hx.set 0 v0).set 1 v1).set 2 _).set 3 _).set 4 _⟩
end
theorem src_l {w : World} {A T : Nat} {f k a0 a1 a2 a3 u l0 l1 l2 : Int} (h : Row w A #[.int .i64 f, .int .i64 k, .int .u32 a0, .int .u32 a1, .int .u32 a2, .int .u32 a3, .int .i64 u, .int .u32 l0, .int .u32 l1, .int .u32 l2] T) (n : Nat) (hn : n ≤ 3) (j : Nat) (v : Value) (hj : ([.int .u32 l0, .int .u32 l1, .int .u32 l2].take n)[j]? = some v) : w.cell? ((⟨A, 7, none⟩ : Addr).add j) = some v := by
  have : j < n := by
    rcases Nat.lt_or_ge j n with h | h
    · exact h
    · rw [List.getElem?_eq_none (by simp; omega)] at hj; cases hj
  rw [List.getElem?_take_of_lt this] at hj
  rcases j with _ | _ | _ | j
  · cases hj; exact h.cell _ _ rfl
  · cases hj; exact h.cell _ _ rfl
  · cases hj; exact h.cell _ _ rfl
  · cases hj
theorem apL_big {p : Pa} {t : Tm} (hp : Good p) (i : Int) : 1048576 < apL p t i ↔ i < p.k ∧ 1048576 < t.L i + p.A (i + 1) := by
  have h := hp.Lle (i - p.k)
  unfold apL
  split
  · omega
  · split <;> omega
theorem over_eq (f : Int) (kn : Nat) (a0 a1 a2 a3 : Int) (un : Nat) (l0 l1 l2 e m0 m1 m2 : Int) (hG : Good ⟨f, kn, a0, a1, a2, a3, un, l0, l1, l2⟩) : apOver ⟨f, kn, a0, a1, a2, a3, un, l0, l1, l2⟩ ⟨e, f, m0, m1, m2⟩ = (bigN e a0 || (([bigN m0 a1, bigN m1 a2, bigN m2 a3]).take kn).any id) := by
  have hk : kn ≤ 3 := by have := hG.u3; have := hG.u0; simp only at *; omega
  unfold apOver
  have q0 := apL_big (t := ⟨e, f, m0, m1, m2⟩) hG 0
  have q1 := apL_big (t := ⟨e, f, m0, m1, m2⟩) hG 1
  have q2 := apL_big (t := ⟨e, f, m0, m1, m2⟩) hG 2
  rw [Bool.eq_iff_iff, decide_eq_true_iff, q0, q1, q2]
  have : kn = 0 ∨ kn = 1 ∨ kn = 2 ∨ kn = 3 := by omega
  rcases this with rfl | rfl | rfl | rfl <;> simp [bigN, Tm.L, Pa.A] <;> omega
set_option maxHeartbeats 16000000 in
theorem apply_d (f a0 a1 a2 a3 l0 l1 l2 e m0 m1 m2 : Int) (kn un : Nat) (w : World) (hp : chk ⟨f, kn, a0, a1, a2, a3, un, l0, l1, l2⟩ = 0) (hc : tck ⟨e, f, m0, m1, m2⟩ = 0) (okp : PaOk ⟨f, kn, a0, a1, a2, a3, un, l0, l1, l2⟩) (okt : TmOk ⟨e, f, m0, m1, m2⟩) (x : Tm) (c : Int) (hx : applyR ⟨f, kn, a0, a1, a2, a3, un, l0, l1, l2⟩ ⟨e, f, m0, m1, m2⟩ = (x, c)) : Calls Try.prog 33 #[.agg #[.int .i64 f, .int .i64 kn, .int .u32 a0, .int .u32 a1, .int .u32 a2, .int .u32 a3, .int .i64 un, .int .u32 l0, .int .u32 l1, .int .u32 l2], .agg #[.int .u32 e, .int .i64 f, .int .u32 m0, .int .u32 m1, .int .u32 m2]] w fun e' w' => e' = .returned (.tuple #[.agg #[.int .u32 x.e, .int .i64 x.d, .int .u32 x.l0, .int .u32 x.l1, .int .u32 x.l2], .int .i64 c]) ∧ Below w.heap.size w w' := by
  have HCP := Lib.hid hp
  have HCT := Lib.hid hc
  have HC := Lib.hid (show orL [0, 0] = 0 from rfl)
  have gp := good_iff.1 hp
  have gt := tck_iff.1 hc
  have HX := Lib.hid hx
  obtain ⟨⟨p0, _⟩, ⟨p1, _⟩, ⟨p2, _⟩, ⟨p3, _⟩, _⟩ := okp
  obtain ⟨⟨t0, _⟩, ⟨t1, _⟩, ⟨t2, _⟩, ⟨t3, _⟩⟩ := okt
  simp only at p0 p1 p2 p3 t0 t1 t2 t3
  have q0 : a0 ≤ 1048576 := gp.g0
  have q1 : a1 ≤ 1048576 := gp.g1
  have q2 : a2 ≤ 1048576 := gp.g2
  have q3 : a3 ≤ 1048576 := gp.g3
  obtain ⟨_, _, s0, s1, s2, s3, _⟩ := gt
  simp only at s0 s1 s2 s3
  have hku : kn + un ≤ 3 := by have := gp.u3; simp only at this; omega
  have HG := Lib.hid gp
  clear hp hc hx gp
  go_enter Try.func33, Try.ntmps33
  go_upto_region 1 with (fail)
  have hq := Q3.start w #[.int .i64 f, .int .i64 kn, .int .u32 a0, .int .u32 a1, .int .u32 a2, .int .u32 a3, .int .i64 un, .int .u32 l0, .int .u32 l1, .int .u32 l2] #[.int .u32 e, .int .i64 f, .int .u32 m0, .int .u32 m1, .int .u32 m2] #[.int .u32 0, .int .i64 0, .int .u32 0, .int .u32 0, .int .u32 0] 26 49 49
  generalize ((w.alloc (.cells #[.int .i64 f, .int .i64 kn, .int .u32 a0, .int .u32 a1, .int .u32 a2, .int .u32 a3, .int .i64 un, .int .u32 l0, .int .u32 l1, .int .u32 l2] 26)).alloc (.cells #[.int .u32 e, .int .i64 f, .int .u32 m0, .int .u32 m1, .int .u32 m2] 49)).alloc (.cells #[.int .u32 0, .int .i64 0, .int .u32 0, .int .u32 0, .int .u32 0] 49) = wc at hq ⊢
  generalize hA : w.heap.size = A at hq ⊢
  generalize hB : A + 1 = B at hq ⊢
  generalize hR : B + 1 = R at hq ⊢
  clear hA hB hR
  go_cut [6] (fun v6 wr => v6 = .int .i64 0 ∧ Q3 w A B R #[.int .i64 f, .int .i64 kn, .int .u32 a0, .int .u32 a1, .int .u32 a2, .int .u32 a3, .int .i64 un, .int .u32 l0, .int .u32 l1, .int .u32 l2] #[.int .u32 e, .int .i64 f, .int .u32 m0, .int .u32 m1, .int .u32 m2] #[.int .u32 0, .int .i64 0, .int .u32 0, .int .u32 0, .int .u32 0] 26 49 49 wr)
  case first =>
    have H := Lib.hid hq.drew.s
    clear hq
    go_region_held3 (S3 w A B R f kn a0 a1 a2 a3 un l0 l1 l2 e f m0 m1 m2) (first | (with_reducible exact H.out) | (with_reducible assumption) | (with_reducible exact s3_below ‹_› ‹_›) | (with_reducible exact s3_below (below_new _ _) ‹_›))
      (first
        | (go_at_call 22; (with_reducible refine (check_all f kn a0 a1 a2 a3 un l0 l1 l2 _ _ HCP.out).mono ?_); rintro e' w1 ⟨rfl, hb1⟩)
        | (go_at_call 50; (with_reducible refine (tcheck_all e f m0 m1 m2 _ _ HCT.out).mono ?_); rintro e' w1 ⟨rfl, hb1⟩)
        | (go_at_call 49; (with_reducible refine (or2_new _ _ _).mono ?_); rw [HC.out]; rintro e' w' ⟨rfl, rfl⟩))
    all_goals
      go_wp2_with fail
      go_meet
      case rel => exact ⟨rfl, (‹S3 w A B R f kn a0 a1 a2 a3 un l0 l1 l2 e f m0 m1 m2 _›).1⟩
  case rest =>
  clear hq
  obtain ⟨rfl, hq⟩ := hcut
  obtain ⟨a_0, a_1, a_2, a_3, a_4, a_5, a_6, a_7, a_8, a_9, a_f⟩ := hq.a.ten
  obtain ⟨b_0, b_1, b_2, b_3, b_4, b_f⟩ := hq.b.atTm
  obtain ⟨r_0, r_1, r_2, r_3, r_4, r_f⟩ := hq.r.atTm
  go_upto_region 7 with (fail)
  have hq4 := hq.new #[.bool false] 72
  clear a_0 a_1 a_2 a_3 a_4 a_5 a_6 a_7 a_8 a_9 a_f b_0 b_1 b_2 b_3 b_4 b_f r_0 r_1 r_2 r_3 r_4 r_f hq
  generalize hS : wc.heap.size = S at hq4 ⊢
  generalize wc.alloc (.cells #[.bool false] 72) = wd at hq4 ⊢
  obtain ⟨X, hX⟩ : ∃ X, wd.heap.size = X := ⟨_, rfl⟩
  have hC : ∀ s : Nat → Bool, s 6 = false → s 13 = false → s 14 = false → C7 w A B R S X #[.int .i64 f, .int .i64 kn, .int .u32 a0, .int .u32 a1, .int .u32 a2, .int .u32 a3, .int .i64 un, .int .u32 l0, .int .u32 l1, .int .u32 l2] #[.int .u32 e, .int .i64 f, .int .u32 m0, .int .u32 m1, .int .u32 m2] #[.int .u32 0, .int .i64 0, .int .u32 0, .int .u32 0, .int .u32 0] (bigN e a0) (.int .u32 (sumN e a0)) (.int .i64 (kn + un)) s wd.drew := fun s h6 h13 h14 => C7.start hq4.drew hX h6 h13 h14
  clear hX hS hq4
  have bku : IntKind.i64.wrap ((kn : Int) + un) = kn + un := IntWalk.i64_in _ (by omega)
  refine region_fam (C7 w A B R S X #[.int .i64 f, .int .i64 kn, .int .u32 a0, .int .u32 a1, .int .u32 a2, .int .u32 a3, .int .i64 un, .int .u32 l0, .int .u32 l1, .int .u32 l2] #[.int .u32 e, .int .i64 f, .int .u32 m0, .int .u32 m1, .int .u32 m2] #[.int .u32 0, .int .i64 0, .int .u32 0, .int .u32 0, .int .u32 0] (bigN e a0) (.int .u32 (sumN e a0)) (.int .i64 (kn + un))) (by kernel_rfl) (by kernel_rfl) (hC _ rfl rfl rfl) ?_
  clear hC
  repeat
    (refine step_fam (fun K hK => ?_)
     go_simp
     first
       | (with_reducible apply Hf.of
          · intro s wv hk hd hv
            have Hv := Lib.hid hv
            obtain ⟨a_0, a_1, a_2, a_3, a_4, a_5, a_6, a_7, a_8, a_9, a_f⟩ := hv.q.q.a.ten
            obtain ⟨b_0, b_1, b_2, b_3, b_4, b_f⟩ := hv.q.q.b.atTm
            try (have hX := hv.n hk)
            try (have z_ := hv.cellS hk; obtain ⟨s_0, s_f⟩ := z_)
            try (have z_ := hv.cellX (hd.get 13 (by kernel_rfl)) hk; obtain ⟨x_0, x_1, x_2, x_3, x_4, x_f⟩ := z_)
            clear hv
            go_simp
            (first
              | (exact ⟨⟨Hv.out.q, Hv.out.lt, Hv.out.i, Hv.out.n, Hv.out.x⟩, rfl⟩)
              | (exact ⟨Hv.out.alloc hk, rfl⟩)
              | (go_at_call 51; (with_reducible refine (sum_any e a0 S false _ t0 s0 p0 q0 s_0 s_f).mono ?_); rintro e' w' ⟨rfl, rfl⟩; exact ⟨rfl, Hv.out.call hk⟩)
              | (exact ⟨Hv.out.store (hd.get 13 (by kernel_rfl)) hk, rfl⟩))
          refine hK _ ?_
          clear hK K)
       | (with_reducible apply Sf.of
          · (intro s wv hk hv; exact ⟨hv.q, hv.lt, hv.i, hv.n, hv.x⟩)
          refine hK _ ?_
          clear hK K))
  refine nil_fam ?_
  clear bku
  intro wq hq7
  have hq : Q5 w A B R S X #[.int .i64 f, .int .i64 kn, .int .u32 a0, .int .u32 a1, .int .u32 a2, .int .u32 a3, .int .i64 un, .int .u32 l0, .int .u32 l1, .int .u32 l2] #[.int .u32 e, .int .i64 f, .int .u32 m0, .int .u32 m1, .int .u32 m2] #[.int .u32 0, .int .i64 0, .int .u32 0, .int .u32 0, .int .u32 0] #[.bool (bigN e a0)] #[.int .u32 (sumN e a0), .int .i64 (kn + un), .int .u32 0, .int .u32 0, .int .u32 0] 26 49 49 72 49 wq := ⟨hq7.q, hq7.x rfl, hq7.lt⟩
  clear hq7
  obtain ⟨a_0, a_1, a_2, a_3, a_4, a_5, a_6, a_7, a_8, a_9, a_f⟩ := hq.q.q.a.ten
  obtain ⟨b_0, b_1, b_2, b_3, b_4, b_f⟩ := hq.q.q.b.atTm
  obtain ⟨r_0, r_1, r_2, r_3, r_4, r_f⟩ := hq.q.q.r.atTm
  obtain ⟨x_0, x_1, x_2, x_3, x_4, x_f⟩ := hq.x.atTm
  have s_0 := hq.q.x.cell 0 _ rfl
  have s_f := hq.q.x.free
  go_wp2
  go_loopw [43] (fun i wr => ∃ (j : Nat) (oo : Bool) (x0 x1 x2 : Int), j ≤ kn ∧ i = .int .i64 j ∧ Q5 w A B R S X #[.int .i64 f, .int .i64 kn, .int .u32 a0, .int .u32 a1, .int .u32 a2, .int .u32 a3, .int .i64 un, .int .u32 l0, .int .u32 l1, .int .u32 l2] #[.int .u32 e, .int .i64 f, .int .u32 m0, .int .u32 m1, .int .u32 m2] #[.int .u32 0, .int .i64 0, .int .u32 0, .int .u32 0, .int .u32 0] #[.bool oo] #[.int .u32 (sumN e a0), .int .i64 (kn + un), .int .u32 x0, .int .u32 x1, .int .u32 x2] 26 49 49 72 49 wr ∧ Hid ((bigN e a0 || (([bigN m0 a1, bigN m1 a2, bigN m2 a3]).take (j)).any id) = oo) ∧ Hid (oo = false → (∀ t : Nat, t ≤ 2 → (⟨0, 0, x0, x1, x2⟩ : Tm).L t = if t < j then (⟨e, f, m0, m1, m2⟩ : Tm).L t + (⟨f, kn, a0, a1, a2, a3, un, l0, l1, l2⟩ : Pa).A (t + 1) else 0))) (fun i _ => kn - (intOf i).toNat)
  case atStart => exact ⟨0, _, 0, 0, 0, by omega, rfl, hq, Lib.hid (by simp), Lib.hid (fun _ => L3mk _ (by simp) (by simp) (by simp))⟩
  case round =>
    clear a_0 a_1 a_2 a_3 a_4 a_5 a_6 a_7 a_8 a_9 a_f b_0 b_1 b_2 b_3 b_4 b_f r_0 r_1 r_2 r_3 r_4 r_f x_0 x_1 x_2 x_3 x_4 x_f s_0 s_f hq
    obtain ⟨j, oo, x0, x1, x2, hj, rfl, hq, hov, hx⟩ := hrel
    by_cases hlt : j < kn
    · have hj3 : j = 0 ∨ j = 1 ∨ j = 2 := by omega
      rcases hj3 with rfl | rfl | rfl
      · have hov' : Hid ((bigN e a0 || (([bigN m0 a1, bigN m1 a2, bigN m2 a3]).take (0 + 1)).any id) = (oo || bigN m0 a1)) := Lib.hid (by have := hov.out; simp at this ⊢; simp [← this, Bool.or_assoc])
        have hx' : Hid ((oo || bigN m0 a1) = false → (∀ t : Nat, t ≤ 2 → (⟨0, 0, sumN m0 a1, x1, x2⟩ : Tm).L t = if t < 0 + 1 then (⟨e, f, m0, m1, m2⟩ : Tm).L t + (⟨f, kn, a0, a1, a2, a3, un, l0, l1, l2⟩ : Pa).A (t + 1) else 0)) := Lib.hid (fun ho => by
          obtain ⟨o1, o2⟩ := Bool.or_eq_false_iff.1 ho
          rw [sumN_ok o2]
          obtain ⟨e0, e1, e2⟩ := L3 _ (hx.out o1)
          refine L3mk _ ?_ ?_ ?_ <;> simp [Tm.L, Pa.A] at e0 e1 e2 ⊢ <;> assumption)
        clear hx hov
        obtain ⟨a_0, a_1, a_2, a_3, a_4, a_5, a_6, a_7, a_8, a_9, a_f⟩ := hq.q.q.a.ten
        obtain ⟨b_0, b_1, b_2, b_3, b_4, b_f⟩ := hq.q.q.b.atTm
        obtain ⟨r_0, r_1, r_2, r_3, r_4, r_f⟩ := hq.q.q.r.atTm
        obtain ⟨x_0, x_1, x_2, x_3, x_4, x_f⟩ := hq.x.atTm
        have s_0 := hq.q.x.cell 0 _ rfl
        have s_f := hq.q.x.free
        have hC : ∀ s : Nat → Bool, s 11 = false → s 14 = false → CL 11 14 w A B R S X #[.int .i64 f, .int .i64 kn, .int .u32 a0, .int .u32 a1, .int .u32 a2, .int .u32 a3, .int .i64 un, .int .u32 l0, .int .u32 l1, .int .u32 l2] #[.int .u32 e, .int .i64 f, .int .u32 m0, .int .u32 m1, .int .u32 m2] #[.int .u32 0, .int .i64 0, .int .u32 0, .int .u32 0, .int .u32 0] 26 49 49 49 oo (oo || bigN m0 a1) #[.int .u32 (sumN e a0), .int .i64 (kn + un), .int .u32 x0, .int .u32 x1, .int .u32 x2] #[.int .u32 (sumN e a0), .int .i64 (kn + un), .int .u32 (sumN m0 a1), .int .u32 x1, .int .u32 x2] s wr.drew := fun s h1 h2 => CL.start hq.drew h1 h2
        go_upto_region 11 with (fail)
        clear a_0 a_1 a_2 a_3 a_4 a_5 a_6 a_7 a_8 a_9 a_f b_0 b_1 b_2 b_3 b_4 b_f r_0 r_1 r_2 r_3 r_4 r_f x_0 x_1 x_2 x_3 x_4 x_f s_0 s_f hq
        refine region_fam (CL 11 14 w A B R S X #[.int .i64 f, .int .i64 kn, .int .u32 a0, .int .u32 a1, .int .u32 a2, .int .u32 a3, .int .i64 un, .int .u32 l0, .int .u32 l1, .int .u32 l2] #[.int .u32 e, .int .i64 f, .int .u32 m0, .int .u32 m1, .int .u32 m2] #[.int .u32 0, .int .i64 0, .int .u32 0, .int .u32 0, .int .u32 0] 26 49 49 49 oo (oo || bigN m0 a1) #[.int .u32 (sumN e a0), .int .i64 (kn + un), .int .u32 x0, .int .u32 x1, .int .u32 x2] #[.int .u32 (sumN e a0), .int .i64 (kn + un), .int .u32 (sumN m0 a1), .int .u32 x1, .int .u32 x2]) (by kernel_rfl) (by kernel_rfl) (hC _ rfl rfl) ?_
        clear hC
        have wj : IntKind.i64.wrap 1 = 1 := by decide
        repeat
          (refine step_fam (fun K hK => ?_)
           go_simp
           first
             | (with_reducible apply Hf.of
                · intro s wv hk hd hv
                  have Hv := Lib.hid hv
                  obtain ⟨a_0, a_1, a_2, a_3, a_4, a_5, a_6, a_7, a_8, a_9, a_f⟩ := hv.q.q.q.a.ten
                  obtain ⟨b_0, b_1, b_2, b_3, b_4, b_f⟩ := hv.q.q.q.b.atTm
                  try (have z_ := hv.cellS hk; obtain ⟨s_0, s_f⟩ := z_)
                  try (have z_ := (hv.rowX hk).atTm; obtain ⟨x_0, x_1, x_2, x_3, x_4, x_f⟩ := z_)
                  clear hv
                  go_simp
                  (first
                    | (exact ⟨Hv.out.pure (by decide) (by decide), rfl⟩)
                    | (go_at_call 51; (with_reducible refine (sum_any m0 a1 S oo _ t1 s1 p1 q1 s_0 s_f).mono ?_); rintro e' w' ⟨rfl, rfl⟩; exact ⟨rfl, Hv.out.call (by decide)⟩)
                    | (exact ⟨Hv.out.store hk (by decide) 2 _ rfl, rfl⟩))
                refine hK _ ?_
                clear hK K)
             | (with_reducible apply Sf.of
                · (intro s wv hk hv; exact hv.pure (by decide) (by decide))
                refine hK _ ?_
                clear hK K))
        refine nil_fam ?_
        clear wj
        intro wq hq11
        have hq := hq11.done
        clear hq11
        obtain ⟨a_0, a_1, a_2, a_3, a_4, a_5, a_6, a_7, a_8, a_9, a_f⟩ := hq.q.q.a.ten
        obtain ⟨b_0, b_1, b_2, b_3, b_4, b_f⟩ := hq.q.q.b.atTm
        obtain ⟨r_0, r_1, r_2, r_3, r_4, r_f⟩ := hq.q.q.r.atTm
        obtain ⟨x_0, x_1, x_2, x_3, x_4, x_f⟩ := hq.x.atTm
        have s_0 := hq.q.x.cell 0 _ rfl
        have s_f := hq.q.x.free
        go_wp2
        go_roundw
        case rel => exact ⟨0 + 1, _, sumN m0 a1, x1, x2, by omega, by go_num, hq, hov', hx'⟩
        case measure => simp [intOf]; omega
      · have hov' : Hid ((bigN e a0 || (([bigN m0 a1, bigN m1 a2, bigN m2 a3]).take (1 + 1)).any id) = (oo || bigN m1 a2)) := Lib.hid (by have := hov.out; simp at this ⊢; simp [← this, Bool.or_assoc])
        have hx' : Hid ((oo || bigN m1 a2) = false → (∀ t : Nat, t ≤ 2 → (⟨0, 0, x0, sumN m1 a2, x2⟩ : Tm).L t = if t < 1 + 1 then (⟨e, f, m0, m1, m2⟩ : Tm).L t + (⟨f, kn, a0, a1, a2, a3, un, l0, l1, l2⟩ : Pa).A (t + 1) else 0)) := Lib.hid (fun ho => by
          obtain ⟨o1, o2⟩ := Bool.or_eq_false_iff.1 ho
          rw [sumN_ok o2]
          obtain ⟨e0, e1, e2⟩ := L3 _ (hx.out o1)
          refine L3mk _ ?_ ?_ ?_ <;> simp [Tm.L, Pa.A] at e0 e1 e2 ⊢ <;> assumption)
        clear hx hov
        obtain ⟨a_0, a_1, a_2, a_3, a_4, a_5, a_6, a_7, a_8, a_9, a_f⟩ := hq.q.q.a.ten
        obtain ⟨b_0, b_1, b_2, b_3, b_4, b_f⟩ := hq.q.q.b.atTm
        obtain ⟨r_0, r_1, r_2, r_3, r_4, r_f⟩ := hq.q.q.r.atTm
        obtain ⟨x_0, x_1, x_2, x_3, x_4, x_f⟩ := hq.x.atTm
        have s_0 := hq.q.x.cell 0 _ rfl
        have s_f := hq.q.x.free
        have hC : ∀ s : Nat → Bool, s 11 = false → s 14 = false → CL 11 14 w A B R S X #[.int .i64 f, .int .i64 kn, .int .u32 a0, .int .u32 a1, .int .u32 a2, .int .u32 a3, .int .i64 un, .int .u32 l0, .int .u32 l1, .int .u32 l2] #[.int .u32 e, .int .i64 f, .int .u32 m0, .int .u32 m1, .int .u32 m2] #[.int .u32 0, .int .i64 0, .int .u32 0, .int .u32 0, .int .u32 0] 26 49 49 49 oo (oo || bigN m1 a2) #[.int .u32 (sumN e a0), .int .i64 (kn + un), .int .u32 x0, .int .u32 x1, .int .u32 x2] #[.int .u32 (sumN e a0), .int .i64 (kn + un), .int .u32 x0, .int .u32 (sumN m1 a2), .int .u32 x2] s wr.drew := fun s h1 h2 => CL.start hq.drew h1 h2
        go_upto_region 11 with (fail)
        clear a_0 a_1 a_2 a_3 a_4 a_5 a_6 a_7 a_8 a_9 a_f b_0 b_1 b_2 b_3 b_4 b_f r_0 r_1 r_2 r_3 r_4 r_f x_0 x_1 x_2 x_3 x_4 x_f s_0 s_f hq
        refine region_fam (CL 11 14 w A B R S X #[.int .i64 f, .int .i64 kn, .int .u32 a0, .int .u32 a1, .int .u32 a2, .int .u32 a3, .int .i64 un, .int .u32 l0, .int .u32 l1, .int .u32 l2] #[.int .u32 e, .int .i64 f, .int .u32 m0, .int .u32 m1, .int .u32 m2] #[.int .u32 0, .int .i64 0, .int .u32 0, .int .u32 0, .int .u32 0] 26 49 49 49 oo (oo || bigN m1 a2) #[.int .u32 (sumN e a0), .int .i64 (kn + un), .int .u32 x0, .int .u32 x1, .int .u32 x2] #[.int .u32 (sumN e a0), .int .i64 (kn + un), .int .u32 x0, .int .u32 (sumN m1 a2), .int .u32 x2]) (by kernel_rfl) (by kernel_rfl) (hC _ rfl rfl) ?_
        clear hC
        have wj : IntKind.i64.wrap 2 = 2 := by decide
        repeat
          (refine step_fam (fun K hK => ?_)
           go_simp
           first
             | (with_reducible apply Hf.of
                · intro s wv hk hd hv
                  have Hv := Lib.hid hv
                  obtain ⟨a_0, a_1, a_2, a_3, a_4, a_5, a_6, a_7, a_8, a_9, a_f⟩ := hv.q.q.q.a.ten
                  obtain ⟨b_0, b_1, b_2, b_3, b_4, b_f⟩ := hv.q.q.q.b.atTm
                  try (have z_ := hv.cellS hk; obtain ⟨s_0, s_f⟩ := z_)
                  try (have z_ := (hv.rowX hk).atTm; obtain ⟨x_0, x_1, x_2, x_3, x_4, x_f⟩ := z_)
                  clear hv
                  go_simp
                  (first
                    | (exact ⟨Hv.out.pure (by decide) (by decide), rfl⟩)
                    | (go_at_call 51; (with_reducible refine (sum_any m1 a2 S oo _ t2 s2 p2 q2 s_0 s_f).mono ?_); rintro e' w' ⟨rfl, rfl⟩; exact ⟨rfl, Hv.out.call (by decide)⟩)
                    | (exact ⟨Hv.out.store hk (by decide) 3 _ rfl, rfl⟩))
                refine hK _ ?_
                clear hK K)
             | (with_reducible apply Sf.of
                · (intro s wv hk hv; exact hv.pure (by decide) (by decide))
                refine hK _ ?_
                clear hK K))
        refine nil_fam ?_
        clear wj
        intro wq hq11
        have hq := hq11.done
        clear hq11
        obtain ⟨a_0, a_1, a_2, a_3, a_4, a_5, a_6, a_7, a_8, a_9, a_f⟩ := hq.q.q.a.ten
        obtain ⟨b_0, b_1, b_2, b_3, b_4, b_f⟩ := hq.q.q.b.atTm
        obtain ⟨r_0, r_1, r_2, r_3, r_4, r_f⟩ := hq.q.q.r.atTm
        obtain ⟨x_0, x_1, x_2, x_3, x_4, x_f⟩ := hq.x.atTm
        have s_0 := hq.q.x.cell 0 _ rfl
        have s_f := hq.q.x.free
        go_wp2
        go_roundw
        case rel => exact ⟨1 + 1, _, x0, sumN m1 a2, x2, by omega, by go_num, hq, hov', hx'⟩
        case measure => simp [intOf]; omega
      · have hov' : Hid ((bigN e a0 || (([bigN m0 a1, bigN m1 a2, bigN m2 a3]).take (2 + 1)).any id) = (oo || bigN m2 a3)) := Lib.hid (by have := hov.out; simp at this ⊢; simp [← this, Bool.or_assoc])
        have hx' : Hid ((oo || bigN m2 a3) = false → (∀ t : Nat, t ≤ 2 → (⟨0, 0, x0, x1, sumN m2 a3⟩ : Tm).L t = if t < 2 + 1 then (⟨e, f, m0, m1, m2⟩ : Tm).L t + (⟨f, kn, a0, a1, a2, a3, un, l0, l1, l2⟩ : Pa).A (t + 1) else 0)) := Lib.hid (fun ho => by
          obtain ⟨o1, o2⟩ := Bool.or_eq_false_iff.1 ho
          rw [sumN_ok o2]
          obtain ⟨e0, e1, e2⟩ := L3 _ (hx.out o1)
          refine L3mk _ ?_ ?_ ?_ <;> simp [Tm.L, Pa.A] at e0 e1 e2 ⊢ <;> assumption)
        clear hx hov
        obtain ⟨a_0, a_1, a_2, a_3, a_4, a_5, a_6, a_7, a_8, a_9, a_f⟩ := hq.q.q.a.ten
        obtain ⟨b_0, b_1, b_2, b_3, b_4, b_f⟩ := hq.q.q.b.atTm
        obtain ⟨r_0, r_1, r_2, r_3, r_4, r_f⟩ := hq.q.q.r.atTm
        obtain ⟨x_0, x_1, x_2, x_3, x_4, x_f⟩ := hq.x.atTm
        have s_0 := hq.q.x.cell 0 _ rfl
        have s_f := hq.q.x.free
        have hC : ∀ s : Nat → Bool, s 11 = false → s 14 = false → CL 11 14 w A B R S X #[.int .i64 f, .int .i64 kn, .int .u32 a0, .int .u32 a1, .int .u32 a2, .int .u32 a3, .int .i64 un, .int .u32 l0, .int .u32 l1, .int .u32 l2] #[.int .u32 e, .int .i64 f, .int .u32 m0, .int .u32 m1, .int .u32 m2] #[.int .u32 0, .int .i64 0, .int .u32 0, .int .u32 0, .int .u32 0] 26 49 49 49 oo (oo || bigN m2 a3) #[.int .u32 (sumN e a0), .int .i64 (kn + un), .int .u32 x0, .int .u32 x1, .int .u32 x2] #[.int .u32 (sumN e a0), .int .i64 (kn + un), .int .u32 x0, .int .u32 x1, .int .u32 (sumN m2 a3)] s wr.drew := fun s h1 h2 => CL.start hq.drew h1 h2
        go_upto_region 11 with (fail)
        clear a_0 a_1 a_2 a_3 a_4 a_5 a_6 a_7 a_8 a_9 a_f b_0 b_1 b_2 b_3 b_4 b_f r_0 r_1 r_2 r_3 r_4 r_f x_0 x_1 x_2 x_3 x_4 x_f s_0 s_f hq
        refine region_fam (CL 11 14 w A B R S X #[.int .i64 f, .int .i64 kn, .int .u32 a0, .int .u32 a1, .int .u32 a2, .int .u32 a3, .int .i64 un, .int .u32 l0, .int .u32 l1, .int .u32 l2] #[.int .u32 e, .int .i64 f, .int .u32 m0, .int .u32 m1, .int .u32 m2] #[.int .u32 0, .int .i64 0, .int .u32 0, .int .u32 0, .int .u32 0] 26 49 49 49 oo (oo || bigN m2 a3) #[.int .u32 (sumN e a0), .int .i64 (kn + un), .int .u32 x0, .int .u32 x1, .int .u32 x2] #[.int .u32 (sumN e a0), .int .i64 (kn + un), .int .u32 x0, .int .u32 x1, .int .u32 (sumN m2 a3)]) (by kernel_rfl) (by kernel_rfl) (hC _ rfl rfl) ?_
        clear hC
        have wj : IntKind.i64.wrap 3 = 3 := by decide
        repeat
          (refine step_fam (fun K hK => ?_)
           go_simp
           first
             | (with_reducible apply Hf.of
                · intro s wv hk hd hv
                  have Hv := Lib.hid hv
                  obtain ⟨a_0, a_1, a_2, a_3, a_4, a_5, a_6, a_7, a_8, a_9, a_f⟩ := hv.q.q.q.a.ten
                  obtain ⟨b_0, b_1, b_2, b_3, b_4, b_f⟩ := hv.q.q.q.b.atTm
                  try (have z_ := hv.cellS hk; obtain ⟨s_0, s_f⟩ := z_)
                  try (have z_ := (hv.rowX hk).atTm; obtain ⟨x_0, x_1, x_2, x_3, x_4, x_f⟩ := z_)
                  clear hv
                  go_simp
                  (first
                    | (exact ⟨Hv.out.pure (by decide) (by decide), rfl⟩)
                    | (go_at_call 51; (with_reducible refine (sum_any m2 a3 S oo _ t3 s3 p3 q3 s_0 s_f).mono ?_); rintro e' w' ⟨rfl, rfl⟩; exact ⟨rfl, Hv.out.call (by decide)⟩)
                    | (exact ⟨Hv.out.store hk (by decide) 4 _ rfl, rfl⟩))
                refine hK _ ?_
                clear hK K)
             | (with_reducible apply Sf.of
                · (intro s wv hk hv; exact hv.pure (by decide) (by decide))
                refine hK _ ?_
                clear hK K))
        refine nil_fam ?_
        clear wj
        intro wq hq11
        have hq := hq11.done
        clear hq11
        obtain ⟨a_0, a_1, a_2, a_3, a_4, a_5, a_6, a_7, a_8, a_9, a_f⟩ := hq.q.q.a.ten
        obtain ⟨b_0, b_1, b_2, b_3, b_4, b_f⟩ := hq.q.q.b.atTm
        obtain ⟨r_0, r_1, r_2, r_3, r_4, r_f⟩ := hq.q.q.r.atTm
        obtain ⟨x_0, x_1, x_2, x_3, x_4, x_f⟩ := hq.x.atTm
        have s_0 := hq.q.x.cell 0 _ rfl
        have s_f := hq.q.x.free
        go_wp2
        go_roundw
        case rel => exact ⟨2 + 1, _, x0, x1, sumN m2 a3, by omega, by go_num, hq, hov', hx'⟩
        case measure => simp [intOf]; omega
    · obtain rfl : kn = j := by omega
      clear hlt hj
      obtain ⟨a_0, a_1, a_2, a_3, a_4, a_5, a_6, a_7, a_8, a_9, a_f⟩ := hq.q.q.a.ten
      obtain ⟨b_0, b_1, b_2, b_3, b_4, b_f⟩ := hq.q.q.b.atTm
      obtain ⟨r_0, r_1, r_2, r_3, r_4, r_f⟩ := hq.q.q.r.atTm
      obtain ⟨x_0, x_1, x_2, x_3, x_4, x_f⟩ := hq.x.atTm
      have s_0 := hq.q.x.cell 0 _ rfl
      have s_f := hq.q.x.free
      have hov' := hov.out
      rw [← over_eq f kn a0 a1 a2 a3 un l0 l1 l2 e m0 m1 m2 HG.out] at hov'
      have HO := Lib.hid hov'
      clear hov hov'
      have hR := HX.out
      unfold applyR at hR
      rw [if_neg (fun h => h HCP.out), if_neg (fun h => h HCT.out), if_neg (fun h => h rfl), HO.out] at hR
      go_upto_region 13 with (fail)
      have h10 : (kn = 0 ∧ un = 0) ∨ (kn = 0 ∧ un = 1) ∨ (kn = 0 ∧ un = 2) ∨ (kn = 0 ∧ un = 3) ∨ (kn = 1 ∧ un = 0) ∨ (kn = 1 ∧ un = 1) ∨ (kn = 1 ∧ un = 2) ∨ (kn = 2 ∧ un = 0) ∨ (kn = 2 ∧ un = 1) ∨ (kn = 3 ∧ un = 0) := by omega
      rcases h10 with ⟨rfl, rfl⟩ | ⟨rfl, rfl⟩ | ⟨rfl, rfl⟩ | ⟨rfl, rfl⟩ | ⟨rfl, rfl⟩ | ⟨rfl, rfl⟩ | ⟨rfl, rfl⟩ | ⟨rfl, rfl⟩ | ⟨rfl, rfl⟩ | ⟨rfl, rfl⟩
      · have h1 : ∀ v ∈ ([] : List Value), v.oneCell' = true := by
          intro v hv
          simp at hv
          
        have H1 := Lib.hid h1
        have hC : ∀ s : Nat → Bool, s 8 = false → CL 99 8 w A B R S X #[.int .i64 f, .int .i64 0, .int .u32 a0, .int .u32 a1, .int .u32 a2, .int .u32 a3, .int .i64 0, .int .u32 l0, .int .u32 l1, .int .u32 l2] #[.int .u32 e, .int .i64 f, .int .u32 m0, .int .u32 m1, .int .u32 m2] #[.int .u32 0, .int .i64 0, .int .u32 0, .int .u32 0, .int .u32 0] 26 49 49 49 oo oo #[.int .u32 (sumN e a0), .int .i64 0, .int .u32 x0, .int .u32 x1, .int .u32 x2] #[.int .u32 (sumN e a0), .int .i64 0, .int .u32 x0, .int .u32 x1, .int .u32 x2] s wr.drew := fun s h2 => CL.start0 hq.drew h2
        clear h1
        clear a_0 a_1 a_2 a_3 a_4 a_5 a_6 a_7 a_8 a_9 a_f b_0 b_1 b_2 b_3 b_4 b_f r_0 r_1 r_2 r_3 r_4 r_f x_0 x_1 x_2 x_3 x_4 x_f s_0 s_f hq
        refine region_fam (CL 99 8 w A B R S X #[.int .i64 f, .int .i64 0, .int .u32 a0, .int .u32 a1, .int .u32 a2, .int .u32 a3, .int .i64 0, .int .u32 l0, .int .u32 l1, .int .u32 l2] #[.int .u32 e, .int .i64 f, .int .u32 m0, .int .u32 m1, .int .u32 m2] #[.int .u32 0, .int .i64 0, .int .u32 0, .int .u32 0, .int .u32 0] 26 49 49 49 oo oo #[.int .u32 (sumN e a0), .int .i64 0, .int .u32 x0, .int .u32 x1, .int .u32 x2] #[.int .u32 (sumN e a0), .int .i64 0, .int .u32 x0, .int .u32 x1, .int .u32 x2]) (by kernel_rfl) (by kernel_rfl) (hC _ rfl) ?_
        clear hC
        repeat
          (refine step_fam (fun K hK => ?_)
           go_simp
           first
             | (with_reducible apply Hf.of
                · intro s wv hk hd hv
                  have Hv := Lib.hid hv
                  obtain ⟨a_0, a_1, a_2, a_3, a_4, a_5, a_6, a_7, a_8, a_9, a_f⟩ := hv.q.q.q.a.ten
                  clear hv
                  go_simp
                  (first
                    | (exact ⟨Hv.out.pure (by decide) (by decide), rfl⟩)
                    | (have hx := Hv.out.rowX hk; have ha := Hv.out.q.q.q.a; obtain ⟨w', hrun, hr', hb'⟩ := run_copy_splice (P := Try.prog) wv 64 64 3 22 Try.underlying64 (by kernel_rfl) (some ⟨X, 2, none⟩) (some ⟨A, 7, none⟩) 3 3 0 3 X 2 [.int .u32 (sumN e a0), .int .i64 0, .int .u32 x0, .int .u32 x1, .int .u32 x2] 49 hx [] rfl (fun h => absurd h (by decide)) (by simp) H1.out; rw [hrun]; exact ⟨Hv.out.fill (by decide) hb' hr', rfl⟩))
                refine hK _ ?_
                clear hK K)
             | (with_reducible apply Sf.of
                · (intro s wv hk hv; exact hv.pure (by decide) (by decide))
                refine hK _ ?_
                clear hK K))
        refine nil_fam ?_
        intro w4 hq13
        have hq := hq13.done
        clear H1 hq13
        obtain ⟨a_0, a_1, a_2, a_3, a_4, a_5, a_6, a_7, a_8, a_9, a_f⟩ := hq.q.q.a.ten
        obtain ⟨b_0, b_1, b_2, b_3, b_4, b_f⟩ := hq.q.q.b.atTm
        obtain ⟨r_0, r_1, r_2, r_3, r_4, r_f⟩ := hq.q.q.r.atTm
        obtain ⟨x_0, x_1, x_2, x_3, x_4, x_f⟩ := hq.x.atTm
        have s_0 := hq.q.x.cell 0 _ rfl
        have s_f := hq.q.x.free
        rcases oo with _ | _
        · rw [if_neg (by decide)] at hR
          injection hR with h1 h2
          subst h2
          obtain ⟨e0, e1, e2⟩ := L3 _ (hx.out rfl)
          have hs0 : bigN e a0 = false := by
            have := HO.out
            rw [over_eq f 0 a0 a1 a2 a3 0 l0 l1 l2 e m0 m1 m2 HG.out] at this
            exact (Bool.or_eq_false_iff.1 this).1
          have hxx : x = ⟨sumN e a0, 0, x0, x1, x2⟩ := by
            rw [← h1, sumN_ok hs0]
            simp [Tm.L, Pa.A, Pa.L] at e0 e1 e2
            simp [apT, apL, Tm.L, Pa.A, Pa.L, *]
          subst hxx
          clear hx HO h1 e0 e1 e2 hs0
          go_wp2
          refine bodyPost_ret (v := .tuple #[.agg #[.int .u32 (sumN e a0), .int .i64 0, .int .u32 x0, .int .u32 x1, .int .u32 x2], .int .i64 0]) (by simp [results, Try.results33, go_sem, *]) rfl ⟨rfl, ?_⟩
          exact (((((hq.q.q.setR 0 _).setR 1 _).setR 2 _).setR 3 _).setR 4 _).z
        · rw [if_pos rfl] at hR
          injection hR with h1 h2
          subst h1
          subst h2
          clear hx HO
          go_wp2
          refine bodyPost_ret (v := .tuple #[.agg #[.int .u32 0, .int .i64 0, .int .u32 0, .int .u32 0, .int .u32 0], .int .i64 9]) (by simp [results, Try.results33, go_sem, *]) rfl ⟨rfl, ?_⟩
          exact (((((hq.q.q.setR 0 _).setR 1 _).setR 2 _).setR 3 _).setR 4 _).z
      · have h1 : ∀ v ∈ ([.int .u32 l0] : List Value), v.oneCell' = true := by
          intro v hv
          simp at hv
          rcases hv with rfl <;> rfl
        have H1 := Lib.hid h1
        have hC : ∀ s : Nat → Bool, s 8 = false → CL 99 8 w A B R S X #[.int .i64 f, .int .i64 0, .int .u32 a0, .int .u32 a1, .int .u32 a2, .int .u32 a3, .int .i64 1, .int .u32 l0, .int .u32 l1, .int .u32 l2] #[.int .u32 e, .int .i64 f, .int .u32 m0, .int .u32 m1, .int .u32 m2] #[.int .u32 0, .int .i64 0, .int .u32 0, .int .u32 0, .int .u32 0] 26 49 49 49 oo oo #[.int .u32 (sumN e a0), .int .i64 1, .int .u32 x0, .int .u32 x1, .int .u32 x2] #[.int .u32 (sumN e a0), .int .i64 1, .int .u32 l0, .int .u32 x1, .int .u32 x2] s wr.drew := fun s h2 => CL.start0 hq.drew h2
        clear h1
        clear a_0 a_1 a_2 a_3 a_4 a_5 a_6 a_7 a_8 a_9 a_f b_0 b_1 b_2 b_3 b_4 b_f r_0 r_1 r_2 r_3 r_4 r_f x_0 x_1 x_2 x_3 x_4 x_f s_0 s_f hq
        refine region_fam (CL 99 8 w A B R S X #[.int .i64 f, .int .i64 0, .int .u32 a0, .int .u32 a1, .int .u32 a2, .int .u32 a3, .int .i64 1, .int .u32 l0, .int .u32 l1, .int .u32 l2] #[.int .u32 e, .int .i64 f, .int .u32 m0, .int .u32 m1, .int .u32 m2] #[.int .u32 0, .int .i64 0, .int .u32 0, .int .u32 0, .int .u32 0] 26 49 49 49 oo oo #[.int .u32 (sumN e a0), .int .i64 1, .int .u32 x0, .int .u32 x1, .int .u32 x2] #[.int .u32 (sumN e a0), .int .i64 1, .int .u32 l0, .int .u32 x1, .int .u32 x2]) (by kernel_rfl) (by kernel_rfl) (hC _ rfl) ?_
        clear hC
        repeat
          (refine step_fam (fun K hK => ?_)
           go_simp
           first
             | (with_reducible apply Hf.of
                · intro s wv hk hd hv
                  have Hv := Lib.hid hv
                  obtain ⟨a_0, a_1, a_2, a_3, a_4, a_5, a_6, a_7, a_8, a_9, a_f⟩ := hv.q.q.q.a.ten
                  clear hv
                  go_simp
                  (first
                    | (exact ⟨Hv.out.pure (by decide) (by decide), rfl⟩)
                    | (have hx := Hv.out.rowX hk; have ha := Hv.out.q.q.q.a; obtain ⟨w', hrun, hr', hb'⟩ := run_copy_splice (P := Try.prog) wv 64 64 3 22 Try.underlying64 (by kernel_rfl) (some ⟨X, 2, none⟩) (some ⟨A, 7, none⟩) 3 3 1 3 X 2 [.int .u32 (sumN e a0), .int .i64 1, .int .u32 x0, .int .u32 x1, .int .u32 x2] 49 hx [.int .u32 l0] rfl (fun _ => ⟨rfl, _, rfl, src_l ha 1 (by omega)⟩) (by simp) H1.out; rw [hrun]; exact ⟨Hv.out.fill (by decide) hb' hr', rfl⟩))
                refine hK _ ?_
                clear hK K)
             | (with_reducible apply Sf.of
                · (intro s wv hk hv; exact hv.pure (by decide) (by decide))
                refine hK _ ?_
                clear hK K))
        refine nil_fam ?_
        intro w4 hq13
        have hq := hq13.done
        clear H1 hq13
        obtain ⟨a_0, a_1, a_2, a_3, a_4, a_5, a_6, a_7, a_8, a_9, a_f⟩ := hq.q.q.a.ten
        obtain ⟨b_0, b_1, b_2, b_3, b_4, b_f⟩ := hq.q.q.b.atTm
        obtain ⟨r_0, r_1, r_2, r_3, r_4, r_f⟩ := hq.q.q.r.atTm
        obtain ⟨x_0, x_1, x_2, x_3, x_4, x_f⟩ := hq.x.atTm
        have s_0 := hq.q.x.cell 0 _ rfl
        have s_f := hq.q.x.free
        rcases oo with _ | _
        · rw [if_neg (by decide)] at hR
          injection hR with h1 h2
          subst h2
          obtain ⟨e0, e1, e2⟩ := L3 _ (hx.out rfl)
          have hs0 : bigN e a0 = false := by
            have := HO.out
            rw [over_eq f 0 a0 a1 a2 a3 1 l0 l1 l2 e m0 m1 m2 HG.out] at this
            exact (Bool.or_eq_false_iff.1 this).1
          have hxx : x = ⟨sumN e a0, 1, l0, x1, x2⟩ := by
            rw [← h1, sumN_ok hs0]
            simp [Tm.L, Pa.A, Pa.L] at e0 e1 e2
            simp [apT, apL, Tm.L, Pa.A, Pa.L, *]
          subst hxx
          clear hx HO h1 e0 e1 e2 hs0
          go_wp2
          refine bodyPost_ret (v := .tuple #[.agg #[.int .u32 (sumN e a0), .int .i64 1, .int .u32 l0, .int .u32 x1, .int .u32 x2], .int .i64 0]) (by simp [results, Try.results33, go_sem, *]) rfl ⟨rfl, ?_⟩
          exact (((((hq.q.q.setR 0 _).setR 1 _).setR 2 _).setR 3 _).setR 4 _).z
        · rw [if_pos rfl] at hR
          injection hR with h1 h2
          subst h1
          subst h2
          clear hx HO
          go_wp2
          refine bodyPost_ret (v := .tuple #[.agg #[.int .u32 0, .int .i64 0, .int .u32 0, .int .u32 0, .int .u32 0], .int .i64 9]) (by simp [results, Try.results33, go_sem, *]) rfl ⟨rfl, ?_⟩
          exact (((((hq.q.q.setR 0 _).setR 1 _).setR 2 _).setR 3 _).setR 4 _).z
      · have h1 : ∀ v ∈ ([.int .u32 l0, .int .u32 l1] : List Value), v.oneCell' = true := by
          intro v hv
          simp at hv
          rcases hv with rfl | rfl <;> rfl
        have H1 := Lib.hid h1
        have hC : ∀ s : Nat → Bool, s 8 = false → CL 99 8 w A B R S X #[.int .i64 f, .int .i64 0, .int .u32 a0, .int .u32 a1, .int .u32 a2, .int .u32 a3, .int .i64 2, .int .u32 l0, .int .u32 l1, .int .u32 l2] #[.int .u32 e, .int .i64 f, .int .u32 m0, .int .u32 m1, .int .u32 m2] #[.int .u32 0, .int .i64 0, .int .u32 0, .int .u32 0, .int .u32 0] 26 49 49 49 oo oo #[.int .u32 (sumN e a0), .int .i64 2, .int .u32 x0, .int .u32 x1, .int .u32 x2] #[.int .u32 (sumN e a0), .int .i64 2, .int .u32 l0, .int .u32 l1, .int .u32 x2] s wr.drew := fun s h2 => CL.start0 hq.drew h2
        clear h1
        clear a_0 a_1 a_2 a_3 a_4 a_5 a_6 a_7 a_8 a_9 a_f b_0 b_1 b_2 b_3 b_4 b_f r_0 r_1 r_2 r_3 r_4 r_f x_0 x_1 x_2 x_3 x_4 x_f s_0 s_f hq
        refine region_fam (CL 99 8 w A B R S X #[.int .i64 f, .int .i64 0, .int .u32 a0, .int .u32 a1, .int .u32 a2, .int .u32 a3, .int .i64 2, .int .u32 l0, .int .u32 l1, .int .u32 l2] #[.int .u32 e, .int .i64 f, .int .u32 m0, .int .u32 m1, .int .u32 m2] #[.int .u32 0, .int .i64 0, .int .u32 0, .int .u32 0, .int .u32 0] 26 49 49 49 oo oo #[.int .u32 (sumN e a0), .int .i64 2, .int .u32 x0, .int .u32 x1, .int .u32 x2] #[.int .u32 (sumN e a0), .int .i64 2, .int .u32 l0, .int .u32 l1, .int .u32 x2]) (by kernel_rfl) (by kernel_rfl) (hC _ rfl) ?_
        clear hC
        repeat
          (refine step_fam (fun K hK => ?_)
           go_simp
           first
             | (with_reducible apply Hf.of
                · intro s wv hk hd hv
                  have Hv := Lib.hid hv
                  obtain ⟨a_0, a_1, a_2, a_3, a_4, a_5, a_6, a_7, a_8, a_9, a_f⟩ := hv.q.q.q.a.ten
                  clear hv
                  go_simp
                  (first
                    | (exact ⟨Hv.out.pure (by decide) (by decide), rfl⟩)
                    | (have hx := Hv.out.rowX hk; have ha := Hv.out.q.q.q.a; obtain ⟨w', hrun, hr', hb'⟩ := run_copy_splice (P := Try.prog) wv 64 64 3 22 Try.underlying64 (by kernel_rfl) (some ⟨X, 2, none⟩) (some ⟨A, 7, none⟩) 3 3 2 3 X 2 [.int .u32 (sumN e a0), .int .i64 2, .int .u32 x0, .int .u32 x1, .int .u32 x2] 49 hx [.int .u32 l0, .int .u32 l1] rfl (fun _ => ⟨rfl, _, rfl, src_l ha 2 (by omega)⟩) (by simp) H1.out; rw [hrun]; exact ⟨Hv.out.fill (by decide) hb' hr', rfl⟩))
                refine hK _ ?_
                clear hK K)
             | (with_reducible apply Sf.of
                · (intro s wv hk hv; exact hv.pure (by decide) (by decide))
                refine hK _ ?_
                clear hK K))
        refine nil_fam ?_
        intro w4 hq13
        have hq := hq13.done
        clear H1 hq13
        obtain ⟨a_0, a_1, a_2, a_3, a_4, a_5, a_6, a_7, a_8, a_9, a_f⟩ := hq.q.q.a.ten
        obtain ⟨b_0, b_1, b_2, b_3, b_4, b_f⟩ := hq.q.q.b.atTm
        obtain ⟨r_0, r_1, r_2, r_3, r_4, r_f⟩ := hq.q.q.r.atTm
        obtain ⟨x_0, x_1, x_2, x_3, x_4, x_f⟩ := hq.x.atTm
        have s_0 := hq.q.x.cell 0 _ rfl
        have s_f := hq.q.x.free
        rcases oo with _ | _
        · rw [if_neg (by decide)] at hR
          injection hR with h1 h2
          subst h2
          obtain ⟨e0, e1, e2⟩ := L3 _ (hx.out rfl)
          have hs0 : bigN e a0 = false := by
            have := HO.out
            rw [over_eq f 0 a0 a1 a2 a3 2 l0 l1 l2 e m0 m1 m2 HG.out] at this
            exact (Bool.or_eq_false_iff.1 this).1
          have hxx : x = ⟨sumN e a0, 2, l0, l1, x2⟩ := by
            rw [← h1, sumN_ok hs0]
            simp [Tm.L, Pa.A, Pa.L] at e0 e1 e2
            simp [apT, apL, Tm.L, Pa.A, Pa.L, *]
          subst hxx
          clear hx HO h1 e0 e1 e2 hs0
          go_wp2
          refine bodyPost_ret (v := .tuple #[.agg #[.int .u32 (sumN e a0), .int .i64 2, .int .u32 l0, .int .u32 l1, .int .u32 x2], .int .i64 0]) (by simp [results, Try.results33, go_sem, *]) rfl ⟨rfl, ?_⟩
          exact (((((hq.q.q.setR 0 _).setR 1 _).setR 2 _).setR 3 _).setR 4 _).z
        · rw [if_pos rfl] at hR
          injection hR with h1 h2
          subst h1
          subst h2
          clear hx HO
          go_wp2
          refine bodyPost_ret (v := .tuple #[.agg #[.int .u32 0, .int .i64 0, .int .u32 0, .int .u32 0, .int .u32 0], .int .i64 9]) (by simp [results, Try.results33, go_sem, *]) rfl ⟨rfl, ?_⟩
          exact (((((hq.q.q.setR 0 _).setR 1 _).setR 2 _).setR 3 _).setR 4 _).z
      · have h1 : ∀ v ∈ ([.int .u32 l0, .int .u32 l1, .int .u32 l2] : List Value), v.oneCell' = true := by
          intro v hv
          simp at hv
          rcases hv with rfl | rfl | rfl <;> rfl
        have H1 := Lib.hid h1
        have hC : ∀ s : Nat → Bool, s 8 = false → CL 99 8 w A B R S X #[.int .i64 f, .int .i64 0, .int .u32 a0, .int .u32 a1, .int .u32 a2, .int .u32 a3, .int .i64 3, .int .u32 l0, .int .u32 l1, .int .u32 l2] #[.int .u32 e, .int .i64 f, .int .u32 m0, .int .u32 m1, .int .u32 m2] #[.int .u32 0, .int .i64 0, .int .u32 0, .int .u32 0, .int .u32 0] 26 49 49 49 oo oo #[.int .u32 (sumN e a0), .int .i64 3, .int .u32 x0, .int .u32 x1, .int .u32 x2] #[.int .u32 (sumN e a0), .int .i64 3, .int .u32 l0, .int .u32 l1, .int .u32 l2] s wr.drew := fun s h2 => CL.start0 hq.drew h2
        clear h1
        clear a_0 a_1 a_2 a_3 a_4 a_5 a_6 a_7 a_8 a_9 a_f b_0 b_1 b_2 b_3 b_4 b_f r_0 r_1 r_2 r_3 r_4 r_f x_0 x_1 x_2 x_3 x_4 x_f s_0 s_f hq
        refine region_fam (CL 99 8 w A B R S X #[.int .i64 f, .int .i64 0, .int .u32 a0, .int .u32 a1, .int .u32 a2, .int .u32 a3, .int .i64 3, .int .u32 l0, .int .u32 l1, .int .u32 l2] #[.int .u32 e, .int .i64 f, .int .u32 m0, .int .u32 m1, .int .u32 m2] #[.int .u32 0, .int .i64 0, .int .u32 0, .int .u32 0, .int .u32 0] 26 49 49 49 oo oo #[.int .u32 (sumN e a0), .int .i64 3, .int .u32 x0, .int .u32 x1, .int .u32 x2] #[.int .u32 (sumN e a0), .int .i64 3, .int .u32 l0, .int .u32 l1, .int .u32 l2]) (by kernel_rfl) (by kernel_rfl) (hC _ rfl) ?_
        clear hC
        repeat
          (refine step_fam (fun K hK => ?_)
           go_simp
           first
             | (with_reducible apply Hf.of
                · intro s wv hk hd hv
                  have Hv := Lib.hid hv
                  obtain ⟨a_0, a_1, a_2, a_3, a_4, a_5, a_6, a_7, a_8, a_9, a_f⟩ := hv.q.q.q.a.ten
                  clear hv
                  go_simp
                  (first
                    | (exact ⟨Hv.out.pure (by decide) (by decide), rfl⟩)
                    | (have hx := Hv.out.rowX hk; have ha := Hv.out.q.q.q.a; obtain ⟨w', hrun, hr', hb'⟩ := run_copy_splice (P := Try.prog) wv 64 64 3 22 Try.underlying64 (by kernel_rfl) (some ⟨X, 2, none⟩) (some ⟨A, 7, none⟩) 3 3 3 3 X 2 [.int .u32 (sumN e a0), .int .i64 3, .int .u32 x0, .int .u32 x1, .int .u32 x2] 49 hx [.int .u32 l0, .int .u32 l1, .int .u32 l2] rfl (fun _ => ⟨rfl, _, rfl, src_l ha 3 (by omega)⟩) (by simp) H1.out; rw [hrun]; exact ⟨Hv.out.fill (by decide) hb' hr', rfl⟩))
                refine hK _ ?_
                clear hK K)
             | (with_reducible apply Sf.of
                · (intro s wv hk hv; exact hv.pure (by decide) (by decide))
                refine hK _ ?_
                clear hK K))
        refine nil_fam ?_
        intro w4 hq13
        have hq := hq13.done
        clear H1 hq13
        obtain ⟨a_0, a_1, a_2, a_3, a_4, a_5, a_6, a_7, a_8, a_9, a_f⟩ := hq.q.q.a.ten
        obtain ⟨b_0, b_1, b_2, b_3, b_4, b_f⟩ := hq.q.q.b.atTm
        obtain ⟨r_0, r_1, r_2, r_3, r_4, r_f⟩ := hq.q.q.r.atTm
        obtain ⟨x_0, x_1, x_2, x_3, x_4, x_f⟩ := hq.x.atTm
        have s_0 := hq.q.x.cell 0 _ rfl
        have s_f := hq.q.x.free
        rcases oo with _ | _
        · rw [if_neg (by decide)] at hR
          injection hR with h1 h2
          subst h2
          obtain ⟨e0, e1, e2⟩ := L3 _ (hx.out rfl)
          have hs0 : bigN e a0 = false := by
            have := HO.out
            rw [over_eq f 0 a0 a1 a2 a3 3 l0 l1 l2 e m0 m1 m2 HG.out] at this
            exact (Bool.or_eq_false_iff.1 this).1
          have hxx : x = ⟨sumN e a0, 3, l0, l1, l2⟩ := by
            rw [← h1, sumN_ok hs0]
            simp [Tm.L, Pa.A, Pa.L] at e0 e1 e2
            simp [apT, apL, Tm.L, Pa.A, Pa.L, *]
          subst hxx
          clear hx HO h1 e0 e1 e2 hs0
          go_wp2
          refine bodyPost_ret (v := .tuple #[.agg #[.int .u32 (sumN e a0), .int .i64 3, .int .u32 l0, .int .u32 l1, .int .u32 l2], .int .i64 0]) (by simp [results, Try.results33, go_sem, *]) rfl ⟨rfl, ?_⟩
          exact (((((hq.q.q.setR 0 _).setR 1 _).setR 2 _).setR 3 _).setR 4 _).z
        · rw [if_pos rfl] at hR
          injection hR with h1 h2
          subst h1
          subst h2
          clear hx HO
          go_wp2
          refine bodyPost_ret (v := .tuple #[.agg #[.int .u32 0, .int .i64 0, .int .u32 0, .int .u32 0, .int .u32 0], .int .i64 9]) (by simp [results, Try.results33, go_sem, *]) rfl ⟨rfl, ?_⟩
          exact (((((hq.q.q.setR 0 _).setR 1 _).setR 2 _).setR 3 _).setR 4 _).z
      · have h1 : ∀ v ∈ ([] : List Value), v.oneCell' = true := by
          intro v hv
          simp at hv
          
        have H1 := Lib.hid h1
        have hC : ∀ s : Nat → Bool, s 8 = false → CL 99 8 w A B R S X #[.int .i64 f, .int .i64 1, .int .u32 a0, .int .u32 a1, .int .u32 a2, .int .u32 a3, .int .i64 0, .int .u32 l0, .int .u32 l1, .int .u32 l2] #[.int .u32 e, .int .i64 f, .int .u32 m0, .int .u32 m1, .int .u32 m2] #[.int .u32 0, .int .i64 0, .int .u32 0, .int .u32 0, .int .u32 0] 26 49 49 49 oo oo #[.int .u32 (sumN e a0), .int .i64 1, .int .u32 x0, .int .u32 x1, .int .u32 x2] #[.int .u32 (sumN e a0), .int .i64 1, .int .u32 x0, .int .u32 x1, .int .u32 x2] s wr.drew := fun s h2 => CL.start0 hq.drew h2
        clear h1
        clear a_0 a_1 a_2 a_3 a_4 a_5 a_6 a_7 a_8 a_9 a_f b_0 b_1 b_2 b_3 b_4 b_f r_0 r_1 r_2 r_3 r_4 r_f x_0 x_1 x_2 x_3 x_4 x_f s_0 s_f hq
        refine region_fam (CL 99 8 w A B R S X #[.int .i64 f, .int .i64 1, .int .u32 a0, .int .u32 a1, .int .u32 a2, .int .u32 a3, .int .i64 0, .int .u32 l0, .int .u32 l1, .int .u32 l2] #[.int .u32 e, .int .i64 f, .int .u32 m0, .int .u32 m1, .int .u32 m2] #[.int .u32 0, .int .i64 0, .int .u32 0, .int .u32 0, .int .u32 0] 26 49 49 49 oo oo #[.int .u32 (sumN e a0), .int .i64 1, .int .u32 x0, .int .u32 x1, .int .u32 x2] #[.int .u32 (sumN e a0), .int .i64 1, .int .u32 x0, .int .u32 x1, .int .u32 x2]) (by kernel_rfl) (by kernel_rfl) (hC _ rfl) ?_
        clear hC
        repeat
          (refine step_fam (fun K hK => ?_)
           go_simp
           first
             | (with_reducible apply Hf.of
                · intro s wv hk hd hv
                  have Hv := Lib.hid hv
                  obtain ⟨a_0, a_1, a_2, a_3, a_4, a_5, a_6, a_7, a_8, a_9, a_f⟩ := hv.q.q.q.a.ten
                  clear hv
                  go_simp
                  (first
                    | (exact ⟨Hv.out.pure (by decide) (by decide), rfl⟩)
                    | (have hx := Hv.out.rowX hk; have ha := Hv.out.q.q.q.a; obtain ⟨w', hrun, hr', hb'⟩ := run_copy_splice (P := Try.prog) wv 64 64 3 22 Try.underlying64 (by kernel_rfl) (some ⟨X, 3, none⟩) (some ⟨A, 7, none⟩) 2 2 0 3 X 3 [.int .u32 (sumN e a0), .int .i64 1, .int .u32 x0, .int .u32 x1, .int .u32 x2] 49 hx [] rfl (fun h => absurd h (by decide)) (by simp) H1.out; rw [hrun]; exact ⟨Hv.out.fill (by decide) hb' hr', rfl⟩))
                refine hK _ ?_
                clear hK K)
             | (with_reducible apply Sf.of
                · (intro s wv hk hv; exact hv.pure (by decide) (by decide))
                refine hK _ ?_
                clear hK K))
        refine nil_fam ?_
        intro w4 hq13
        have hq := hq13.done
        clear H1 hq13
        obtain ⟨a_0, a_1, a_2, a_3, a_4, a_5, a_6, a_7, a_8, a_9, a_f⟩ := hq.q.q.a.ten
        obtain ⟨b_0, b_1, b_2, b_3, b_4, b_f⟩ := hq.q.q.b.atTm
        obtain ⟨r_0, r_1, r_2, r_3, r_4, r_f⟩ := hq.q.q.r.atTm
        obtain ⟨x_0, x_1, x_2, x_3, x_4, x_f⟩ := hq.x.atTm
        have s_0 := hq.q.x.cell 0 _ rfl
        have s_f := hq.q.x.free
        rcases oo with _ | _
        · rw [if_neg (by decide)] at hR
          injection hR with h1 h2
          subst h2
          obtain ⟨e0, e1, e2⟩ := L3 _ (hx.out rfl)
          have hs0 : bigN e a0 = false := by
            have := HO.out
            rw [over_eq f 1 a0 a1 a2 a3 0 l0 l1 l2 e m0 m1 m2 HG.out] at this
            exact (Bool.or_eq_false_iff.1 this).1
          have hxx : x = ⟨sumN e a0, 1, x0, x1, x2⟩ := by
            rw [← h1, sumN_ok hs0]
            simp [Tm.L, Pa.A, Pa.L] at e0 e1 e2
            simp [apT, apL, Tm.L, Pa.A, Pa.L, *]
          subst hxx
          clear hx HO h1 e0 e1 e2 hs0
          go_wp2
          refine bodyPost_ret (v := .tuple #[.agg #[.int .u32 (sumN e a0), .int .i64 1, .int .u32 x0, .int .u32 x1, .int .u32 x2], .int .i64 0]) (by simp [results, Try.results33, go_sem, *]) rfl ⟨rfl, ?_⟩
          exact (((((hq.q.q.setR 0 _).setR 1 _).setR 2 _).setR 3 _).setR 4 _).z
        · rw [if_pos rfl] at hR
          injection hR with h1 h2
          subst h1
          subst h2
          clear hx HO
          go_wp2
          refine bodyPost_ret (v := .tuple #[.agg #[.int .u32 0, .int .i64 0, .int .u32 0, .int .u32 0, .int .u32 0], .int .i64 9]) (by simp [results, Try.results33, go_sem, *]) rfl ⟨rfl, ?_⟩
          exact (((((hq.q.q.setR 0 _).setR 1 _).setR 2 _).setR 3 _).setR 4 _).z
      · have h1 : ∀ v ∈ ([.int .u32 l0] : List Value), v.oneCell' = true := by
          intro v hv
          simp at hv
          rcases hv with rfl <;> rfl
        have H1 := Lib.hid h1
        have hC : ∀ s : Nat → Bool, s 8 = false → CL 99 8 w A B R S X #[.int .i64 f, .int .i64 1, .int .u32 a0, .int .u32 a1, .int .u32 a2, .int .u32 a3, .int .i64 1, .int .u32 l0, .int .u32 l1, .int .u32 l2] #[.int .u32 e, .int .i64 f, .int .u32 m0, .int .u32 m1, .int .u32 m2] #[.int .u32 0, .int .i64 0, .int .u32 0, .int .u32 0, .int .u32 0] 26 49 49 49 oo oo #[.int .u32 (sumN e a0), .int .i64 2, .int .u32 x0, .int .u32 x1, .int .u32 x2] #[.int .u32 (sumN e a0), .int .i64 2, .int .u32 x0, .int .u32 l0, .int .u32 x2] s wr.drew := fun s h2 => CL.start0 hq.drew h2
        clear h1
        clear a_0 a_1 a_2 a_3 a_4 a_5 a_6 a_7 a_8 a_9 a_f b_0 b_1 b_2 b_3 b_4 b_f r_0 r_1 r_2 r_3 r_4 r_f x_0 x_1 x_2 x_3 x_4 x_f s_0 s_f hq
        refine region_fam (CL 99 8 w A B R S X #[.int .i64 f, .int .i64 1, .int .u32 a0, .int .u32 a1, .int .u32 a2, .int .u32 a3, .int .i64 1, .int .u32 l0, .int .u32 l1, .int .u32 l2] #[.int .u32 e, .int .i64 f, .int .u32 m0, .int .u32 m1, .int .u32 m2] #[.int .u32 0, .int .i64 0, .int .u32 0, .int .u32 0, .int .u32 0] 26 49 49 49 oo oo #[.int .u32 (sumN e a0), .int .i64 2, .int .u32 x0, .int .u32 x1, .int .u32 x2] #[.int .u32 (sumN e a0), .int .i64 2, .int .u32 x0, .int .u32 l0, .int .u32 x2]) (by kernel_rfl) (by kernel_rfl) (hC _ rfl) ?_
        clear hC
        repeat
          (refine step_fam (fun K hK => ?_)
           go_simp
           first
             | (with_reducible apply Hf.of
                · intro s wv hk hd hv
                  have Hv := Lib.hid hv
                  obtain ⟨a_0, a_1, a_2, a_3, a_4, a_5, a_6, a_7, a_8, a_9, a_f⟩ := hv.q.q.q.a.ten
                  clear hv
                  go_simp
                  (first
                    | (exact ⟨Hv.out.pure (by decide) (by decide), rfl⟩)
                    | (have hx := Hv.out.rowX hk; have ha := Hv.out.q.q.q.a; obtain ⟨w', hrun, hr', hb'⟩ := run_copy_splice (P := Try.prog) wv 64 64 3 22 Try.underlying64 (by kernel_rfl) (some ⟨X, 3, none⟩) (some ⟨A, 7, none⟩) 2 2 1 3 X 3 [.int .u32 (sumN e a0), .int .i64 2, .int .u32 x0, .int .u32 x1, .int .u32 x2] 49 hx [.int .u32 l0] rfl (fun _ => ⟨rfl, _, rfl, src_l ha 1 (by omega)⟩) (by simp) H1.out; rw [hrun]; exact ⟨Hv.out.fill (by decide) hb' hr', rfl⟩))
                refine hK _ ?_
                clear hK K)
             | (with_reducible apply Sf.of
                · (intro s wv hk hv; exact hv.pure (by decide) (by decide))
                refine hK _ ?_
                clear hK K))
        refine nil_fam ?_
        intro w4 hq13
        have hq := hq13.done
        clear H1 hq13
        obtain ⟨a_0, a_1, a_2, a_3, a_4, a_5, a_6, a_7, a_8, a_9, a_f⟩ := hq.q.q.a.ten
        obtain ⟨b_0, b_1, b_2, b_3, b_4, b_f⟩ := hq.q.q.b.atTm
        obtain ⟨r_0, r_1, r_2, r_3, r_4, r_f⟩ := hq.q.q.r.atTm
        obtain ⟨x_0, x_1, x_2, x_3, x_4, x_f⟩ := hq.x.atTm
        have s_0 := hq.q.x.cell 0 _ rfl
        have s_f := hq.q.x.free
        rcases oo with _ | _
        · rw [if_neg (by decide)] at hR
          injection hR with h1 h2
          subst h2
          obtain ⟨e0, e1, e2⟩ := L3 _ (hx.out rfl)
          have hs0 : bigN e a0 = false := by
            have := HO.out
            rw [over_eq f 1 a0 a1 a2 a3 1 l0 l1 l2 e m0 m1 m2 HG.out] at this
            exact (Bool.or_eq_false_iff.1 this).1
          have hxx : x = ⟨sumN e a0, 2, x0, l0, x2⟩ := by
            rw [← h1, sumN_ok hs0]
            simp [Tm.L, Pa.A, Pa.L] at e0 e1 e2
            simp [apT, apL, Tm.L, Pa.A, Pa.L, *]
          subst hxx
          clear hx HO h1 e0 e1 e2 hs0
          go_wp2
          refine bodyPost_ret (v := .tuple #[.agg #[.int .u32 (sumN e a0), .int .i64 2, .int .u32 x0, .int .u32 l0, .int .u32 x2], .int .i64 0]) (by simp [results, Try.results33, go_sem, *]) rfl ⟨rfl, ?_⟩
          exact (((((hq.q.q.setR 0 _).setR 1 _).setR 2 _).setR 3 _).setR 4 _).z
        · rw [if_pos rfl] at hR
          injection hR with h1 h2
          subst h1
          subst h2
          clear hx HO
          go_wp2
          refine bodyPost_ret (v := .tuple #[.agg #[.int .u32 0, .int .i64 0, .int .u32 0, .int .u32 0, .int .u32 0], .int .i64 9]) (by simp [results, Try.results33, go_sem, *]) rfl ⟨rfl, ?_⟩
          exact (((((hq.q.q.setR 0 _).setR 1 _).setR 2 _).setR 3 _).setR 4 _).z
      · have h1 : ∀ v ∈ ([.int .u32 l0, .int .u32 l1] : List Value), v.oneCell' = true := by
          intro v hv
          simp at hv
          rcases hv with rfl | rfl <;> rfl
        have H1 := Lib.hid h1
        have hC : ∀ s : Nat → Bool, s 8 = false → CL 99 8 w A B R S X #[.int .i64 f, .int .i64 1, .int .u32 a0, .int .u32 a1, .int .u32 a2, .int .u32 a3, .int .i64 2, .int .u32 l0, .int .u32 l1, .int .u32 l2] #[.int .u32 e, .int .i64 f, .int .u32 m0, .int .u32 m1, .int .u32 m2] #[.int .u32 0, .int .i64 0, .int .u32 0, .int .u32 0, .int .u32 0] 26 49 49 49 oo oo #[.int .u32 (sumN e a0), .int .i64 3, .int .u32 x0, .int .u32 x1, .int .u32 x2] #[.int .u32 (sumN e a0), .int .i64 3, .int .u32 x0, .int .u32 l0, .int .u32 l1] s wr.drew := fun s h2 => CL.start0 hq.drew h2
        clear h1
        clear a_0 a_1 a_2 a_3 a_4 a_5 a_6 a_7 a_8 a_9 a_f b_0 b_1 b_2 b_3 b_4 b_f r_0 r_1 r_2 r_3 r_4 r_f x_0 x_1 x_2 x_3 x_4 x_f s_0 s_f hq
        refine region_fam (CL 99 8 w A B R S X #[.int .i64 f, .int .i64 1, .int .u32 a0, .int .u32 a1, .int .u32 a2, .int .u32 a3, .int .i64 2, .int .u32 l0, .int .u32 l1, .int .u32 l2] #[.int .u32 e, .int .i64 f, .int .u32 m0, .int .u32 m1, .int .u32 m2] #[.int .u32 0, .int .i64 0, .int .u32 0, .int .u32 0, .int .u32 0] 26 49 49 49 oo oo #[.int .u32 (sumN e a0), .int .i64 3, .int .u32 x0, .int .u32 x1, .int .u32 x2] #[.int .u32 (sumN e a0), .int .i64 3, .int .u32 x0, .int .u32 l0, .int .u32 l1]) (by kernel_rfl) (by kernel_rfl) (hC _ rfl) ?_
        clear hC
        repeat
          (refine step_fam (fun K hK => ?_)
           go_simp
           first
             | (with_reducible apply Hf.of
                · intro s wv hk hd hv
                  have Hv := Lib.hid hv
                  obtain ⟨a_0, a_1, a_2, a_3, a_4, a_5, a_6, a_7, a_8, a_9, a_f⟩ := hv.q.q.q.a.ten
                  clear hv
                  go_simp
                  (first
                    | (exact ⟨Hv.out.pure (by decide) (by decide), rfl⟩)
                    | (have hx := Hv.out.rowX hk; have ha := Hv.out.q.q.q.a; obtain ⟨w', hrun, hr', hb'⟩ := run_copy_splice (P := Try.prog) wv 64 64 3 22 Try.underlying64 (by kernel_rfl) (some ⟨X, 3, none⟩) (some ⟨A, 7, none⟩) 2 2 2 3 X 3 [.int .u32 (sumN e a0), .int .i64 3, .int .u32 x0, .int .u32 x1, .int .u32 x2] 49 hx [.int .u32 l0, .int .u32 l1] rfl (fun _ => ⟨rfl, _, rfl, src_l ha 2 (by omega)⟩) (by simp) H1.out; rw [hrun]; exact ⟨Hv.out.fill (by decide) hb' hr', rfl⟩))
                refine hK _ ?_
                clear hK K)
             | (with_reducible apply Sf.of
                · (intro s wv hk hv; exact hv.pure (by decide) (by decide))
                refine hK _ ?_
                clear hK K))
        refine nil_fam ?_
        intro w4 hq13
        have hq := hq13.done
        clear H1 hq13
        obtain ⟨a_0, a_1, a_2, a_3, a_4, a_5, a_6, a_7, a_8, a_9, a_f⟩ := hq.q.q.a.ten
        obtain ⟨b_0, b_1, b_2, b_3, b_4, b_f⟩ := hq.q.q.b.atTm
        obtain ⟨r_0, r_1, r_2, r_3, r_4, r_f⟩ := hq.q.q.r.atTm
        obtain ⟨x_0, x_1, x_2, x_3, x_4, x_f⟩ := hq.x.atTm
        have s_0 := hq.q.x.cell 0 _ rfl
        have s_f := hq.q.x.free
        rcases oo with _ | _
        · rw [if_neg (by decide)] at hR
          injection hR with h1 h2
          subst h2
          obtain ⟨e0, e1, e2⟩ := L3 _ (hx.out rfl)
          have hs0 : bigN e a0 = false := by
            have := HO.out
            rw [over_eq f 1 a0 a1 a2 a3 2 l0 l1 l2 e m0 m1 m2 HG.out] at this
            exact (Bool.or_eq_false_iff.1 this).1
          have hxx : x = ⟨sumN e a0, 3, x0, l0, l1⟩ := by
            rw [← h1, sumN_ok hs0]
            simp [Tm.L, Pa.A, Pa.L] at e0 e1 e2
            simp [apT, apL, Tm.L, Pa.A, Pa.L, *]
          subst hxx
          clear hx HO h1 e0 e1 e2 hs0
          go_wp2
          refine bodyPost_ret (v := .tuple #[.agg #[.int .u32 (sumN e a0), .int .i64 3, .int .u32 x0, .int .u32 l0, .int .u32 l1], .int .i64 0]) (by simp [results, Try.results33, go_sem, *]) rfl ⟨rfl, ?_⟩
          exact (((((hq.q.q.setR 0 _).setR 1 _).setR 2 _).setR 3 _).setR 4 _).z
        · rw [if_pos rfl] at hR
          injection hR with h1 h2
          subst h1
          subst h2
          clear hx HO
          go_wp2
          refine bodyPost_ret (v := .tuple #[.agg #[.int .u32 0, .int .i64 0, .int .u32 0, .int .u32 0, .int .u32 0], .int .i64 9]) (by simp [results, Try.results33, go_sem, *]) rfl ⟨rfl, ?_⟩
          exact (((((hq.q.q.setR 0 _).setR 1 _).setR 2 _).setR 3 _).setR 4 _).z
      · have h1 : ∀ v ∈ ([] : List Value), v.oneCell' = true := by
          intro v hv
          simp at hv
          
        have H1 := Lib.hid h1
        have hC : ∀ s : Nat → Bool, s 8 = false → CL 99 8 w A B R S X #[.int .i64 f, .int .i64 2, .int .u32 a0, .int .u32 a1, .int .u32 a2, .int .u32 a3, .int .i64 0, .int .u32 l0, .int .u32 l1, .int .u32 l2] #[.int .u32 e, .int .i64 f, .int .u32 m0, .int .u32 m1, .int .u32 m2] #[.int .u32 0, .int .i64 0, .int .u32 0, .int .u32 0, .int .u32 0] 26 49 49 49 oo oo #[.int .u32 (sumN e a0), .int .i64 2, .int .u32 x0, .int .u32 x1, .int .u32 x2] #[.int .u32 (sumN e a0), .int .i64 2, .int .u32 x0, .int .u32 x1, .int .u32 x2] s wr.drew := fun s h2 => CL.start0 hq.drew h2
        clear h1
        clear a_0 a_1 a_2 a_3 a_4 a_5 a_6 a_7 a_8 a_9 a_f b_0 b_1 b_2 b_3 b_4 b_f r_0 r_1 r_2 r_3 r_4 r_f x_0 x_1 x_2 x_3 x_4 x_f s_0 s_f hq
        refine region_fam (CL 99 8 w A B R S X #[.int .i64 f, .int .i64 2, .int .u32 a0, .int .u32 a1, .int .u32 a2, .int .u32 a3, .int .i64 0, .int .u32 l0, .int .u32 l1, .int .u32 l2] #[.int .u32 e, .int .i64 f, .int .u32 m0, .int .u32 m1, .int .u32 m2] #[.int .u32 0, .int .i64 0, .int .u32 0, .int .u32 0, .int .u32 0] 26 49 49 49 oo oo #[.int .u32 (sumN e a0), .int .i64 2, .int .u32 x0, .int .u32 x1, .int .u32 x2] #[.int .u32 (sumN e a0), .int .i64 2, .int .u32 x0, .int .u32 x1, .int .u32 x2]) (by kernel_rfl) (by kernel_rfl) (hC _ rfl) ?_
        clear hC
        repeat
          (refine step_fam (fun K hK => ?_)
           go_simp
           first
             | (with_reducible apply Hf.of
                · intro s wv hk hd hv
                  have Hv := Lib.hid hv
                  obtain ⟨a_0, a_1, a_2, a_3, a_4, a_5, a_6, a_7, a_8, a_9, a_f⟩ := hv.q.q.q.a.ten
                  clear hv
                  go_simp
                  (first
                    | (exact ⟨Hv.out.pure (by decide) (by decide), rfl⟩)
                    | (have hx := Hv.out.rowX hk; have ha := Hv.out.q.q.q.a; obtain ⟨w', hrun, hr', hb'⟩ := run_copy_splice (P := Try.prog) wv 64 64 3 22 Try.underlying64 (by kernel_rfl) (some ⟨X, 4, none⟩) (some ⟨A, 7, none⟩) 1 1 0 3 X 4 [.int .u32 (sumN e a0), .int .i64 2, .int .u32 x0, .int .u32 x1, .int .u32 x2] 49 hx [] rfl (fun h => absurd h (by decide)) (by simp) H1.out; rw [hrun]; exact ⟨Hv.out.fill (by decide) hb' hr', rfl⟩))
                refine hK _ ?_
                clear hK K)
             | (with_reducible apply Sf.of
                · (intro s wv hk hv; exact hv.pure (by decide) (by decide))
                refine hK _ ?_
                clear hK K))
        refine nil_fam ?_
        intro w4 hq13
        have hq := hq13.done
        clear H1 hq13
        obtain ⟨a_0, a_1, a_2, a_3, a_4, a_5, a_6, a_7, a_8, a_9, a_f⟩ := hq.q.q.a.ten
        obtain ⟨b_0, b_1, b_2, b_3, b_4, b_f⟩ := hq.q.q.b.atTm
        obtain ⟨r_0, r_1, r_2, r_3, r_4, r_f⟩ := hq.q.q.r.atTm
        obtain ⟨x_0, x_1, x_2, x_3, x_4, x_f⟩ := hq.x.atTm
        have s_0 := hq.q.x.cell 0 _ rfl
        have s_f := hq.q.x.free
        rcases oo with _ | _
        · rw [if_neg (by decide)] at hR
          injection hR with h1 h2
          subst h2
          obtain ⟨e0, e1, e2⟩ := L3 _ (hx.out rfl)
          have hs0 : bigN e a0 = false := by
            have := HO.out
            rw [over_eq f 2 a0 a1 a2 a3 0 l0 l1 l2 e m0 m1 m2 HG.out] at this
            exact (Bool.or_eq_false_iff.1 this).1
          have hxx : x = ⟨sumN e a0, 2, x0, x1, x2⟩ := by
            rw [← h1, sumN_ok hs0]
            simp [Tm.L, Pa.A, Pa.L] at e0 e1 e2
            simp [apT, apL, Tm.L, Pa.A, Pa.L, *]
          subst hxx
          clear hx HO h1 e0 e1 e2 hs0
          go_wp2
          refine bodyPost_ret (v := .tuple #[.agg #[.int .u32 (sumN e a0), .int .i64 2, .int .u32 x0, .int .u32 x1, .int .u32 x2], .int .i64 0]) (by simp [results, Try.results33, go_sem, *]) rfl ⟨rfl, ?_⟩
          exact (((((hq.q.q.setR 0 _).setR 1 _).setR 2 _).setR 3 _).setR 4 _).z
        · rw [if_pos rfl] at hR
          injection hR with h1 h2
          subst h1
          subst h2
          clear hx HO
          go_wp2
          refine bodyPost_ret (v := .tuple #[.agg #[.int .u32 0, .int .i64 0, .int .u32 0, .int .u32 0, .int .u32 0], .int .i64 9]) (by simp [results, Try.results33, go_sem, *]) rfl ⟨rfl, ?_⟩
          exact (((((hq.q.q.setR 0 _).setR 1 _).setR 2 _).setR 3 _).setR 4 _).z
      · have h1 : ∀ v ∈ ([.int .u32 l0] : List Value), v.oneCell' = true := by
          intro v hv
          simp at hv
          rcases hv with rfl <;> rfl
        have H1 := Lib.hid h1
        have hC : ∀ s : Nat → Bool, s 8 = false → CL 99 8 w A B R S X #[.int .i64 f, .int .i64 2, .int .u32 a0, .int .u32 a1, .int .u32 a2, .int .u32 a3, .int .i64 1, .int .u32 l0, .int .u32 l1, .int .u32 l2] #[.int .u32 e, .int .i64 f, .int .u32 m0, .int .u32 m1, .int .u32 m2] #[.int .u32 0, .int .i64 0, .int .u32 0, .int .u32 0, .int .u32 0] 26 49 49 49 oo oo #[.int .u32 (sumN e a0), .int .i64 3, .int .u32 x0, .int .u32 x1, .int .u32 x2] #[.int .u32 (sumN e a0), .int .i64 3, .int .u32 x0, .int .u32 x1, .int .u32 l0] s wr.drew := fun s h2 => CL.start0 hq.drew h2
        clear h1
        clear a_0 a_1 a_2 a_3 a_4 a_5 a_6 a_7 a_8 a_9 a_f b_0 b_1 b_2 b_3 b_4 b_f r_0 r_1 r_2 r_3 r_4 r_f x_0 x_1 x_2 x_3 x_4 x_f s_0 s_f hq
        refine region_fam (CL 99 8 w A B R S X #[.int .i64 f, .int .i64 2, .int .u32 a0, .int .u32 a1, .int .u32 a2, .int .u32 a3, .int .i64 1, .int .u32 l0, .int .u32 l1, .int .u32 l2] #[.int .u32 e, .int .i64 f, .int .u32 m0, .int .u32 m1, .int .u32 m2] #[.int .u32 0, .int .i64 0, .int .u32 0, .int .u32 0, .int .u32 0] 26 49 49 49 oo oo #[.int .u32 (sumN e a0), .int .i64 3, .int .u32 x0, .int .u32 x1, .int .u32 x2] #[.int .u32 (sumN e a0), .int .i64 3, .int .u32 x0, .int .u32 x1, .int .u32 l0]) (by kernel_rfl) (by kernel_rfl) (hC _ rfl) ?_
        clear hC
        repeat
          (refine step_fam (fun K hK => ?_)
           go_simp
           first
             | (with_reducible apply Hf.of
                · intro s wv hk hd hv
                  have Hv := Lib.hid hv
                  obtain ⟨a_0, a_1, a_2, a_3, a_4, a_5, a_6, a_7, a_8, a_9, a_f⟩ := hv.q.q.q.a.ten
                  clear hv
                  go_simp
                  (first
                    | (exact ⟨Hv.out.pure (by decide) (by decide), rfl⟩)
                    | (have hx := Hv.out.rowX hk; have ha := Hv.out.q.q.q.a; obtain ⟨w', hrun, hr', hb'⟩ := run_copy_splice (P := Try.prog) wv 64 64 3 22 Try.underlying64 (by kernel_rfl) (some ⟨X, 4, none⟩) (some ⟨A, 7, none⟩) 1 1 1 3 X 4 [.int .u32 (sumN e a0), .int .i64 3, .int .u32 x0, .int .u32 x1, .int .u32 x2] 49 hx [.int .u32 l0] rfl (fun _ => ⟨rfl, _, rfl, src_l ha 1 (by omega)⟩) (by simp) H1.out; rw [hrun]; exact ⟨Hv.out.fill (by decide) hb' hr', rfl⟩))
                refine hK _ ?_
                clear hK K)
             | (with_reducible apply Sf.of
                · (intro s wv hk hv; exact hv.pure (by decide) (by decide))
                refine hK _ ?_
                clear hK K))
        refine nil_fam ?_
        intro w4 hq13
        have hq := hq13.done
        clear H1 hq13
        obtain ⟨a_0, a_1, a_2, a_3, a_4, a_5, a_6, a_7, a_8, a_9, a_f⟩ := hq.q.q.a.ten
        obtain ⟨b_0, b_1, b_2, b_3, b_4, b_f⟩ := hq.q.q.b.atTm
        obtain ⟨r_0, r_1, r_2, r_3, r_4, r_f⟩ := hq.q.q.r.atTm
        obtain ⟨x_0, x_1, x_2, x_3, x_4, x_f⟩ := hq.x.atTm
        have s_0 := hq.q.x.cell 0 _ rfl
        have s_f := hq.q.x.free
        rcases oo with _ | _
        · rw [if_neg (by decide)] at hR
          injection hR with h1 h2
          subst h2
          obtain ⟨e0, e1, e2⟩ := L3 _ (hx.out rfl)
          have hs0 : bigN e a0 = false := by
            have := HO.out
            rw [over_eq f 2 a0 a1 a2 a3 1 l0 l1 l2 e m0 m1 m2 HG.out] at this
            exact (Bool.or_eq_false_iff.1 this).1
          have hxx : x = ⟨sumN e a0, 3, x0, x1, l0⟩ := by
            rw [← h1, sumN_ok hs0]
            simp [Tm.L, Pa.A, Pa.L] at e0 e1 e2
            simp [apT, apL, Tm.L, Pa.A, Pa.L, *]
          subst hxx
          clear hx HO h1 e0 e1 e2 hs0
          go_wp2
          refine bodyPost_ret (v := .tuple #[.agg #[.int .u32 (sumN e a0), .int .i64 3, .int .u32 x0, .int .u32 x1, .int .u32 l0], .int .i64 0]) (by simp [results, Try.results33, go_sem, *]) rfl ⟨rfl, ?_⟩
          exact (((((hq.q.q.setR 0 _).setR 1 _).setR 2 _).setR 3 _).setR 4 _).z
        · rw [if_pos rfl] at hR
          injection hR with h1 h2
          subst h1
          subst h2
          clear hx HO
          go_wp2
          refine bodyPost_ret (v := .tuple #[.agg #[.int .u32 0, .int .i64 0, .int .u32 0, .int .u32 0, .int .u32 0], .int .i64 9]) (by simp [results, Try.results33, go_sem, *]) rfl ⟨rfl, ?_⟩
          exact (((((hq.q.q.setR 0 _).setR 1 _).setR 2 _).setR 3 _).setR 4 _).z
      · have h1 : ∀ v ∈ ([] : List Value), v.oneCell' = true := by
          intro v hv
          simp at hv
          
        have H1 := Lib.hid h1
        have hC : ∀ s : Nat → Bool, s 8 = false → CL 99 8 w A B R S X #[.int .i64 f, .int .i64 3, .int .u32 a0, .int .u32 a1, .int .u32 a2, .int .u32 a3, .int .i64 0, .int .u32 l0, .int .u32 l1, .int .u32 l2] #[.int .u32 e, .int .i64 f, .int .u32 m0, .int .u32 m1, .int .u32 m2] #[.int .u32 0, .int .i64 0, .int .u32 0, .int .u32 0, .int .u32 0] 26 49 49 49 oo oo #[.int .u32 (sumN e a0), .int .i64 3, .int .u32 x0, .int .u32 x1, .int .u32 x2] #[.int .u32 (sumN e a0), .int .i64 3, .int .u32 x0, .int .u32 x1, .int .u32 x2] s wr.drew := fun s h2 => CL.start0 hq.drew h2
        clear h1
        clear a_0 a_1 a_2 a_3 a_4 a_5 a_6 a_7 a_8 a_9 a_f b_0 b_1 b_2 b_3 b_4 b_f r_0 r_1 r_2 r_3 r_4 r_f x_0 x_1 x_2 x_3 x_4 x_f s_0 s_f hq
        refine region_fam (CL 99 8 w A B R S X #[.int .i64 f, .int .i64 3, .int .u32 a0, .int .u32 a1, .int .u32 a2, .int .u32 a3, .int .i64 0, .int .u32 l0, .int .u32 l1, .int .u32 l2] #[.int .u32 e, .int .i64 f, .int .u32 m0, .int .u32 m1, .int .u32 m2] #[.int .u32 0, .int .i64 0, .int .u32 0, .int .u32 0, .int .u32 0] 26 49 49 49 oo oo #[.int .u32 (sumN e a0), .int .i64 3, .int .u32 x0, .int .u32 x1, .int .u32 x2] #[.int .u32 (sumN e a0), .int .i64 3, .int .u32 x0, .int .u32 x1, .int .u32 x2]) (by kernel_rfl) (by kernel_rfl) (hC _ rfl) ?_
        clear hC
        repeat
          (refine step_fam (fun K hK => ?_)
           go_simp
           first
             | (with_reducible apply Hf.of
                · intro s wv hk hd hv
                  have Hv := Lib.hid hv
                  obtain ⟨a_0, a_1, a_2, a_3, a_4, a_5, a_6, a_7, a_8, a_9, a_f⟩ := hv.q.q.q.a.ten
                  clear hv
                  go_simp
                  (first
                    | (exact ⟨Hv.out.pure (by decide) (by decide), rfl⟩)
                    | (have hx := Hv.out.rowX hk; have ha := Hv.out.q.q.q.a; obtain ⟨w', hrun, hr', hb'⟩ := run_copy_splice (P := Try.prog) wv 64 64 3 22 Try.underlying64 (by kernel_rfl) (some ⟨X, 2, none⟩) (some ⟨A, 7, none⟩) 0 0 0 3 X 5 [.int .u32 (sumN e a0), .int .i64 3, .int .u32 x0, .int .u32 x1, .int .u32 x2] 49 hx [] rfl (fun h => absurd h (by decide)) (by simp) H1.out; rw [hrun]; exact ⟨Hv.out.fill (by decide) hb' hr', rfl⟩))
                refine hK _ ?_
                clear hK K)
             | (with_reducible apply Sf.of
                · (intro s wv hk hv; exact hv.pure (by decide) (by decide))
                refine hK _ ?_
                clear hK K))
        refine nil_fam ?_
        intro w4 hq13
        have hq := hq13.done
        clear H1 hq13
        obtain ⟨a_0, a_1, a_2, a_3, a_4, a_5, a_6, a_7, a_8, a_9, a_f⟩ := hq.q.q.a.ten
        obtain ⟨b_0, b_1, b_2, b_3, b_4, b_f⟩ := hq.q.q.b.atTm
        obtain ⟨r_0, r_1, r_2, r_3, r_4, r_f⟩ := hq.q.q.r.atTm
        obtain ⟨x_0, x_1, x_2, x_3, x_4, x_f⟩ := hq.x.atTm
        have s_0 := hq.q.x.cell 0 _ rfl
        have s_f := hq.q.x.free
        rcases oo with _ | _
        · rw [if_neg (by decide)] at hR
          injection hR with h1 h2
          subst h2
          obtain ⟨e0, e1, e2⟩ := L3 _ (hx.out rfl)
          have hs0 : bigN e a0 = false := by
            have := HO.out
            rw [over_eq f 3 a0 a1 a2 a3 0 l0 l1 l2 e m0 m1 m2 HG.out] at this
            exact (Bool.or_eq_false_iff.1 this).1
          have hxx : x = ⟨sumN e a0, 3, x0, x1, x2⟩ := by
            rw [← h1, sumN_ok hs0]
            simp [Tm.L, Pa.A, Pa.L] at e0 e1 e2
            simp [apT, apL, Tm.L, Pa.A, Pa.L, *]
          subst hxx
          clear hx HO h1 e0 e1 e2 hs0
          go_wp2
          refine bodyPost_ret (v := .tuple #[.agg #[.int .u32 (sumN e a0), .int .i64 3, .int .u32 x0, .int .u32 x1, .int .u32 x2], .int .i64 0]) (by simp [results, Try.results33, go_sem, *]) rfl ⟨rfl, ?_⟩
          exact (((((hq.q.q.setR 0 _).setR 1 _).setR 2 _).setR 3 _).setR 4 _).z
        · rw [if_pos rfl] at hR
          injection hR with h1 h2
          subst h1
          subst h2
          clear hx HO
          go_wp2
          refine bodyPost_ret (v := .tuple #[.agg #[.int .u32 0, .int .i64 0, .int .u32 0, .int .u32 0, .int .u32 0], .int .i64 9]) (by simp [results, Try.results33, go_sem, *]) rfl ⟨rfl, ?_⟩
          exact (((((hq.q.q.setR 0 _).setR 1 _).setR 2 _).setR 3 _).setR 4 _).z
theorem apply_all (f k a0 a1 a2 a3 u l0 l1 l2 e d m0 m1 m2 : Int) (w : World) (okp : PaOk ⟨f, k, a0, a1, a2, a3, u, l0, l1, l2⟩) (okt : TmOk ⟨e, d, m0, m1, m2⟩) (x : Tm) (c : Int) (hx : applyR ⟨f, k, a0, a1, a2, a3, u, l0, l1, l2⟩ ⟨e, d, m0, m1, m2⟩ = (x, c)) : Calls Try.prog 33 #[.agg #[.int .i64 f, .int .i64 k, .int .u32 a0, .int .u32 a1, .int .u32 a2, .int .u32 a3, .int .i64 u, .int .u32 l0, .int .u32 l1, .int .u32 l2], .agg #[.int .u32 e, .int .i64 d, .int .u32 m0, .int .u32 m1, .int .u32 m2]] w fun e' w' => e' = .returned (.tuple #[.agg #[.int .u32 x.e, .int .i64 x.d, .int .u32 x.l0, .int .u32 x.l1, .int .u32 x.l2], .int .i64 c]) ∧ Below w.heap.size w w' := by
  have hR := hx
  unfold applyR at hR
  by_cases hp : chk ⟨f, k, a0, a1, a2, a3, u, l0, l1, l2⟩ = 0
  · rw [if_neg (fun h => h hp)] at hR
    by_cases ht : tck ⟨e, d, m0, m1, m2⟩ = 0
    · rw [if_neg (fun h => h ht)] at hR
      by_cases hd : d = f
      · subst hd
        have g := good_iff.1 hp
        obtain ⟨kn, rfl⟩ := Int.eq_ofNat_of_zero_le g.k0
        obtain ⟨un, rfl⟩ := Int.eq_ofNat_of_zero_le g.u0
        exact apply_d d a0 a1 a2 a3 l0 l1 l2 e m0 m1 m2 kn un w hp ht okp okt x c hx
      · rw [if_pos hd] at hR
        injection hR with h1 h2
        subst h1
        subst h2
        exact apply_c f k a0 a1 a2 a3 u l0 l1 l2 e d m0 m1 m2 w hp ht hd
    · rw [if_pos ht] at hR
      injection hR with h1 h2
      subst h1
      exact apply_a f k a0 a1 a2 a3 u l0 l1 l2 e d m0 m1 m2 w 0 c c hp h2 (by simp [orL]; exact fun h => h.symm) (by rw [← h2]; exact ht)
  · rw [if_pos hp] at hR
    injection hR with h1 h2
    subst h1
    have h0 : c ≠ 0 := by rw [← h2]; exact hp
    exact apply_a f k a0 a1 a2 a3 u l0 l1 l2 e d m0 m1 m2 w c _ c h2 rfl (by simp [orL, h0]) h0
end Go.Proofs.Ytfmnbkcjibhloaa
