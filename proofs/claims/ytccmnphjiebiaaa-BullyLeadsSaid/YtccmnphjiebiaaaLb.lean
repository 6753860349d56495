/- Somebody leads: what lies in memory on the way. No condition. -/
import Derived.Test.YtccmnphjiebiaaaDeliv
import Derived.Test.YtccmnphjiebiaaaOps
import Derived.Deep.OwnRows
namespace Go.Proofs.Ytccmnphjiebiaaa
open Go.RowKit G Go.ChangeShapes Go.WideShapes Go.Deep
set_option linter.unusedVariables false
set_option linter.unusedSimpArgs false
/-- An argument that is a list of truth values, of numbers. -/
def BIn (w : World) (a : Option Addr) (len : Nat) (bs : Nat → Bool) : Prop := len ≤ maxLen ∧ (0 < len → ∃ b o, a = some ⟨b, o, none⟩ ∧ b < w.heap.size ∧ ∀ i, i < len → w.cell? ⟨b, o + i, none⟩ = some (.bool (bs i)))
def IIn (w : World) (a : Option Addr) (len : Nat) (xs : Nat → Int) : Prop := len ≤ maxLen ∧ (0 < len → ∃ b o, a = some ⟨b, o, none⟩ ∧ b < w.heap.size ∧ ∀ i, i < len → w.cell? ⟨b, o + i, none⟩ = some (.int .i64 (xs i)))
theorem BIn.at {w : World} {a : Option Addr} {len : Nat} {bs : Nat → Bool} (h : BIn w a len bs) {i : Nat} (hi : i < len) : ∃ b o, a = some ⟨b, o, none⟩ ∧ b < w.heap.size ∧ ∀ w', Below w.heap.size w w' → w'.cell? ⟨b, o + i, none⟩ = some (.bool (bs i)) := by
  obtain ⟨b, o, e, hlt, hc⟩ := h.2 (by omega)
  exact ⟨b, o, e, hlt, fun w' hb => by rw [World.cell?_of_block (a := ⟨b, o + i, none⟩) (w := w) (hb.block b hlt)]; exact hc i hi⟩
theorem IIn.at {w : World} {a : Option Addr} {len : Nat} {bs : Nat → Int} (h : IIn w a len bs) {i : Nat} (hi : i < len) : ∃ b o, a = some ⟨b, o, none⟩ ∧ b < w.heap.size ∧ ∀ w', Below w.heap.size w w' → w'.cell? ⟨b, o + i, none⟩ = some (.int .i64 (bs i)) := by
  obtain ⟨b, o, e, hlt, hc⟩ := h.2 (by omega)
  exact ⟨b, o, e, hlt, fun w' hb => by rw [World.cell?_of_block (a := ⟨b, o + i, none⟩) (w := w) (hb.block b hlt)]; exact hc i hi⟩
section
variable {H : Type} {enc : TypeId × Value → H} {w : World} {base : Nat} {spare : Nat → Bool} {held : Bool}
theorem cellsB4 : Try.prog.cellsOf 4 = 1 := by kernel_rfl
theorem cellsI3 : Try.prog.cellsOf 3 = 1 := by kernel_rfl
theorem addr_plus (b p q : Nat) : (⟨b, p, none⟩ : Addr).add q = ⟨b, p + q, none⟩ := by
  by_cases e : q = 0
  · subst e; rfl
  · simp [Addr.add, e]
theorem open_bools {fuel : Nat} {a : Option Addr} {len cap : Nat} {x : DataW H × List MemPlace} (h : DataW.trod enc Try.prog w base spare held fuel 57 [.slice a len cap] = some x) : ∃ bs, BIn w a len bs := by
  rcases open_slice Try.underlying57 h with ⟨hcs, -⟩ | ⟨a', len', cap', m, n, D, Pl, hcs, hb, hl, hm, hmm, hx, hi⟩
  · simp at hcs
    obtain ⟨rfl, rfl, rfl⟩ := hcs
    exact ⟨fun _ => false, by unfold maxLen; omega, fun h => absurd h (by omega)⟩
  · simp at hcs
    obtain ⟨rfl, rfl, rfl⟩ := hcs
    have hlm : len ≤ m := by rw [hmm]; split <;> omega
    have key : ∀ i, ∃ o : Bool, i < len → w.cell? (a'.add i) = some (.bool o) := by
      intro i
      by_cases hil : i < len
      · obtain ⟨cs', hc, ht⟩ := hi i (by omega)
        rw [cellsB4] at hc
        obtain ⟨o, rfl, hs⟩ := DataW.trod_bool Try.underlying4 ht
        obtain ⟨_, hcl, hat⟩ := World.cells?_some hc
        refine ⟨o, fun _ => ?_⟩
        have := hat 0 (by decide)
        rw [Nat.mul_one] at this
        have e0 : (a'.add i).add 0 = a'.add i := by simp [Addr.add]
        rw [e0] at this
        rw [this]; rfl
      · exact ⟨false, fun h => absurd h hil⟩
    obtain ⟨F, hk⟩ : ∃ F : Nat → Bool, ∀ i, i < len → w.cell? (a'.add i) = some (.bool (F i)) := ⟨fun i => (key i).choose, fun i hi => (key i).choose_spec hi⟩
    refine ⟨F, Nat.le_trans hl hm, fun hp => ?_⟩
    have h0 := hk 0 hp
    rw [show a'.add 0 = a' from by simp [Addr.add]] at h0
    obtain ⟨b, o, s⟩ := a'
    have hs : s = none := by
      cases s with
      | none => rfl
      | some s =>
        simp only [World.cell?] at h0
        split at h0
        · simp at h0
        · cases h0
    subst hs
    have hb : b < w.heap.size := by
      rcases Nat.lt_or_ge b w.heap.size with q | q
      · exact q
      · simp only [World.cell?] at h0
        simp [Array.getElem?_eq_none q] at h0
    refine ⟨b, o, rfl, hb, fun i hi => ?_⟩
    exact (congrArg w.cell? (addr_plus b o i)).symm.trans (hk i hi)
theorem open_nums {fuel : Nat} {a : Option Addr} {len cap : Nat} {x : DataW H × List MemPlace} (h : DataW.trod enc Try.prog w base spare held fuel 58 [.slice a len cap] = some x) : ∃ xs, IIn w a len xs := by
  rcases open_slice Try.underlying58 h with ⟨hcs, -⟩ | ⟨a', len', cap', m, n, D, Pl, hcs, hb, hl, hm, hmm, hx, hi⟩
  · simp at hcs
    obtain ⟨rfl, rfl, rfl⟩ := hcs
    exact ⟨fun _ => 0, by unfold maxLen; omega, fun h => absurd h (by omega)⟩
  · simp at hcs
    obtain ⟨rfl, rfl, rfl⟩ := hcs
    have hlm : len ≤ m := by rw [hmm]; split <;> omega
    have key : ∀ i, ∃ o : Int, i < len → w.cell? (a'.add i) = some (.int .i64 o) := by
      intro i
      by_cases hil : i < len
      · obtain ⟨cs', hc, ht⟩ := hi i (by omega)
        rw [cellsI3] at hc
        obtain ⟨o, rfl, hs⟩ := DataW.trod_int Try.underlying3 ht
        obtain ⟨_, hcl, hat⟩ := World.cells?_some hc
        refine ⟨o, fun _ => ?_⟩
        have := hat 0 (by decide)
        rw [Nat.mul_one] at this
        have e0 : (a'.add i).add 0 = a'.add i := by simp [Addr.add]
        rw [e0] at this
        rw [this]; rfl
      · exact ⟨0, fun h => absurd h hil⟩
    obtain ⟨F, hk⟩ : ∃ F : Nat → Int, ∀ i, i < len → w.cell? (a'.add i) = some (.int .i64 (F i)) := ⟨fun i => (key i).choose, fun i hi => (key i).choose_spec hi⟩
    refine ⟨F, Nat.le_trans hl hm, fun hp => ?_⟩
    have h0 := hk 0 hp
    rw [show a'.add 0 = a' from by simp [Addr.add]] at h0
    obtain ⟨b, o, s⟩ := a'
    have hs : s = none := by
      cases s with
      | none => rfl
      | some s =>
        simp only [World.cell?] at h0
        split at h0
        · simp at h0
        · cases h0
    subst hs
    have hb : b < w.heap.size := by
      rcases Nat.lt_or_ge b w.heap.size with q | q
      · exact q
      · simp only [World.cell?] at h0
        simp [Array.getElem?_eq_none q] at h0
    refine ⟨b, o, rfl, hb, fun i hi => ?_⟩
    exact (congrArg w.cell? (addr_plus b o i)).symm.trans (hk i hi)
end
/-- A town in new memory, with the lists of who is up. -/
structure TB (W w : World) (n Pt Bb cb Ab Nb : Nat) (U : Nat → Bool) (lv : Value) (N : Nat → NL) (t : Tw) : Prop where
  q : TQ w n Pt (.slice (some ⟨Bb, 0, none⟩) n cb) lv lv N t
  p : Pb w Bb n fun k => (N k).P
  a : Bs w Ab n fun _ => true
  u : Bs w Nb n U
  fb : Bb ∉ ft n Pt lv N
  fa : Ab ∉ ft n Pt lv N
  fu : Nb ∉ ft n Pt lv N
  b : Below W.heap.size W w
  nf : ∀ c ∈ ft n Pt lv N, W.heap.size ≤ c
section
variable {W w w' : World} {n Pt Bb cb Ab Nb i k m : Nat} {U : Nat → Bool} {lv lv' u : Value} {N N' : Nat → NL} {t t' : Tw}
theorem TB.step (h : TB W w n Pt Bb cb Ab Nb U lv N t) (hq : TQ w' n Pt (.slice (some ⟨Bb, 0, none⟩) n cb) lv' lv' N' t') (st : Stp (ft n Pt lv N) (ft n Pt lv' N') w w') (hP : ∀ k, (N' k).P = (N k).P) : TB W w' n Pt Bb cb Ab Nb U lv' N' t' :=
  ⟨hq, by rw [show (fun k => (N' k).P) = fun k => (N k).P from funext hP]; exact h.p.kept st.keep h.fb, h.a.kept st.keep h.fa, h.u.kept st.keep h.fu, fun hm => (st.new _ hm).elim h.fb (fun hh => by have := h.p.lt; omega), fun hm => (st.new _ hm).elim h.fa (fun hh => by have := h.a.lt; omega), fun hm => (st.new _ hm).elim h.fu (fun hh => by have := h.u.lt; omega),
   h.b.trans (st.keep.toBelow h.nf h.b.size), fun c hc => (st.new c hc).elim (h.nf c) (fun hh => Nat.le_trans h.b.size hh)⟩
theorem TB.drewN (h : TB W w n Pt Bb cb Ab Nb U lv N t) (j : Nat) : TB W (w.drewN j) n Pt Bb cb Ab Nb U lv N t := h.step (h.q.drewN j) ((Stp.refl _ _).drewN j) (fun _ => rfl)
theorem TB.up (h : TB W w n Pt Bb cb Ab Nb U lv N t) {V : Nat → Bool} (hV : Bs w Nb n V) : TB W w n Pt Bb cb Ab Nb V lv N t := ⟨h.q, h.p, h.a, hV, h.fb, h.fa, h.fu, h.b, h.nf⟩
theorem TB.gatherA {cu : Nat} (h : TB W w n Pt Bb cb Ab Nb U lv N t) (hg : G n (fun _ => true) t []) (hT : t.T + n ≤ 1000000) (hpa : PA i m n t) (hm : m ≤ 900000) (hl : t.l.length + wsum t n ≤ 90000000) (hn : n ≤ 5) :
    Calls Try.prog 25 #[ptr Pt, .slice (some ⟨Ab, 0, none⟩) n cu] w fun e w' => e = .returned (.tuple #[]) ∧ ∃ lv' N', TB W w' n Pt Bb cb Ab Nb U lv' N' (gath n (fun _ => true) t) ∧ ∀ k, (N' k).P = (N k).P :=
  (gather_any (cu := cu) h.q h.p h.fb h.a h.fa hg hT hpa hm hl hn).mono fun _ _ ⟨he, lv', N', q, st, hP⟩ => ⟨he, lv', N', h.step q st hP, hP⟩
theorem TB.gatherU {cu : Nat} (h : TB W w n Pt Bb cb Ab Nb U lv N t) (hg : G n U t []) (hT : t.T + n ≤ 1000000) (hpa : PA i m n t) (hm : m ≤ 900000) (hl : t.l.length + wsum t n ≤ 90000000) (hn : n ≤ 5) :
    Calls Try.prog 25 #[ptr Pt, .slice (some ⟨Nb, 0, none⟩) n cu] w fun e w' => e = .returned (.tuple #[]) ∧ ∃ lv' N', TB W w' n Pt Bb cb Ab Nb U lv' N' (gath n U t) ∧ ∀ k, (N' k).P = (N k).P :=
  (gather_any (cu := cu) h.q h.p h.fb h.u h.fu hg hT hpa hm hl hn).mono fun _ _ ⟨he, lv', N', q, st, hP⟩ => ⟨he, lv', N', h.step q st hP, hP⟩
theorem TB.deliver {cu : Nat} (h : TB W w n Pt Bb cb Ab Nb U lv N t) (hg : G n U t []) (hrb : Rb n t) (hT : t.T + 200 ≤ 1000000) (hpa : PA i 0 n t) (hbl : Bl n U 0 t) (hn : n ≤ 5) :
    Calls Try.prog 26 #[ptr Pt, .slice (some ⟨Nb, 0, none⟩) n cu] w fun e w' => e = .returned (.tuple #[]) ∧ ∃ lv' N', TB W w' n Pt Bb cb Ab Nb U lv' N' (dlv n U 20 t) ∧ ∀ k, (N' k).P = (N k).P :=
  (deliver_any (cu := cu) h.q h.p h.fb h.u h.fu hg hrb hT hpa hbl hn).mono fun _ _ ⟨he, lv', N', q, st, hP⟩ => ⟨he, lv', N', h.step q st hP, hP⟩
theorem TB.over (h : TB W w n Pt Bb cb Ab Nb U lv N t) (hk : k < n) (T : Int) : Calls Try.prog 17 #[ptr (N k).P, .int .i64 T] w fun e w' => e = .returned (.tuple #[]) ∧ ∃ u, TB W w' n Pt Bb cb Ab Nb U lv (nset N k u) (t.set k ((t.b k).over T)) :=
  (h.q.over hk T).mono fun _ _ ⟨he, u, q, st⟩ => ⟨he, u, h.step q st (nset_P N k u)⟩
theorem TB.tick (h : TB W w n Pt Bb cb Ab Nb U lv N t) (hk : k < n) (q : PI i m n (t.b k)) (hi : i ≤ 800000) (hm : m ≤ 1000000) : Calls Try.prog 8 #[ptr (N k).P] w fun e w' => e = .returned (.tuple #[]) ∧ ∃ u, TB W w' n Pt Bb cb Ab Nb U lv (nset N k u) (t.set k ((t.b k).tick n)) :=
  (h.q.tick hk q hi hm).mono fun _ _ ⟨he, u, q, st⟩ => ⟨he, u, h.step q st (nset_P N k u)⟩
theorem TB.take (h : TB W w n Pt Bb cb Ab Nb U lv N t) (hk : k < n) (q : PI i m n (t.b k)) (hm : m ≤ 1000000) (kk f to_ x c : Int) (hc : checkE (t.b k).x.n (t.b k).x.self ⟨kk, f, to_, x⟩ = c) : Calls Try.prog 10 #[ptr (N k).P, .agg #[.int .i64 kk, .int .i64 f, .int .i64 to_, .int .i64 x]] w fun e w' => e = .returned (.int .i64 c) ∧ ∃ u, TB W w' n Pt Bb cb Ab Nb U lv (nset N k u) (t.set k ((t.b k).take ⟨kk, f, to_, x⟩)) :=
  (h.q.take hk q hm kk f to_ x c hc).mono fun _ _ ⟨he, u, q, st⟩ => ⟨he, u, h.step q st (nset_P N k u)⟩
theorem TB.state (h : TB W w n Pt Bb cb Ab Nb U lv N t) (hk : k < n) (a b c : Int) (ha : (t.b k).x.role = a) (hb : (t.b k).x.lead = b) (hc : (t.b k).x.term = c) : Calls Try.prog 23 #[ptr (N k).P] w fun e w' => e = .returned (.tuple #[.int .i64 a, .int .i64 b, .int .i64 c]) ∧ w' = w.drew :=
  h.q.state hk a b c ha hb hc
/-- All words are lost. -/
theorem TB.lost (h : TB W w n Pt Bb cb Ab Nb U lv N t) : TB W (w.setCell ⟨Pt, 1, none⟩ (.slice none 0 0)) n Pt Bb cb Ab Nb U (.slice none 0 0) N { t with l := [] } := by
  obtain ⟨q1, st1⟩ := h.q.setL (.slice none 0 0)
  obtain ⟨q2, st2⟩ := q1.drop
  exact h.step q2 (st1.trans st2) (fun _ => rfl)
/-- The first word is lost. -/
theorem TB.first {g off c : Nat} (h : TB W w n Pt Bb cb Ab Nb U (.slice (some ⟨g, off, none⟩) t.l.length c) N t) (hp : 0 < t.l.length) : TB W (w.setCell ⟨Pt, 1, none⟩ (.slice (some ⟨g, off + 4, none⟩) (t.l.length - 1) (c - 1))) n Pt Bb cb Ab Nb U (.slice (some ⟨g, off + 4, none⟩) (t.l.length - 1) (c - 1)) N { t with l := t.l.tail } := by
  obtain ⟨q1, st1⟩ := h.q.setL (.slice (some ⟨g, off + 4, none⟩) (t.l.length - 1) (c - 1))
  have hl := q1.l.tail hp
  obtain ⟨q2, st2⟩ := q1.words (z := .slice (some ⟨g, off + 4, none⟩) (t.l.length - 1) (c - 1)) (Kept.refl _ _) hl (fun b hb => .inl (by simpa [own, Value.ownBlock] using hb))
  exact h.step q2 (st1.trans st2) (fun _ => rfl)
end
/-- A statement that makes two lists of n truth values, in whatever order. -/
inductive IsMk (n : Nat) : Value → Prop
  | mk (B : Nat) : IsMk n (.slice (some ⟨B, 0, none⟩) n n)
structure M2 (W0 : World) (n : Nat) (σ : St) (w : World) : Prop where
  b : Below W0.heap.size W0 w
  v : ∀ i z, i = 1 ∨ i = 3 → σ i = some z → ∃ B, z = .slice (some ⟨B, 0, none⟩) n n ∧ W0.heap.size ≤ B ∧ Row w B (madeCells #[.bool false] n) 4
  d : ∀ B C, σ 1 = some (.slice (some ⟨B, 0, none⟩) n n) → σ 3 = some (.slice (some ⟨C, 0, none⟩) n n) → B ≠ C
section
variable {W0 w : World} {n k i : Nat} {σ : St} {v : Value}
theorem M2.start (W0 : World) (n : Nat) : M2 W0 n (fun _ => none) W0.drew := ⟨(Below.refl _ _).drew, fun _ _ _ h => (by cases h), fun _ _ h => (by cases h)⟩
theorem M2.pure (h : M2 W0 n σ w) (h1 : 1 ≠ k) (h3 : 3 ≠ k) : M2 W0 n (σ.upd k v) w :=
  ⟨h.b, fun i z hi => by
    rcases hi with rfl | rfl
    · rw [upd_ne h1]; exact h.v _ z (.inl rfl)
    · rw [upd_ne h3]; exact h.v _ z (.inr rfl), by rw [upd_ne h1, upd_ne h3]; exact h.d⟩
theorem M2.alloc (h : M2 W0 n σ w) (hi : i = 1 ∨ i = 3) (hk : σ i = none) : M2 W0 n (σ.upd i (.slice (some ⟨w.heap.size, 0, none⟩) n n)) (w.alloc (.cells (madeCells #[.bool false] n) 4)) := by
  have hlt : ∀ j z, j = 1 ∨ j = 3 → σ j = some z → ∃ B, z = .slice (some ⟨B, 0, none⟩) n n ∧ W0.heap.size ≤ B ∧ B < w.heap.size ∧ Row (w.alloc (.cells (madeCells #[.bool false] n) 4)) B (madeCells #[.bool false] n) 4 := by
    intro j z hj hz
    obtain ⟨B, e, hB, hr⟩ := h.v j z hj hz
    exact ⟨B, e, hB, hr.lt, hr.alloc _⟩
  refine ⟨below_of h.b (below_new _ _), fun j z hj hz => ?_, fun B C hB hC => ?_⟩
  · by_cases e : j = i
    · subst e
      rw [upd_eq] at hz
      injection hz with hz
      exact ⟨_, hz.symm, h.b.size, Row.new _ _ _⟩
    · rw [upd_ne e] at hz
      obtain ⟨B, e, hB, -, hr⟩ := hlt j z hj hz
      exact ⟨B, e, hB, hr⟩
  · rcases hi with rfl | rfl
    · rw [upd_eq] at hB
      rw [upd_ne (by omega)] at hC
      obtain ⟨C', e, -, hl, -⟩ := hlt 3 _ (.inr rfl) hC
      cases e
      cases hB
      omega
    · rw [upd_eq] at hC
      rw [upd_ne (by omega)] at hB
      obtain ⟨B', e, -, hl, -⟩ := hlt 1 _ (.inl rfl) hB
      cases e
      cases hC
      omega
end
end Go.Proofs.Ytccmnphjiebiaaa
