/- A town in memory: one node's steps, the log's term, the words on their way. Condition: the bounds of PI. -/
import Derived.Test.YtccmnphjiebiaaaMem
import Derived.Test.YtccmnphjiebiaaaFam3
namespace Go.Proofs.Ytccmnphjiebiaaa
open Go.RowKit G
set_option linter.unusedVariables false
set_option linter.unusedSimpArgs false
structure NL where
  P : Nat
  D : Nat
  S : Nat
  v : Value
def NL.f (x : NL) : List Nat := fp x.P x.D x.S x.v
def nset (N : Nat → NL) (k : Nat) (u : Value) : Nat → NL := fun j => if j = k then { N k with v := u } else N j
theorem nset_same (N : Nat → NL) (k : Nat) (u : Value) : nset N k u k = { N k with v := u } := by simp [nset]
theorem nset_ne (N : Nat → NL) {j k : Nat} (u : Value) (h : j ≠ k) : nset N k u j = N j := by simp [nset, h]
theorem nset_P (N : Nat → NL) (k : Nat) (u : Value) (j : Nat) : (nset N k u j).P = (N j).P := by
  by_cases e : j = k
  · subst e; rw [nset_same]
  · rw [nset_ne _ _ e]
/-- A town: its own cells (cv: the words' cell), its nodes, its words (lv). -/
structure TQ (w : World) (n Pt : Nat) (bv cv lv : Value) (N : Nat → NL) (t : Tw) : Prop where
  r : Row w Pt #[bv, cv, .int .i64 t.T] 62
  nd : ∀ k, k < n → PAt w (N k).P (N k).D (N k).S (N k).v (t.b k)
  l : RowA w lv t.l
  s1 : ∀ j k, j < n → k < n → j ≠ k → ∀ c ∈ (N j).f, c ∉ (N k).f
  s2 : ∀ k, k < n → Pt ∉ (N k).f ∧ ∀ c ∈ own lv, c ∉ (N k).f
  s3 : Pt ∉ own lv
def ft (n Pt : Nat) (lv : Value) (N : Nat → NL) : List Nat := Pt :: (own lv ++ (List.range n).flatMap fun k => (N k).f)
theorem ft_mem {n Pt c : Nat} {lv : Value} {N : Nat → NL} : c ∈ ft n Pt lv N ↔ c = Pt ∨ c ∈ own lv ∨ ∃ k, k < n ∧ c ∈ (N k).f := by
  unfold ft
  simp
section
variable {w w' : World} {n Pt k i m : Nat} {bv cv lv u : Value} {N : Nat → NL} {t : Tw} {s' : PN}
theorem TQ.lts (h : TQ w n Pt bv cv lv N t) : ∀ c ∈ ft n Pt lv N, c < w.heap.size := by
  intro c hc
  rcases ft_mem.1 hc with rfl | hc | ⟨k, hk, hc⟩
  · exact h.r.lt
  · exact h.l.lts c hc
  · exact (h.nd k hk).lts c hc
theorem TQ.drewN (h : TQ w n Pt bv cv lv N t) (j : Nat) : TQ (w.drewN j) n Pt bv cv lv N t :=
  ⟨h.r.drewN j, fun k hk => (h.nd k hk).kept (Kept.refl [] _ |>.drewN j) (fun _ _ hm => by cases hm), h.l.kept (Kept.refl [] _ |>.drewN j) (fun _ _ hm => by cases hm), h.s1, h.s2, h.s3⟩
theorem TQ.keep {F : List Nat} (h : TQ w n Pt bv cv lv N t) (hk : Kept F w w') (hF : ∀ c ∈ ft n Pt lv N, c ∉ F) : TQ w' n Pt bv cv lv N t :=
  ⟨h.r.kept hk (hF _ (ft_mem.2 (.inl rfl))), fun k hk' => (h.nd k hk').kept hk (fun c hc => hF c (ft_mem.2 (.inr (.inr ⟨k, hk', hc⟩)))), h.l.kept hk (fun c hc => hF c (ft_mem.2 (.inr (.inl hc)))), h.s1, h.s2, h.s3⟩
theorem TQ.below (h : TQ w n Pt bv cv lv N t) (hb : Below w.heap.size w w') : TQ w' n Pt bv cv lv N t := h.keep (Kept.of_below (F := []) hb) (fun _ _ hm => by cases hm)
/-- One node goes on. -/
theorem TQ.step (h : TQ w n Pt bv cv lv N t) (hk : k < n) (hp : PAt w' (N k).P (N k).D (N k).S u s') (st : Stp (N k).f (fp (N k).P (N k).D (N k).S u) w w') :
    TQ w' n Pt bv cv lv (nset N k u) (t.set k s') ∧ Stp (ft n Pt lv N) (ft n Pt lv (nset N k u)) w w' := by
  have hsz := st.keep.size
  have hf : (nset N k u k).f = fp (N k).P (N k).D (N k).S u := by rw [nset_same]; rfl
  refine ⟨⟨h.r.kept st.keep (h.s2 k hk).1, fun j hj => ?_, h.l.kept st.keep (h.s2 k hk).2, fun a b ha hb hab c hc => ?_, fun j hj => ?_, h.s3⟩, st.keep.more (fun c hc => ft_mem.2 (.inr (.inr ⟨k, hk, hc⟩))), fun c hc => ?_⟩
  · by_cases e : j = k
    · subst e
      rw [nset_same, Tw.set_same]
      exact hp
    · rw [nset_ne _ _ e, Tw.set_ne _ _ e]
      exact (h.nd j hj).kept st.keep (h.s1 j k hj hk e)
  · by_cases ea : a = k
    · subst ea
      rw [hf] at hc
      rw [nset_ne _ _ (Ne.symm hab)]
      rcases st.new c hc with h1 | h1
      · exact h.s1 a b ha hb hab c h1
      · intro hm
        have := (h.nd b hb).lts c hm
        omega
    · rw [nset_ne _ _ ea] at hc
      by_cases eb : b = k
      · subst eb
        rw [hf]
        intro hm
        rcases st.new c hm with h1 | h1
        · exact h.s1 a b ha hb hab c hc h1
        · have := (h.nd a ha).lts c hc
          omega
      · rw [nset_ne _ _ eb]; exact h.s1 a b ha hb hab c hc
  · by_cases e : j = k
    · subst e
      rw [hf]
      refine ⟨fun hm => ?_, fun c hc hm => ?_⟩
      · rcases st.new _ hm with h1 | h1
        · exact (h.s2 j hj).1 h1
        · have := h.r.lt; omega
      · rcases st.new _ hm with h1 | h1
        · exact (h.s2 j hj).2 c hc h1
        · have := h.l.lts c hc; omega
    · rw [nset_ne _ _ e]; exact h.s2 j hj
  · rcases ft_mem.1 hc with rfl | hc | ⟨j, hj, hc⟩
    · exact .inl (ft_mem.2 (.inl rfl))
    · exact .inl (ft_mem.2 (.inr (.inl hc)))
    · by_cases e : j = k
      · subst e
        rw [hf] at hc
        rcases st.new c hc with h1 | h1
        · exact .inl (ft_mem.2 (.inr (.inr ⟨j, hj, h1⟩)))
        · exact .inr h1
      · rw [nset_ne _ _ e] at hc
        exact .inl (ft_mem.2 (.inr (.inr ⟨j, hj, hc⟩)))
/-- The log's term is another one. -/
theorem TQ.setT (h : TQ w n Pt bv cv lv N t) (T : Int) : TQ (w.setCell ⟨Pt, 2, none⟩ (.int .i64 T)) n Pt bv cv lv N { t with T := T } ∧ Stp (ft n Pt lv N) (ft n Pt lv N) w (w.setCell ⟨Pt, 2, none⟩ (.int .i64 T)) := by
  have hk : Kept [Pt] w (w.setCell ⟨Pt, 2, none⟩ (.int .i64 T)) := (Kept.refl [Pt] w).set Pt 2 (.inl (by simp)) _
  refine ⟨⟨(h.r.set 2 _).cast (by simp), fun k hk' => (h.nd k hk').kept hk (fun c hc hm => ?_), h.l.kept hk (fun c hc hm => ?_), h.s1, h.s2, h.s3⟩, Stp.same (hk.more (fun c hc => ft_mem.2 (.inl (by simpa using hc))))⟩
  · simp at hm; subst hm; exact (h.s2 k hk').1 hc
  · simp at hm; subst hm; exact h.s3 hc
/-- The words' cell is another one. -/
theorem TQ.setL (h : TQ w n Pt bv cv lv N t) (z : Value) : TQ (w.setCell ⟨Pt, 1, none⟩ z) n Pt bv z lv N t ∧ Stp (ft n Pt lv N) (ft n Pt lv N) w (w.setCell ⟨Pt, 1, none⟩ z) := by
  have hk : Kept [Pt] w (w.setCell ⟨Pt, 1, none⟩ z) := (Kept.refl [Pt] w).set Pt 1 (.inl (by simp)) _
  refine ⟨⟨(h.r.set 1 _).cast (by simp), fun k hk' => (h.nd k hk').kept hk (fun c hc hm => ?_), h.l.kept hk (fun c hc hm => ?_), h.s1, h.s2, h.s3⟩, Stp.same (hk.more (fun c hc => ft_mem.2 (.inl (by simpa using hc))))⟩
  · simp at hm; subst hm; exact (h.s2 k hk').1 hc
  · simp at hm; subst hm; exact h.s3 hc
/-- The words are others, in the old row or in a new one. -/
theorem TQ.words (h : TQ w n Pt bv cv lv N t) {z : Value} {l : List Wd} (hk : Kept (own lv) w w') (hl : RowA w' z l) (hn : ∀ b ∈ own z, b ∈ own lv ∨ w.heap.size ≤ b) : TQ w' n Pt bv cv z N { t with l := l } ∧ Stp (ft n Pt lv N) (ft n Pt z N) w w' := by
  refine ⟨⟨h.r.kept hk h.s3, fun k hk' => (h.nd k hk').kept hk (fun c hc hm => (h.s2 k hk').2 c hm hc), hl, h.s1, fun k hk' => ⟨(h.s2 k hk').1, fun c hc hm => ?_⟩, fun hm => ?_⟩, hk.more (fun c hc => ft_mem.2 (.inr (.inl hc))), fun c hc => ?_⟩
  · rcases hn c hc with h1 | h1
    · exact (h.s2 k hk').2 c h1 hm
    · have := (h.nd k hk').lts c hm; omega
  · rcases hn _ hm with h1 | h1
    · exact h.s3 h1
    · have := h.r.lt; omega
  · rcases ft_mem.1 hc with rfl | hc | ⟨j, hj, hc⟩
    · exact .inl (ft_mem.2 (.inl rfl))
    · exact (hn c hc).imp (fun h1 => ft_mem.2 (.inr (.inl h1))) id
    · exact .inl (ft_mem.2 (.inr (.inr ⟨j, hj, hc⟩)))
theorem TQ.claim (h : TQ w n Pt bv cv lv N t) (hk : k < n) (q : PI i m n (t.b k)) (hm : m ≤ 1000000) (T : Int) (o : Bool) (c : Int) (hc : (t.b k).x.claimE T = c) : Calls Try.prog 19 #[ptr (N k).P, .int .i64 T, .bool o] w fun e w' => e = .returned (.int .i64 c) ∧ ∃ u, TQ w' n Pt bv cv lv (nset N k u) (t.set k ((t.b k).claim T o n)) ∧ Stp (ft n Pt lv N) (ft n Pt lv (nset N k u)) w w' :=
  (pclaim (h.nd k hk) q.bd.xn q.n8 (by have := q.bd.wl; omega) T o).mono fun _ _ ⟨he, u, hp, st⟩ => ⟨hc ▸ he, u, h.step hk hp st⟩
theorem TQ.over (h : TQ w n Pt bv cv lv N t) (hk : k < n) (T : Int) : Calls Try.prog 17 #[ptr (N k).P, .int .i64 T] w fun e w' => e = .returned (.tuple #[]) ∧ ∃ u, TQ w' n Pt bv cv lv (nset N k u) (t.set k ((t.b k).over T)) ∧ Stp (ft n Pt lv N) (ft n Pt lv (nset N k u)) w w' :=
  (pover (h.nd k hk) T).mono fun _ _ ⟨he, u, hp, st⟩ => ⟨he, u, h.step hk hp st⟩
theorem TQ.tick (h : TQ w n Pt bv cv lv N t) (hk : k < n) (q : PI i m n (t.b k)) (hi : i ≤ 800000) (hm : m ≤ 1000000) : Calls Try.prog 8 #[ptr (N k).P] w fun e w' => e = .returned (.tuple #[]) ∧ ∃ u, TQ w' n Pt bv cv lv (nset N k u) (t.set k ((t.b k).tick n)) ∧ Stp (ft n Pt lv N) (ft n Pt lv (nset N k u)) w w' :=
  (ntick_any (h.nd k hk) q.bd.xn (q.xb.small q.l1) (by have := q.f0; omega) (by have := q.f1; omega) q.tk.1 (by have := q.tk.2; omega) q.bd.w0 q.bd.w1 q.bd.s0 q.bd.s1 q.n8 (by have := q.bd.wl; omega)).mono fun _ _ ⟨he, u, hp, st⟩ => ⟨he, u, h.step hk hp st⟩
theorem TQ.take (h : TQ w n Pt bv cv lv N t) (hk : k < n) (q : PI i m n (t.b k)) (hm : m ≤ 1000000) (kk f to_ x c : Int) (hc : checkE (t.b k).x.n (t.b k).x.self ⟨kk, f, to_, x⟩ = c) : Calls Try.prog 10 #[ptr (N k).P, .agg #[.int .i64 kk, .int .i64 f, .int .i64 to_, .int .i64 x]] w fun e w' => e = .returned (.int .i64 c) ∧ ∃ u, TQ w' n Pt bv cv lv (nset N k u) (t.set k ((t.b k).take ⟨kk, f, to_, x⟩)) ∧ Stp (ft n Pt lv N) (ft n Pt lv (nset N k u)) w w' :=
  (ntake_any (h.nd k hk) q.bd.xn ⟨kk, f, to_, x⟩ q.bd.s0 q.bd.s1 q.n8 (by have := q.bd.wl; omega)).mono fun _ _ ⟨he, u, hp, st⟩ => ⟨hc ▸ he, u, h.step hk hp st⟩
theorem TQ.out (h : TQ w n Pt bv cv lv N t) (hk : k < n) : Calls Try.prog 15 #[ptr (N k).P] w fun e w' => e = .returned (N k).v ∧ TQ w' n Pt bv cv lv (nset N k (.slice none 0 0)) (t.set k (t.b k).out) ∧ Stp (ft n Pt lv N) (ft n Pt lv (nset N k (.slice none 0 0))) w w' ∧ WIn w' (N k).v (t.b k).x.ws :=
  (pout (h.nd k hk)).mono fun _ _ ⟨he, hp, hw, st, hl⟩ => by
    obtain ⟨a, b⟩ := h.step hk hp st
    exact ⟨he, a, b, hw⟩
theorem TQ.wants (h : TQ w n Pt bv cv lv N t) (hk : k < n) (q : PI i m n (t.b k)) (a : Int) (b : Bool) (he : (t.b k).x.wants = (a, b)) : Calls Try.prog 21 #[ptr (N k).P] w fun e w' => e = .returned (.tuple #[.int .i64 a, .bool b]) ∧ w' = w := by
  have := pwants (h.nd k hk) q.bd.t0 (by have := q.bd.t1; omega)
  rw [he] at this
  exact this
theorem TQ.state (h : TQ w n Pt bv cv lv N t) (hk : k < n) (a b c : Int) (ha : (t.b k).x.role = a) (hb : (t.b k).x.lead = b) (hc : (t.b k).x.term = c) : Calls Try.prog 23 #[ptr (N k).P] w fun e w' => e = .returned (.tuple #[.int .i64 a, .int .i64 b, .int .i64 c]) ∧ w' = w.drew := by
  subst ha hb hc
  exact pstate (h.nd k hk)
end
end Go.Proofs.Ytccmnphjiebiaaa
