/- Somebody leads: the town while it is made. No condition. -/
import Derived.Test.YtccmnphjiebiaaaLb
import Derived.Test.YtccmnphjiebiaaaBorn
namespace Go.Proofs.Ytccmnphjiebiaaa
open Go.RowKit G
set_option linter.unusedVariables false
set_option linter.unusedSimpArgs false
def nnew (N : Nat → NL) (k : Nat) (x : NL) : Nat → NL := fun j => if j = k then x else N j
section
variable {w w' : World} {n Pt k : Nat} {bv cv lv : Value} {N : Nat → NL} {t : Tw} {x : NL}
theorem nnew_same : nnew N k x k = x := by simp [nnew]
theorem nnew_ne {j : Nat} (h : j ≠ k) : nnew N k x j = N j := by simp [nnew, h]
/-- One node more. -/
theorem TQ.born (h : TQ w k Pt bv cv lv N t) (hp : PAt w' x.P x.D x.S x.v (t.b k)) (hb : Below w.heap.size w w') (hx : ∀ c ∈ x.f, w.heap.size ≤ c) :
    TQ w' (k + 1) Pt bv cv lv (nnew N k x) t ∧ ∀ c ∈ ft (k + 1) Pt lv (nnew N k x), c ∈ ft k Pt lv N ∨ w.heap.size ≤ c := by
  have hlt := h.lts
  have hq := h.below hb
  refine ⟨⟨hq.r, fun j hj => ?_, hq.l, fun a b ha hb' hab c hc hm => ?_, fun j hj => ?_, hq.s3⟩, fun c hc => ?_⟩
  · by_cases e : j = k
    · subst e; rw [nnew_same]; exact hp
    · rw [nnew_ne e]; exact hq.nd j (by omega)
  · by_cases ea : a = k
    · subst ea
      rw [nnew_same] at hc
      rw [nnew_ne (Ne.symm hab)] at hm
      have := hx c hc
      have := hlt c (ft_mem.2 (.inr (.inr ⟨b, by omega, hm⟩)))
      omega
    · rw [nnew_ne ea] at hc
      by_cases eb : b = k
      · subst eb
        rw [nnew_same] at hm
        have := hx c hm
        have := hlt c (ft_mem.2 (.inr (.inr ⟨a, by omega, hc⟩)))
        omega
      · rw [nnew_ne eb] at hm
        exact h.s1 a b (by omega) (by omega) hab c hc hm
  · by_cases e : j = k
    · subst e
      rw [nnew_same]
      exact ⟨fun hm => by have := hx _ hm; have := h.r.lt; omega, fun c hc hm => by have := hx _ hm; have := h.l.lts c hc; omega⟩
    · rw [nnew_ne e]; exact h.s2 j (by omega)
  · rcases ft_mem.1 hc with rfl | hc | ⟨j, hj, hc⟩
    · exact .inl (ft_mem.2 (.inl rfl))
    · exact .inl (ft_mem.2 (.inr (.inl hc)))
    · by_cases e : j = k
      · subst e; rw [nnew_same] at hc; exact .inr (hx c hc)
      · rw [nnew_ne e] at hc; exact .inl (ft_mem.2 (.inr (.inr ⟨j, by omega, hc⟩)))
/-- The nodes' list is another one. -/
theorem TQ.setB (h : TQ w n Pt bv cv lv N t) (z : Value) : TQ (w.setCell ⟨Pt, 0, none⟩ z) n Pt z cv lv N t ∧ Kept [Pt] w (w.setCell ⟨Pt, 0, none⟩ z) := by
  have hk : Kept [Pt] w (w.setCell ⟨Pt, 0, none⟩ z) := (Kept.refl [Pt] w).set Pt 0 (.inl (by simp)) _
  refine ⟨⟨(h.r.set 0 _).cast (by simp), fun k hk' => (h.nd k hk').kept hk (fun c hc hm => ?_), h.l.kept hk (fun c hc hm => ?_), h.s1, h.s2, h.s3⟩, hk⟩
  · simp at hm; subst hm; exact (h.s2 k hk').1 hc
  · simp at hm; subst hm; exact h.s3 hc
end
def ptrs (N : Nat → NL) (k : Nat) : List Value := (List.range k).map fun j => ptr (N j).P
/-- The town while it is made: kn nodes, kb of them in the list; ka, ku of the lists of who is up are filled. -/
structure SU (W w : World) (n kn kb ka ku Pt Ab Nb : Nat) (U : Nat → Bool) (bv : Value) (N : Nat → NL) : Prop where
  q : TQ w kn Pt bv (.slice none 0 0) (.slice none 0 0) N (tw0 n)
  o : w.ownsRow 0 23 1 bv kb (ptrs N kb)
  ob : ∀ c ∈ own bv, c ∉ ft kn Pt (.slice none 0 0) N ∧ c ≠ Ab ∧ c ≠ Nb ∧ W.heap.size ≤ c
  a : ∃ cs, Row w Ab cs 4 ∧ cs.size = n ∧ ∀ j, j < ka → cs[j]? = some (.bool true)
  u : ∃ cs, Row w Nb cs 4 ∧ cs.size = n ∧ ∀ j, j < ku → cs[j]? = some (.bool (U j))
  fa : Ab ∉ ft kn Pt (.slice none 0 0) N
  fu : Nb ∉ ft kn Pt (.slice none 0 0) N
  ne : Ab ≠ Nb
  na : W.heap.size ≤ Ab
  nu : W.heap.size ≤ Nb
  b : Below W.heap.size W w
  nf : ∀ c ∈ ft kn Pt (.slice none 0 0) N, W.heap.size ≤ c
section
variable {W w w' : World} {n kn kb ka ku Pt Ab Nb : Nat} {U : Nat → Bool} {bv z : Value} {N : Nat → NL} {x : NL}
theorem SU.keep {F : List Nat} (h : SU W w n kn kb ka ku Pt Ab Nb U bv N) (hk : Kept F w w') (hF : ∀ c ∈ F, W.heap.size ≤ c) (h1 : ∀ c ∈ ft kn Pt (.slice none 0 0) N, c ∉ F) (h2 : ∀ c ∈ own bv, c ∉ F) (h3 : Ab ∉ F) (h4 : Nb ∉ F) : SU W w' n kn kb ka ku Pt Ab Nb U bv N :=
  ⟨h.q.keep hk h1, own_kept h.o hk h2, h.ob, by obtain ⟨cs, a, b⟩ := h.a; exact ⟨cs, a.kept hk h3, b⟩, by obtain ⟨cs, a, b⟩ := h.u; exact ⟨cs, a.kept hk h4, b⟩, h.fa, h.fu, h.ne, h.na, h.nu, h.b.trans (hk.toBelow hF h.b.size), h.nf⟩
theorem SU.below (h : SU W w n kn kb ka ku Pt Ab Nb U bv N) (hb : Below w.heap.size w w') : SU W w' n kn kb ka ku Pt Ab Nb U bv N :=
  h.keep (F := []) (Kept.of_below hb) (fun _ h => by cases h) (fun _ _ h => by cases h) (fun _ _ h => by cases h) (fun h => by cases h) (fun h => by cases h)
theorem SU.born (h : SU W w n kn kb ka ku Pt Ab Nb U bv N) (hkb : kb ≤ kn) (hp : PAt w' x.P x.D x.S x.v (PN.new n kn 2 2)) (hb : Below w.heap.size w w') (hx : ∀ c ∈ x.f, w.heap.size ≤ c) : SU W w' n (kn + 1) kb ka ku Pt Ab Nb U bv (nnew N kn x) := by
  obtain ⟨q, hf⟩ := h.q.born hp hb hx
  have h' := h.below hb
  have hpt : ptrs (nnew N kn x) kb = ptrs N kb := by
    unfold ptrs
    apply List.map_congr_left
    intro j hj
    rw [nnew_ne (by have := List.mem_range.1 hj; omega)]
  have ha : Ab < w.heap.size := by obtain ⟨cs, a, -⟩ := h.a; exact a.lt
  have hu : Nb < w.heap.size := by obtain ⟨cs, a, -⟩ := h.u; exact a.lt
  refine ⟨q, by rw [hpt]; exact h'.o, fun c hc => ?_, h'.a, h'.u, fun hm => (hf _ hm).elim h.fa (fun hh => by omega), fun hm => (hf _ hm).elim h.fu (fun hh => by omega), h.ne, h.na, h.nu, h'.b, fun c hc => (hf c hc).elim (h.nf c) (fun hh => Nat.le_trans h.b.size hh)⟩
  obtain ⟨a, b⟩ := h.ob c hc
  exact ⟨fun hm => (hf _ hm).elim a (fun hh => by have := own_lt h.o c hc; omega), b⟩
/-- One more in the nodes' list. -/
theorem SU.app (h : SU W w n kn kb ka ku Pt Ab Nb U bv N) (hg : w.grownBy w' bv.ownBlock) (ho : w'.ownsRow 0 23 1 z (kb + 1) (ptrs N kb ++ [ptr (N kb).P])) (hn : ∀ c ∈ own z, c ∈ own bv ∨ w.heap.size ≤ c) :
    SU W (w'.setCell ⟨Pt, 0, none⟩ z) n kn (kb + 1) ka ku Pt Ab Nb U z N := by
  have hk : Kept (own bv) w w' := (Kept.refl _ w).grown hg (fun b hb => .inl hb)
  have hpz : Pt ∉ own z := fun hm => (hn _ hm).elim (fun hh => (h.ob _ hh).1 (ft_mem.2 (.inl rfl))) (fun hh => by have := h.q.r.lt; omega)
  obtain ⟨q, hk2⟩ := (h.q.keep hk (fun c hc hm => (h.ob c hm).1 hc)).setB z
  have ha : Ab < w.heap.size := by obtain ⟨cs, a, -⟩ := h.a; exact a.lt
  have hu : Nb < w.heap.size := by obtain ⟨cs, a, -⟩ := h.u; exact a.lt
  have hPA : Pt ≠ Ab := fun e => h.fa (e ▸ ft_mem.2 (.inl rfl))
  have hPU : Pt ≠ Nb := fun e => h.fu (e ▸ ft_mem.2 (.inl rfl))
  have e : ptrs N (kb + 1) = ptrs N kb ++ [ptr (N kb).P] := by unfold ptrs; rw [List.range_succ]; simp
  refine ⟨q, by rw [e]; exact own_set ho Pt 0 hpz z, fun c hc => ?_, ?_, ?_, h.fa, h.fu, h.ne, h.na, h.nu, ?_, h.nf⟩
  · rcases hn c hc with h1 | h1
    · exact h.ob c h1
    · exact ⟨fun hm => by have := h.q.lts c hm; omega, by omega, by omega, Nat.le_trans h.b.size h1⟩
  · obtain ⟨cs, a, b⟩ := h.a
    exact ⟨cs, (a.kept hk (fun hm => (h.ob _ hm).2.1 rfl)).setOther Pt 0 hPA z, b⟩
  · obtain ⟨cs, a, b⟩ := h.u
    exact ⟨cs, (a.kept hk (fun hm => (h.ob _ hm).2.2.1 rfl)).setOther Pt 0 hPU z, b⟩
  · exact (h.b.trans (hk.toBelow (fun c hc => (h.ob c hc).2.2.2) h.b.size)).trans (hk2.toBelow (fun c hc => by simp at hc; rw [hc]; exact h.nf _ (ft_mem.2 (.inl rfl))) (Nat.le_trans h.b.size hk.size))
theorem SU.setA (h : SU W w n kn kb ka ku Pt Ab Nb U bv N) (hk : ka < n) : SU W (w.setCell ⟨Ab, ka, none⟩ (.bool true)) n kn kb (ka + 1) ku Pt Ab Nb U bv N := by
  have hs : Kept [Ab] w (w.setCell ⟨Ab, ka, none⟩ (.bool true)) := (Kept.refl [Ab] w).set Ab ka (.inl (by simp)) _
  have h' : SU W (w.setCell ⟨Ab, ka, none⟩ (.bool true)) n kn kb 0 ku Pt Ab Nb U bv N := by
    refine ⟨h.q.keep hs (fun c hc hm => by simp at hm; subst hm; exact h.fa hc), own_kept h.o hs (fun c hc hm => by simp at hm; exact (h.ob c hc).2.1 hm), h.ob, ?_, ?_, h.fa, h.fu, h.ne, h.na, h.nu, h.b.trans (hs.toBelow (fun c hc => by simp at hc; rw [hc]; exact h.na) h.b.size), h.nf⟩
    · obtain ⟨cs, a, b, c⟩ := h.a
      exact ⟨_, a.set ka _, by simpa using b, fun j hj => by omega⟩
    · obtain ⟨cs, a, b⟩ := h.u
      exact ⟨cs, a.setOther Ab ka h.ne _, b⟩
  refine ⟨h'.q, h'.o, h'.ob, ?_, h'.u, h'.fa, h'.fu, h'.ne, h'.na, h'.nu, h'.b, h'.nf⟩
  obtain ⟨cs, a, b, c⟩ := h.a
  refine ⟨_, a.set ka _, by simpa using b, fun j hj => ?_⟩
  rw [Array.getElem?_setIfInBounds]
  by_cases e : ka = j
  · subst e; rw [if_pos rfl, if_pos (by omega)]
  · rw [if_neg e]; exact c j (by omega)
theorem SU.setU (h : SU W w n kn kb ka ku Pt Ab Nb U bv N) (hk : ku < n) {b : Bool} (hb : U ku = b) : SU W (w.setCell ⟨Nb, ku, none⟩ (.bool b)) n kn kb ka (ku + 1) Pt Ab Nb U bv N := by
  have hs : Kept [Nb] w (w.setCell ⟨Nb, ku, none⟩ (.bool b)) := (Kept.refl [Nb] w).set Nb ku (.inl (by simp)) _
  refine ⟨h.q.keep hs (fun c hc hm => by simp at hm; subst hm; exact h.fu hc), own_kept h.o hs (fun c hc hm => by simp at hm; exact (h.ob c hc).2.2.1 hm), h.ob, ?_, ?_, h.fa, h.fu, h.ne, h.na, h.nu, h.b.trans (hs.toBelow (fun c hc => by simp at hc; rw [hc]; exact h.nu) h.b.size), h.nf⟩
  · obtain ⟨cs, a, b⟩ := h.a
    exact ⟨cs, a.setOther Nb ku (Ne.symm h.ne) _, b⟩
  · obtain ⟨cs, a, b', c⟩ := h.u
    refine ⟨_, a.set ku _, by simpa using b', fun j hj => ?_⟩
    rw [Array.getElem?_setIfInBounds]
    by_cases e : ku = j
    · subst e; rw [if_pos rfl, if_pos (by omega), hb]
    · rw [if_neg e]; exact c j (by omega)
/-- The first one is up in any case. -/
theorem SU.first (h : SU W w n kn kb ka n Pt Ab Nb U bv N) (hn : 0 < n) : SU W (w.setCell ⟨Nb, 0, none⟩ (.bool true)) n kn kb ka n Pt Ab Nb (fun j => decide (j = 0) || U j) bv N := by
  have hs : Kept [Nb] w (w.setCell ⟨Nb, 0, none⟩ (.bool true)) := (Kept.refl [Nb] w).set Nb 0 (.inl (by simp)) _
  refine ⟨h.q.keep hs (fun c hc hm => by simp at hm; subst hm; exact h.fu hc), own_kept h.o hs (fun c hc hm => by simp at hm; exact (h.ob c hc).2.2.1 hm), h.ob, ?_, ?_, h.fa, h.fu, h.ne, h.na, h.nu, h.b.trans (hs.toBelow (fun c hc => by simp at hc; rw [hc]; exact h.nu) h.b.size), h.nf⟩
  · obtain ⟨cs, a, b⟩ := h.a
    exact ⟨cs, a.setOther Nb 0 (Ne.symm h.ne) _, b⟩
  · obtain ⟨cs, a, b', c⟩ := h.u
    refine ⟨_, a.set 0 _, by simpa using b', fun j hj => ?_⟩
    rw [Array.getElem?_setIfInBounds]
    by_cases e : 0 = j
    · subst e; rw [if_pos rfl, if_pos (by omega)]; simp
    · rw [if_neg e, c j hj]; simp; omega
/-- The town is made. -/
theorem SU.done (h : SU W w n n n n n Pt Ab Nb U bv N) (hn : 0 < n) : ∃ Bb cb, bv = .slice (some ⟨Bb, 0, none⟩) n cb ∧ TB W w n Pt Bb cb Ab Nb U (.slice none 0 0) N (tw0 n) := by
  obtain ⟨Bb, cb, e, hlt⟩ : ∃ Bb cb, bv = .slice (some ⟨Bb, 0, none⟩) n cb ∧ Bb < w.heap.size := by
    rcases h.o.2 with ⟨_, h0⟩ | ⟨g, cap, cur, hv, -, hg, -⟩
    · omega
    · exact ⟨g, cap, hv, (Array.getElem?_eq_some_iff.1 hg).1⟩
  subst e
  have hcell : ∀ k, k < n → w.cell? ⟨Bb, k, none⟩ = some (ptr (N k).P) := fun k hk => by
    have := World.ownsRow.cells h.o (g := Bb) rfl k (ptr (N k).P) (by unfold ptrs; simp [hk])
    rw [addr_plus, Nat.zero_add] at this
    exact this
  have hB : Bb ∈ own (.slice (some ⟨Bb, 0, none⟩) n cb) := by simp [own, Value.ownBlock]
  refine ⟨Bb, cb, rfl, h.q, ⟨hlt, hcell⟩, ?_, ?_, (h.ob Bb hB).1, h.fa, h.fu, h.b, h.nf⟩
  · obtain ⟨cs, a, b, c⟩ := h.a
    exact ⟨a.lt, fun k hk => a.cell k _ (c k hk)⟩
  · obtain ⟨cs, a, b, c⟩ := h.u
    exact ⟨a.lt, fun k hk => a.cell k _ (c k hk)⟩
end
/-- The ticks of a round, as far as j. -/
def tickJ (n : Nat) (U : Nat → Bool) (t : Tw) (j : Nat) : Tw := { t with b := fun k => if k < j ∧ U k = true then ((t.b k).over t.T).tick n else t.b k }
theorem tickJ_zero {n : Nat} {U : Nat → Bool} {t : Tw} : tickJ n U t 0 = t := by
  obtain ⟨b, l, T⟩ := t
  unfold tickJ
  congr 1
theorem tickJ_all {n : Nat} {U : Nat → Bool} {t : Tw} : tickJ n U t n = tickU n U t := rfl
theorem tickJ_b {n j : Nat} {U : Nat → Bool} {t : Tw} : (tickJ n U t j).b j = t.b j := if_neg (by omega)
theorem tickJ_no {n j : Nat} {U : Nat → Bool} {t : Tw} (h : U j = false) : tickJ n U t (j + 1) = tickJ n U t j := by
  unfold tickJ
  congr 1
  funext k
  by_cases e : k = j
  · subst e; rw [if_neg (by rw [h]; simp), if_neg (by omega)]
  · by_cases e2 : k < j ∧ U k = true
    · rw [if_pos e2, if_pos ⟨by omega, e2.2⟩]
    · rw [if_neg e2, if_neg (fun hh => e2 ⟨by omega, hh.2⟩)]
theorem tickJ_yes {n j : Nat} {U : Nat → Bool} {t : Tw} (h : U j = true) : ((tickJ n U t j).set j ((t.b j).over t.T)).set j (((t.b j).over t.T).tick n) = tickJ n U t (j + 1) := by
  unfold tickJ Tw.set
  congr 1
  funext k
  simp only
  by_cases e : k = j
  · subst e; rw [if_pos rfl, if_pos ⟨by omega, h⟩]
  · rw [if_neg e, if_neg e]
    by_cases e2 : k < j ∧ U k = true
    · rw [if_pos e2, if_pos ⟨by omega, e2.2⟩]
    · rw [if_neg e2, if_neg (fun hh => e2 ⟨by omega, hh.2⟩)]
theorem tickJ_pa {n j i : Nat} {U : Nat → Bool} {t : Tw} (h : PA i 0 n t) : PA (i + 1) 16 n (tickJ n U t j) := fun k hk => by
  unfold tickJ
  simp only
  split
  · exact ((h k hk).over _).tick
  · exact (h k hk).more (by omega) (by omega)
theorem made_bools (n : Nat) : (madeCells #[Value.bool false] n).size = n := by simp [madeCells]
theorem info4 : (Try.prog.info? 4).map (fun i => (i.zero, i.size, i.bytes)) = some (some (.bool false), 1, 1) := by kernel_rfl
theorem info23 : (Try.prog.info? 23).map (fun i => (i.zero, i.size, i.bytes)) = some (some (.pointer none), 1, 8) := by kernel_rfl
end Go.Proofs.Ytccmnphjiebiaaa
