/- Links: what lies in memory of them, and their small acts. Conditions: they lie whole in memory. -/
import Derived.Test.YtppjjbhbbnnpgaaBase
namespace Go.Proofs.Ytppjjbhbbnnpgaa
open Go.RowKit G
set_option linter.unusedVariables false
set_option linter.unusedSimpArgs false
attribute [local go_sem] upon_value upon_skip upon_enter runAt_run

/-- A letter. -/
structure Lt where
  f : Int
  t : Int
  s : ByteArray
deriving DecidableEq
def lt0 : Lt := ⟨0, 0, ⟨#[]⟩⟩
def ltc (x : Lt) : List Value := [.int .i64 x.f, .int .i64 x.t, .string x.s]
def lts (ls : List Lt) : List Value := ls.flatMap ltc
theorem lts_snoc (ls : List Lt) (x : Lt) : lts (ls ++ [x]) = lts ls ++ ltc x := by simp [lts]
theorem lts_app (a b : List Lt) : lts (a ++ b) = lts a ++ lts b := by simp [lts]
theorem lts_len (ls : List Lt) : (lts ls).length = ls.length * 3 := by
  induction ls with
  | nil => rfl
  | cons x l ih => simp [lts, ltc] at ih ⊢; omega
theorem lts_get (ls : List Lt) (i : Nat) (y : Lt) (h : ls[i]? = some y) (j : Nat) (hj : j < 3) : (lts ls)[i * 3 + j]? = (ltc y)[j]? := by
  induction ls generalizing i with
  | nil => simp at h
  | cons x l ih =>
    have e : lts (x :: l) = ltc x ++ lts l := by simp [lts]
    rw [e]
    cases i with
    | zero =>
      simp at h; subst h
      rw [Nat.zero_mul, Nat.zero_add, List.getElem?_append_left (by simp [ltc]; omega)]
    | succ i =>
      rw [List.getElem?_append_right (by simp [ltc]; omega)]
      have : (i + 1) * 3 + j - (ltc x).length = i * 3 + j := by simp [ltc]; omega
      rw [this]
      exact ih i (by simpa using h)
/-- A row of letters that one owns. -/
abbrev Ls (E : TypeId) (w : World) (v : Value) (ls : List Lt) : Prop := w.ownsRow 0 E 3 v ls.length (lts ls)
theorem addr_add (b o j : Nat) : (⟨b, o, none⟩ : Addr).add j = ⟨b, o + j, none⟩ := by
  by_cases e : j = 0
  · subst e; rfl
  · simp [Addr.add, e]
theorem Ls.read {E : TypeId} {w : World} {g n cap : Nat} {ls : List Lt} (h : Ls E w (.slice (some ⟨g, 0, none⟩) n cap) ls) {i : Nat} {y : Lt} (hy : ls[i]? = some y) :
    w.cell? ⟨g, i * 3, none⟩ = some (.int .i64 y.f) ∧ w.cell? ⟨g, i * 3 + 1, none⟩ = some (.int .i64 y.t) ∧ w.cell? ⟨g, i * 3 + 2, none⟩ = some (.string y.s) := by
  have holds : ∀ j u, (lts ls)[j]? = some u → w.cell? ((⟨g, 0, none⟩ : Addr).add j) = some u := World.ownsRow.cells h (g := g) rfl
  have key : ∀ j u, j < 3 → (ltc y)[j]? = some u → w.cell? ⟨g, i * 3 + j, none⟩ = some u := fun j u hj hu => by
    have := holds (i * 3 + j) u (by rw [lts_get ls i y hy j hj]; exact hu)
    rw [addr_add, Nat.zero_add] at this
    exact this
  exact ⟨key 0 _ (by decide) rfl, key 1 _ (by decide) rfl, key 2 _ (by decide) rfl⟩
theorem Ls.form {E : TypeId} {w : World} {v : Value} {ls : List Lt} (h : Ls E w v ls) : (v = .slice none 0 0 ∧ ls = []) ∨ ∃ g cap, v = .slice (some ⟨g, 0, none⟩) ls.length cap := by
  rcases h.2 with ⟨rfl, hn⟩ | ⟨g, cap, cur, rfl, -⟩
  · exact .inl ⟨rfl, List.eq_nil_of_length_eq_zero hn⟩
  · exact .inr ⟨g, cap, rfl⟩
theorem Ls.len {E : TypeId} {w : World} {v : Value} {ls : List Lt} (h : Ls E w v ls) : ∃ p cap, v = .slice p ls.length cap := by
  rcases h.form with ⟨rfl, rfl⟩ | ⟨g, cap, rfl⟩
  · exact ⟨_, _, rfl⟩
  · exact ⟨_, _, rfl⟩
/-- Links: ends, letters, which are out, how many were lost. -/
structure Wn where
  n : Int
  ls : List Lt
  out : Nat → Nat → Bool
  lost : Int
structure Cs (cs : Array Value) (v : Value) (x : Wn) : Prop where
  size : cs.size = 259
  c0 : cs[0]? = some (.int .i64 x.n)
  c1 : cs[1]? = some v
  co : ∀ f t, f < 16 → t < 16 → cs[2 + f * 16 + t]? = some (.bool (x.out f t))
  cl : cs[258]? = some (.int .i64 x.lost)
structure WAt (T E : TypeId) (w : World) (P : Nat) (v : Value) (x : Wn) : Prop where
  r : ∃ cs, Row w P cs T ∧ Cs cs v x
  s : Ls E w v x.ls
  nP : P ∉ own v
section
variable {T E : TypeId} {w w' : World} {P : Nat} {v v' : Value} {x : Wn}
theorem WAt.c0 (h : WAt T E w P v x) : w.cell? ⟨P, 0, none⟩ = some (.int .i64 x.n) := by obtain ⟨cs, hr, hc⟩ := h.r; exact hr.cell 0 _ hc.c0
theorem WAt.c1 (h : WAt T E w P v x) : w.cell? ⟨P, 1, none⟩ = some v := by obtain ⟨cs, hr, hc⟩ := h.r; exact hr.cell 1 _ hc.c1
theorem WAt.cl (h : WAt T E w P v x) : w.cell? ⟨P, 258, none⟩ = some (.int .i64 x.lost) := by obtain ⟨cs, hr, hc⟩ := h.r; exact hr.cell 258 _ hc.cl
theorem WAt.co (h : WAt T E w P v x) {f t : Nat} (hf : f < 16) (ht : t < 16) : w.cell? ⟨P, 2 + f * 16 + t, none⟩ = some (.bool (x.out f t)) := by obtain ⟨cs, hr, hc⟩ := h.r; exact hr.cell _ _ (hc.co f t hf ht)
theorem WAt.free (h : WAt T E w P v x) : ∀ i, w.frozen? ⟨P, i, none⟩ = false := by obtain ⟨cs, hr, hc⟩ := h.r; exact hr.free
theorem WAt.lt (h : WAt T E w P v x) : P < w.heap.size := by obtain ⟨cs, hr, hc⟩ := h.r; exact hr.lt
def wfp (P : Nat) (v : Value) : List Nat := P :: own v
theorem WAt.lts (h : WAt T E w P v x) : ∀ b ∈ wfp P v, b < w.heap.size := by
  intro b hb
  rcases List.mem_cons.1 hb with rfl | hb
  · exact h.lt
  · exact own_lt h.s b hb
theorem WAt.kept {F : List Nat} (h : WAt T E w P v x) (hk : Kept F w w') (hF : ∀ b ∈ wfp P v, b ∉ F) : WAt T E w' P v x :=
  ⟨by obtain ⟨cs, hr, hc⟩ := h.r; exact ⟨cs, hr.kept hk (hF P (List.mem_cons_self ..)), hc⟩, own_kept h.s hk (fun b hb => hF b (List.mem_cons_of_mem _ hb)), h.nP⟩
theorem WAt.below (h : WAt T E w P v x) (hb : Below w.heap.size w w') : WAt T E w' P v x := h.kept (Kept.of_below (F := []) hb) (fun _ _ hh => (by cases hh))
theorem WAt.drewN (h : WAt T E w P v x) (n : Nat) : WAt T E (w.drewN n) P v x := ⟨by obtain ⟨cs, hr, hc⟩ := h.r; exact ⟨cs, hr.drewN n, hc⟩, h.s, h.nP⟩
theorem get_set (cs : Array Value) (i j : Nat) (u : Value) : (cs.setIfInBounds i u)[j]? = if i = j ∧ j < cs.size then some u else cs[j]? := by
  rw [Array.getElem?_setIfInBounds]
  by_cases h : i = j
  · subst h
    by_cases h2 : i < cs.size
    · simp [h2]
    · simp [h2, Array.getElem?_eq_none (Nat.le_of_not_lt h2)]
  · simp [h]
theorem Cs.setL {cs : Array Value} (h : Cs cs v x) (ls : List Lt) : Cs (cs.setIfInBounds 1 v') v' { x with ls := ls } := by
  have hs := h.size
  refine ⟨by simpa using hs, ?_, ?_, ?_, ?_⟩
  · rw [get_set, if_neg (by omega)]; exact h.c0
  · rw [get_set, if_pos ⟨rfl, by omega⟩]
  · intro f t hf ht; rw [get_set, if_neg (by omega)]; exact h.co f t hf ht
  · rw [get_set, if_neg (by omega)]; exact h.cl
theorem Cs.setC {cs : Array Value} (h : Cs cs v x) (k : Int) : Cs (cs.setIfInBounds 258 (.int .i64 k)) v { x with lost := k } := by
  have hs := h.size
  refine ⟨by simpa using hs, ?_, ?_, ?_, ?_⟩
  · rw [get_set, if_neg (by omega)]; exact h.c0
  · rw [get_set, if_neg (by omega)]; exact h.c1
  · intro f t hf ht; rw [get_set, if_neg (by omega)]; exact h.co f t hf ht
  · rw [get_set, if_pos ⟨rfl, by omega⟩]
def outSet (out : Nat → Nat → Bool) (f t : Nat) (b : Bool) : Nat → Nat → Bool := fun i j => if i = f ∧ j = t then b else out i j
theorem Cs.setO {cs : Array Value} (h : Cs cs v x) {f t : Nat} (hf : f < 16) (ht : t < 16) (b : Bool) : Cs (cs.setIfInBounds (2 + f * 16 + t) (.bool b)) v { x with out := outSet x.out f t b } := by
  have hs := h.size
  refine ⟨by simpa using hs, ?_, ?_, ?_, ?_⟩
  · rw [get_set, if_neg (by omega)]; exact h.c0
  · rw [get_set, if_neg (by omega)]; exact h.c1
  · intro i j hi hj
    rw [get_set]
    show _ = some (Value.bool (if i = f ∧ j = t then b else x.out i j))
    by_cases e : i = f ∧ j = t
    · rw [if_pos (by omega), if_pos e]
    · rw [if_neg (by omega), if_neg e]; exact h.co i j hi hj
  · rw [get_set, if_neg (by omega)]; exact h.cl
theorem WAt.setC (h : WAt T E w P v x) (k : Int) : WAt T E (w.setCell ⟨P, 258, none⟩ (.int .i64 k)) P v { x with lost := k } :=
  ⟨by obtain ⟨cs, hr, hc⟩ := h.r; exact ⟨_, hr.set 258 _, hc.setC k⟩, own_set h.s P 258 h.nP _, h.nP⟩
theorem WAt.setO (h : WAt T E w P v x) {f t : Nat} (hf : f < 16) (ht : t < 16) (b : Bool) : WAt T E (w.setCell ⟨P, 2 + f * 16 + t, none⟩ (.bool b)) P v { x with out := outSet x.out f t b } :=
  ⟨by obtain ⟨cs, hr, hc⟩ := h.r; exact ⟨_, hr.set _ _, hc.setO hf ht b⟩, own_set h.s P _ h.nP _, h.nP⟩
/-- The letters' list is another one now. -/
theorem WAt.setL (h : WAt T E w P v x) (hk : Kept (own v) w w') {ls : List Lt} (hs : Ls E w' v' ls) (hn : ∀ b ∈ own v', b ∈ own v ∨ w.heap.size ≤ b) : WAt T E (w'.setCell ⟨P, 1, none⟩ v') P v' { x with ls := ls } := by
  have hnP : P ∉ own v' := fun hm => (hn P hm).elim h.nP (fun hh => by have := h.lt; omega)
  exact ⟨by obtain ⟨cs, hr, hc⟩ := h.r; exact ⟨_, (hr.kept hk h.nP).set 1 v', hc.setL ls⟩, own_set hs P 1 hnP _, hnP⟩
theorem stpL (h : WAt T E w P v x) (hk : Kept (own v) w w') (hn : ∀ b ∈ own v', b ∈ own v ∨ w.heap.size ≤ b) (u : Value) : Stp (wfp P v) (wfp P v') w (w'.setCell ⟨P, 1, none⟩ u) :=
  ⟨(hk.more (fun b hb => List.mem_cons_of_mem _ hb)).set P 1 (.inl (List.mem_cons_self ..)) u, fun b hb => by
    rcases List.mem_cons.1 hb with rfl | hb
    · exact .inl (List.mem_cons_self ..)
    · exact (hn b hb).imp (fun h1 => List.mem_cons_of_mem _ h1) id⟩
theorem stpC (P : Nat) (v : Value) (w : World) (i : Nat) (u : Value) : Stp (wfp P v) (wfp P v) w (w.setCell ⟨P, i, none⟩ u) := Stp.same ((Kept.refl _ _).set P i (.inl (List.mem_cons_self ..)) u)
end
def linkB (n a b : Int) : Bool := decide (0 ≤ a ∧ a < n ∧ 0 ≤ b ∧ b < n ∧ a ≠ b)
def roomE (ls : List Lt) : Int := if 96 ≤ ls.length then 2 else 0
def atL (ls : List Lt) (i : Int) : Lt := if 0 ≤ i ∧ i < ls.length then ls.getD i.toNat lt0 else lt0
def atE (ls : List Lt) (i : Int) : Int := if 0 ≤ i ∧ i < ls.length then 0 else 1
def Wn.outB (x : Wn) (a b : Int) : Bool := linkB x.n a b && x.out a.toNat b.toNat
set_option maxHeartbeats 2000000 in
theorem link_any {w : World} {P : Nat} {n : Int} (c0 : w.cell? ⟨P, 0, none⟩ = some (.int .i64 n)) (a b : Int) :
    Calls Try.prog 24 #[.pointer (some ⟨P, 0, none⟩), .int .i64 a, .int .i64 b] w fun e w' => e = .returned (.bool (linkB n a b)) ∧ w' = w := by
  have HL := Lib.hid (show ∀ z, decide (0 ≤ a ∧ a < n ∧ 0 ≤ b ∧ b < n ∧ a ≠ b) = z → linkB n a b = z from fun z h => h)
  by_cases g0 : 0 ≤ a
  · by_cases g1 : a < n
    · by_cases g2 : 0 ≤ b
      · by_cases g3 : b < n
        · by_cases g4 : a = b
          · subst g4
            have e := HL.out false (by simp)
            rw [e]
            clear e HL
            go_enter Try.func24, Try.ntmps24
            go_wp2
            go_ret
            exact ⟨rfl, rfl⟩
          · have e := HL.out true (by simp; omega)
            rw [e]
            have g5 : (a != b) = true := by simp [g4]
            clear e HL
            go_enter Try.func24, Try.ntmps24
            go_wp2
            go_ret
            exact ⟨rfl, rfl⟩
        · have e := HL.out false (by simp; omega)
          rw [e]
          clear e HL
          go_enter Try.func24, Try.ntmps24
          go_wp2
          go_ret
          exact ⟨rfl, rfl⟩
      · have e := HL.out false (by simp; omega)
        rw [e]
        clear e HL
        go_enter Try.func24, Try.ntmps24
        go_wp2
        go_ret
        exact ⟨rfl, rfl⟩
    · have e := HL.out false (by simp; omega)
      rw [e]
      clear e HL
      go_enter Try.func24, Try.ntmps24
      go_wp2
      go_ret
      exact ⟨rfl, rfl⟩
  · have e := HL.out false (by simp; omega)
    rw [e]
    clear e HL
    go_enter Try.func24, Try.ntmps24
    go_wp2
    go_ret
    exact ⟨rfl, rfl⟩
set_option maxHeartbeats 2000000 in
theorem rlink_any {w : World} {P : Nat} {n : Int} (c0 : w.cell? ⟨P, 0, none⟩ = some (.int .i64 n)) (a b : Int) :
    Calls Try.prog 26 #[.pointer (some ⟨P, 0, none⟩), .int .i64 a, .int .i64 b] w fun e w' => e = .returned (.bool (linkB n a b)) ∧ w' = w := by
  have HL := Lib.hid (show ∀ z, decide (0 ≤ a ∧ a < n ∧ 0 ≤ b ∧ b < n ∧ a ≠ b) = z → linkB n a b = z from fun z h => h)
  by_cases g0 : 0 ≤ a
  · by_cases g1 : a < n
    · by_cases g2 : 0 ≤ b
      · by_cases g3 : b < n
        · by_cases g4 : a = b
          · subst g4
            have e := HL.out false (by simp)
            rw [e]
            clear e HL
            go_enter Try.func26, Try.ntmps26
            go_wp2
            go_ret
            exact ⟨rfl, rfl⟩
          · have e := HL.out true (by simp; omega)
            rw [e]
            have g5 : (a != b) = true := by simp [g4]
            clear e HL
            go_enter Try.func26, Try.ntmps26
            go_wp2
            go_ret
            exact ⟨rfl, rfl⟩
        · have e := HL.out false (by simp; omega)
          rw [e]
          clear e HL
          go_enter Try.func26, Try.ntmps26
          go_wp2
          go_ret
          exact ⟨rfl, rfl⟩
      · have e := HL.out false (by simp; omega)
        rw [e]
        clear e HL
        go_enter Try.func26, Try.ntmps26
        go_wp2
        go_ret
        exact ⟨rfl, rfl⟩
    · have e := HL.out false (by simp; omega)
      rw [e]
      clear e HL
      go_enter Try.func26, Try.ntmps26
      go_wp2
      go_ret
      exact ⟨rfl, rfl⟩
  · have e := HL.out false (by simp; omega)
    rw [e]
    clear e HL
    go_enter Try.func26, Try.ntmps26
    go_wp2
    go_ret
    exact ⟨rfl, rfl⟩
theorem room_any {w : World} {P : Nat} {p : Option Addr} {n cap : Nat} (c1 : w.cell? ⟨P, 1, none⟩ = some (.slice p n cap)) :
    Calls Try.prog 25 #[.pointer (some ⟨P, 0, none⟩)] w fun e w' => e = .returned (.int .i64 (if 96 ≤ n then 2 else 0)) ∧ w' = w := by
  by_cases h : 96 ≤ n
  · have h2 : 96 ≤ (n : Int) := by omega
    rw [if_pos h]
    clear h
    go_enter Try.func25, Try.ntmps25
    go_wp2
    go_ret
    exact ⟨rfl, rfl⟩
  · have h2 : ¬ 96 ≤ (n : Int) := by omega
    rw [if_neg h]
    clear h
    go_enter Try.func25, Try.ntmps25
    go_wp2
    go_ret
    exact ⟨rfl, rfl⟩
theorem waits_any {w : World} {P : Nat} {p : Option Addr} {n cap : Nat} (c1 : w.cell? ⟨P, 1, none⟩ = some (.slice p n cap)) :
    Calls Try.prog 17 #[.pointer (some ⟨P, 0, none⟩)] w fun e w' => e = .returned (.int .i64 n) ∧ w' = w := by
  go_enter Try.func17, Try.ntmps17
  go_wp2
  go_ret
  exact ⟨rfl, rfl⟩
theorem lost_any {w : World} {P : Nat} {k : Int} (c1 : w.cell? ⟨P, 258, none⟩ = some (.int .i64 k)) :
    Calls Try.prog 18 #[.pointer (some ⟨P, 0, none⟩)] w fun e w' => e = .returned (.int .i64 k) ∧ w' = w := by
  go_enter Try.func18, Try.ntmps18
  go_wp2
  go_ret
  exact ⟨rfl, rfl⟩
set_option maxHeartbeats 2000000 in
theorem out_any {w : World} {P : Nat} {v : Value} {x : Wn} (h : WAt 58 34 w P v x) (hn : x.n ≤ 16) (a b : Int) :
    Calls Try.prog 19 #[.pointer (some ⟨P, 0, none⟩), .int .i64 a, .int .i64 b] w fun e w' => e = .returned (.bool (x.outB a b)) ∧ w' = w := by
  have c0 := h.c0
  cases hl : linkB x.n a b
  · have e : x.outB a b = false := by simp [Wn.outB, hl]
    rw [e]
    have HL := Lib.hid hl
    clear e hl h
    go_enter Try.func19, Try.ntmps19
    go_wp2_with (go_at_call 24; (with_reducible refine (link_any c0 a b).mono ?_); rw [HL.out]; rintro e' w1 ⟨rfl, rfl⟩)
    go_ret
    exact ⟨rfl, rfl⟩
  · have hh : 0 ≤ a ∧ a < x.n ∧ 0 ≤ b ∧ b < x.n ∧ a ≠ b := by simpa [linkB] using hl
    obtain ⟨f, rfl⟩ := Int.eq_ofNat_of_zero_le hh.1
    obtain ⟨t, rfl⟩ := Int.eq_ofNat_of_zero_le hh.2.2.1
    have hf : f < 16 := by omega
    have ht : t < 16 := by omega
    have co := h.co hf ht
    have e : x.outB f t = x.out f t := by simp [Wn.outB, hl]
    rw [e]
    have HL := Lib.hid hl
    have h1 : (f : Int) < 16 := by omega
    have h2 : (t : Int) < 16 := by omega
    generalize x.out f t = o at co
    clear e hl h hh
    go_enter Try.func19, Try.ntmps19
    go_wp2_with (go_at_call 24; (with_reducible refine (link_any c0 f t).mono ?_); rw [HL.out]; rintro e' w1 ⟨rfl, rfl⟩)
    go_ret
    exact ⟨rfl, rfl⟩
set_option maxHeartbeats 2000000 in
theorem at_any {w : World} {P : Nat} {v : Value} {x : Wn} (h : WAt 58 34 w P v x) (hm : x.ls.length ≤ 1000) (i : Int) :
    Calls Try.prog 21 #[.pointer (some ⟨P, 0, none⟩), .int .i64 i] w fun e w' => e = .returned (.tuple #[.agg #[.int .i64 (atL x.ls i).f, .int .i64 (atL x.ls i).t, .string (atL x.ls i).s], .int .i64 (atE x.ls i)]) ∧ Below w.heap.size w w' := by
  have hA := h.below (below_new w (.cells #[.int .i64 0, .int .i64 0, .string ⟨#[]⟩] 34))
  have c1 := hA.c1
  have hs := hA.s
  clear hA
  by_cases h0 : 0 ≤ i
  · obtain ⟨k, rfl⟩ := Int.eq_ofNat_of_zero_le h0
    by_cases h1 : k < x.ls.length
    · rcases hs.form with ⟨-, hn⟩ | ⟨g, cap, rfl⟩
      · rw [hn] at h1; simp at h1
      have ek : x.ls[k]? = some (x.ls[k]) := List.getElem?_eq_getElem h1
      obtain ⟨z0, z1, z2⟩ := hs.read ek
      have e1 : atL x.ls k = x.ls[k] := by simp [atL, h1, ek]
      have e2 : atE x.ls k = 0 := by simp [atE, h1]
      rw [e1, e2]
      generalize x.ls[k] = y at z0 z1 z2
      obtain ⟨f, t, s⟩ := y
      simp only at z0 z1 z2 ⊢
      have h2 : (k : Int) < (x.ls.length : Int) := by omega
      clear ek e1 e2 hs h h0
      generalize x.ls.length = n at c1 h2 hm h1
      clear h1
      go_enter Try.func21, Try.ntmps21
      go_wp2
      refine bodyPost_ret (v := .tuple #[.agg #[.int .i64 f, .int .i64 t, .string s], .int .i64 0]) (by simp [results, Try.results21, go_sem, *]) rfl ⟨rfl, ?_⟩
      exact below_new _ _
    · have e1 : atL x.ls k = lt0 := by simp [atL, h1]
      have e2 : atE x.ls k = 1 := by simp [atE, h1]
      rw [e1, e2]
      obtain ⟨p, cap, rfl⟩ := hs.len
      have h2 : (x.ls.length : Int) ≤ (k : Int) := by omega
      clear e1 e2 hs h h0
      generalize x.ls.length = n at c1 h2 hm h1
      clear h1
      go_enter Try.func21, Try.ntmps21
      go_wp2
      refine bodyPost_ret (v := .tuple #[.agg #[.int .i64 0, .int .i64 0, .string ⟨#[]⟩], .int .i64 1]) (by simp [results, Try.results21, go_sem, *]) rfl ⟨rfl, ?_⟩
      exact below_new _ _
  · have e1 : atL x.ls i = lt0 := by simp [atL, h0]
    have e2 : atE x.ls i = 1 := by simp [atE, h0]
    rw [e1, e2]
    have h2 : i < 0 := by omega
    obtain ⟨p, cap, rfl⟩ := hs.len
    generalize x.ls.length = n at c1 hm
    clear e1 e2 hs h
    go_enter Try.func21, Try.ntmps21
    go_wp2
    refine bodyPost_ret (v := .tuple #[.agg #[.int .i64 0, .int .i64 0, .string ⟨#[]⟩], .int .i64 1]) (by simp [results, Try.results21, go_sem, *]) rfl ⟨rfl, ?_⟩
    exact below_new _ _
set_option maxHeartbeats 2000000 in
theorem rout_any {w : World} {P : Nat} {v : Value} {x : Wn} (h : WAt 49 36 w P v x) (hn : x.n ≤ 16) (a b : Int) :
    Calls Try.prog 20 #[.pointer (some ⟨P, 0, none⟩), .int .i64 a, .int .i64 b] w fun e w' => e = .returned (.bool (x.outB a b)) ∧ w' = w := by
  have c0 := h.c0
  cases hl : linkB x.n a b
  · have e : x.outB a b = false := by simp [Wn.outB, hl]
    rw [e]
    have HL := Lib.hid hl
    clear e hl h
    go_enter Try.func20, Try.ntmps20
    go_wp2_with (go_at_call 26; (with_reducible refine (rlink_any c0 a b).mono ?_); rw [HL.out]; rintro e' w1 ⟨rfl, rfl⟩)
    go_ret
    exact ⟨rfl, rfl⟩
  · have hh : 0 ≤ a ∧ a < x.n ∧ 0 ≤ b ∧ b < x.n ∧ a ≠ b := by simpa [linkB] using hl
    obtain ⟨f, rfl⟩ := Int.eq_ofNat_of_zero_le hh.1
    obtain ⟨t, rfl⟩ := Int.eq_ofNat_of_zero_le hh.2.2.1
    have hf : f < 16 := by omega
    have ht : t < 16 := by omega
    have co := h.co hf ht
    have e : x.outB f t = x.out f t := by simp [Wn.outB, hl]
    rw [e]
    have HL := Lib.hid hl
    have h1 : (f : Int) < 16 := by omega
    have h2 : (t : Int) < 16 := by omega
    generalize x.out f t = o at co
    clear e hl h hh
    go_enter Try.func20, Try.ntmps20
    go_wp2_with (go_at_call 26; (with_reducible refine (rlink_any c0 f t).mono ?_); rw [HL.out]; rintro e' w1 ⟨rfl, rfl⟩)
    go_ret
    exact ⟨rfl, rfl⟩
set_option maxHeartbeats 2000000 in
theorem rat_any {w : World} {P : Nat} {v : Value} {x : Wn} (h : WAt 49 36 w P v x) (hm : x.ls.length ≤ 1000) (i : Int) :
    Calls Try.prog 22 #[.pointer (some ⟨P, 0, none⟩), .int .i64 i] w fun e w' => e = .returned (.tuple #[.agg #[.int .i64 (atL x.ls i).f, .int .i64 (atL x.ls i).t, .string (atL x.ls i).s], .int .i64 (atE x.ls i)]) ∧ Below w.heap.size w w' := by
  have hA := h.below (below_new w (.cells #[.int .i64 0, .int .i64 0, .string ⟨#[]⟩] 36))
  have c1 := hA.c1
  have hs := hA.s
  clear hA
  by_cases h0 : 0 ≤ i
  · obtain ⟨k, rfl⟩ := Int.eq_ofNat_of_zero_le h0
    by_cases h1 : k < x.ls.length
    · rcases hs.form with ⟨-, hn⟩ | ⟨g, cap, rfl⟩
      · rw [hn] at h1; simp at h1
      have ek : x.ls[k]? = some (x.ls[k]) := List.getElem?_eq_getElem h1
      obtain ⟨z0, z1, z2⟩ := hs.read ek
      have e1 : atL x.ls k = x.ls[k] := by simp [atL, h1, ek]
      have e2 : atE x.ls k = 0 := by simp [atE, h1]
      rw [e1, e2]
      generalize x.ls[k] = y at z0 z1 z2
      obtain ⟨f, t, s⟩ := y
      simp only at z0 z1 z2 ⊢
      have h2 : (k : Int) < (x.ls.length : Int) := by omega
      clear ek e1 e2 hs h h0
      generalize x.ls.length = n at c1 h2 hm h1
      clear h1
      go_enter Try.func22, Try.ntmps22
      go_wp2
      refine bodyPost_ret (v := .tuple #[.agg #[.int .i64 f, .int .i64 t, .string s], .int .i64 0]) (by simp [results, Try.results22, go_sem, *]) rfl ⟨rfl, ?_⟩
      exact below_new _ _
    · have e1 : atL x.ls k = lt0 := by simp [atL, h1]
      have e2 : atE x.ls k = 1 := by simp [atE, h1]
      rw [e1, e2]
      obtain ⟨p, cap, rfl⟩ := hs.len
      have h2 : (x.ls.length : Int) ≤ (k : Int) := by omega
      clear e1 e2 hs h h0
      generalize x.ls.length = n at c1 h2 hm h1
      clear h1
      go_enter Try.func22, Try.ntmps22
      go_wp2
      refine bodyPost_ret (v := .tuple #[.agg #[.int .i64 0, .int .i64 0, .string ⟨#[]⟩], .int .i64 1]) (by simp [results, Try.results22, go_sem, *]) rfl ⟨rfl, ?_⟩
      exact below_new _ _
  · have e1 : atL x.ls i = lt0 := by simp [atL, h0]
    have e2 : atE x.ls i = 1 := by simp [atE, h0]
    rw [e1, e2]
    have h2 : i < 0 := by omega
    obtain ⟨p, cap, rfl⟩ := hs.len
    generalize x.ls.length = n at c1 hm
    clear e1 e2 hs h
    go_enter Try.func22, Try.ntmps22
    go_wp2
    refine bodyPost_ret (v := .tuple #[.agg #[.int .i64 0, .int .i64 0, .string ⟨#[]⟩], .int .i64 1]) (by simp [results, Try.results22, go_sem, *]) rfl ⟨rfl, ?_⟩
    exact below_new _ _

end Go.Proofs.Ytppjjbhbbnnpgaa
