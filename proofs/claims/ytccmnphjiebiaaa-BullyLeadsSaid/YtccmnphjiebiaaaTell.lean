/- A node as a whole; telling all others who leads, asking all greater ones. Conditions: the node lies whole in memory, its words in a row of their own. -/
import Derived.Test.YtccmnphjiebiaaaSay
namespace Go.Proofs.Ytccmnphjiebiaaa
open Go.RowKit G
set_option linter.unusedVariables false
set_option linter.unusedSimpArgs false
/-- A node's numbers and words. -/
structure Nd where
  n : Int
  self : Int
  wait : Int
  role : Int
  lead : Int
  term : Int
  ticks : Int
  ws : List Wd
def Nd.row (x : Nd) (h v : Value) : Array Value := #[.int .i64 x.n, .int .i64 x.self, .int .i64 x.wait, .int .i64 x.role, .int .i64 x.lead, .int .i64 x.term, .int .i64 x.ticks, h, v]
/-- A node that lies whole in memory. -/
structure NodeAt (T E : TypeId) (w : World) (P : Nat) (x : Nd) (h v : Value) : Prop where
  r : Row w P (x.row h v) T
  s : Sl E w v x.ws
  nP : P ∉ own v
/-- What a step of a node leaves of all else. -/
structure Mv (P : Nat) (v v' : Value) (w w' : World) : Prop where
  keep : Kept (P :: own v) w w'
  new : ∀ b ∈ own v', b ∈ own v ∨ w.heap.size ≤ b
theorem Mv.refl (P : Nat) (v : Value) (w : World) : Mv P v v w w := ⟨Kept.refl _ _, fun _ h => .inl h⟩
theorem Mv.trans {P : Nat} {a b c : Value} {w0 w1 w2 : World} (h : Mv P a b w0 w1) (k : Mv P b c w1 w2) : Mv P a c w0 w2 :=
  ⟨⟨k.keep.os.trans h.keep.os, k.keep.tape.trans h.keep.tape, k.keep.output.trans h.keep.output, Nat.le_trans h.keep.size k.keep.size, fun i hi hn => by
    rw [k.keep.block i (Nat.lt_of_lt_of_le hi h.keep.size) (fun hm => by
      rcases List.mem_cons.1 hm with rfl | hm
      · exact hn (List.mem_cons_self ..)
      · rcases h.new i hm with h1 | h1
        · exact hn (List.mem_cons_of_mem _ h1)
        · omega)]
    exact h.keep.block i hi hn⟩,
   fun i hi => by
    rcases k.new i hi with h1 | h1
    · exact h.new i h1
    · exact .inr (Nat.le_trans h.keep.size h1)⟩
theorem Mv.drew {P : Nat} {a b : Value} {w0 w1 : World} (h : Mv P a b w0 w1) : Mv P a b w0 w1.drew := ⟨h.keep.drew, h.new⟩
theorem NodeAt.drew {T E : TypeId} {w : World} {P : Nat} {x : Nd} {h v : Value} (k : NodeAt T E w P x h v) : NodeAt T E w.drew P x h v := ⟨k.r.drew, k.s, k.nP⟩
theorem NodeAt.cells {T E : TypeId} {w : World} {P : Nat} {x : Nd} {h v : Value} (k : NodeAt T E w P x h v) :
    w.cell? ⟨P, 0, none⟩ = some (.int .i64 x.n) ∧ w.cell? ⟨P, 1, none⟩ = some (.int .i64 x.self) ∧ w.cell? ⟨P, 2, none⟩ = some (.int .i64 x.wait) ∧ w.cell? ⟨P, 3, none⟩ = some (.int .i64 x.role) ∧
    w.cell? ⟨P, 4, none⟩ = some (.int .i64 x.lead) ∧ w.cell? ⟨P, 5, none⟩ = some (.int .i64 x.term) ∧ w.cell? ⟨P, 6, none⟩ = some (.int .i64 x.ticks) ∧ w.cell? ⟨P, 7, none⟩ = some h ∧ w.cell? ⟨P, 8, none⟩ = some v ∧ (∀ i, w.frozen? ⟨P, i, none⟩ = false) :=
  ⟨k.r.cell 0 _ rfl, k.r.cell 1 _ rfl, k.r.cell 2 _ rfl, k.r.cell 3 _ rfl, k.r.cell 4 _ rfl, k.r.cell 5 _ rfl, k.r.cell 6 _ rfl, k.r.cell 7 _ rfl, k.r.cell 8 _ rfl, k.r.free⟩
def Nd.say (x : Nd) (k t m : Int) : Nd := { x with ws := x.ws ++ [⟨k, x.self, t, m⟩] }
theorem nsay {w : World} {P : Nat} {x : Nd} {h v : Value} (hN : NodeAt 69 35 w P x h v) (k t m : Int) (hl : x.ws.length ≤ 1048576) :
    Calls Try.prog 40 #[.pointer (some ⟨P, 0, none⟩), .int .i64 k, .int .i64 t, .int .i64 m] w fun e w' => e = .returned (.tuple #[]) ∧ ∃ u, NodeAt 69 35 w' P (x.say k t m) h u ∧ Mv P v u w w' :=
  (say_any hN.r hN.s hN.nP hl).mono fun _ _ ⟨he, u, hr, hs, hk, hn⟩ => ⟨he, u, ⟨hr, hs, fun hm => (hn _ hm).elim hN.nP (fun hh => by have := hN.r.lt; omega)⟩, hk, hn⟩
theorem rsay {w : World} {P : Nat} {x : Nd} {h v : Value} (hN : NodeAt 52 31 w P x h v) (k t m : Int) (hl : x.ws.length ≤ 1048576) :
    Calls Try.prog 42 #[.pointer (some ⟨P, 0, none⟩), .int .i64 k, .int .i64 t, .int .i64 m] w fun e w' => e = .returned (.tuple #[]) ∧ ∃ u, NodeAt 52 31 w' P (x.say k t m) h u ∧ Mv P v u w w' :=
  (rsay_any hN.r hN.s hN.nP hl).mono fun _ _ ⟨he, u, hr, hs, hk, hn⟩ => ⟨he, u, ⟨hr, hs, fun hm => (hn _ hm).elim hN.nP (fun hh => by have := hN.r.lt; omega)⟩, hk, hn⟩
/-- Words of Lead to all others below k. -/
def leads (self term : Int) : Nat → List Wd
  | 0 => []
  | k + 1 => if (k : Int) = self then leads self term k else leads self term k ++ [⟨3, self, k, term⟩]
theorem leads_len (self term : Int) : ∀ k, (leads self term k).length ≤ k
  | 0 => Nat.le_refl _
  | k + 1 => by
    have := leads_len self term k
    unfold leads
    split
    · omega
    · simp; omega
def Nd.told (x : Nd) (k : Nat) : Nd := { x with ws := x.ws ++ leads x.self x.term k }
theorem told_zero (x : Nd) : x.told 0 = x := by simp [Nd.told, leads]
theorem told_me (x : Nd) (k : Nat) (h : (k : Int) = x.self) : x.told (k + 1) = x.told k := by simp [Nd.told, leads, h]
theorem told_other (x : Nd) (k : Nat) (h : (k : Int) ≠ x.self) : x.told (k + 1) = (x.told k).say 3 k x.term := by simp [Nd.told, Nd.say, leads, h]
set_option maxHeartbeats 1000000 in
theorem tell_any {w : World} {P : Nat} {n : Nat} {self wait role lead term ticks : Int} {ws : List Wd} {h v : Value} (hN : NodeAt 69 35 w P ⟨n, self, wait, role, lead, term, ticks, ws⟩ h v) (hn : n ≤ 8) (hl : ws.length ≤ 1048500) :
    Calls Try.prog 30 #[.pointer (some ⟨P, 0, none⟩)] w fun e w' => e = .returned (.tuple #[]) ∧ ∃ u, NodeAt 69 35 w' P (Nd.told ⟨n, self, wait, role, lead, term, ticks, ws⟩ n) h u ∧ Mv P v u w w' := by
  obtain ⟨c0, c1, c2, c3, c4, c5, c6, c7, c8, cf⟩ := hN.cells
  go_enter Try.func30, Try.ntmps30
  go_wp2
  clear c0 c1 c2 c3 c4 c5 c6 c7 c8 cf
  go_loopw [2, 7] (fun _ i wr => ∃ k : Nat, k ≤ n ∧ i = .int .i64 k ∧ ∃ u, NodeAt 69 35 wr P (Nd.told ⟨n, self, wait, role, lead, term, ticks, ws⟩ k) h u ∧ Mv P v u w wr) (fun _ i _ => n - (intOf i).toNat)
  case atStart => exact ⟨0, Nat.zero_le _, rfl, v, by rw [told_zero]; exact hN, Mv.refl _ _ _⟩
  case round =>
    obtain ⟨k, hk, rfl, u, hd, hmv⟩ := hrel
    obtain ⟨c0, c1, c2, c3, c4, c5, c6, c7, c8, cf⟩ := hd.cells
    simp only [Nd.told] at c0 c1 c2 c3 c4 c5 c6
    by_cases hlt : k < n
    · by_cases hm : (k : Int) = self
      · have HN := Lib.hid (And.intro hd hmv)
        clear hd hmv
        subst hm
        go_wp2
        go_roundw
        case rel => exact ⟨k + 1, by omega, by go_num, u, by rw [told_me _ _ rfl]; exact HN.out.1, HN.out.2⟩
        case measure => simp [intOf]; omega
      · have HL := Lib.hid (show (Nd.told ⟨n, self, wait, role, lead, term, ticks, ws⟩ k).ws.length ≤ 1048576 by
          have := leads_len self term k
          simp [Nd.told]; omega)
        have HN := Lib.hid (And.intro hd hmv)
        clear hd hmv
        go_wp2_with (go_at_call 40; (with_reducible refine (nsay HN.out.1 3 k term HL.out).mono ?_); rintro e' w1 ⟨rfl, u1, hd1, hmv1⟩)
        go_roundw
        case rel => exact ⟨k + 1, by omega, by go_num, u1, by rw [told_other _ _ hm]; exact hd1, HN.out.2.trans hmv1⟩
        case measure => simp [intOf]; omega
    · obtain rfl : k = n := by omega
      have HN := Lib.hid (And.intro hd hmv)
      clear hd hmv
      go_wp2
      go_end0
      exact ⟨rfl, u, HN.out.1, HN.out.2⟩
set_option maxHeartbeats 1000000 in
theorem rall_any {w : World} {P : Nat} {n : Nat} {self wait role lead term ticks : Int} {ws : List Wd} {h v : Value} (hN : NodeAt 52 31 w P ⟨n, self, wait, role, lead, term, ticks, ws⟩ h v) (hn : n ≤ 8) (hl : ws.length ≤ 1048500) :
    Calls Try.prog 35 #[.pointer (some ⟨P, 0, none⟩)] w fun e w' => e = .returned (.tuple #[]) ∧ ∃ u, NodeAt 52 31 w' P (Nd.told ⟨n, self, wait, role, lead, term, ticks, ws⟩ n) h u ∧ Mv P v u w w' := by
  go_enter Try.func35, Try.ntmps35
  go_wp2
  go_loopw [2] (fun i wr => ∃ k : Nat, k ≤ n ∧ i = .int .i64 k ∧ ∃ u, NodeAt 52 31 wr P (Nd.told ⟨n, self, wait, role, lead, term, ticks, ws⟩ k) h u ∧ Mv P v u w wr) (fun i _ => n - (intOf i).toNat)
  case atStart => exact ⟨0, Nat.zero_le _, rfl, v, by rw [told_zero]; exact hN, Mv.refl _ _ _⟩
  case round =>
    obtain ⟨k, hk, rfl, u, hd, hmv⟩ := hrel
    obtain ⟨c0, c1, c2, c3, c4, c5, c6, c7, c8, cf⟩ := hd.cells
    simp only [Nd.told] at c0 c1 c2 c3 c4 c5 c6
    by_cases hlt : k < n
    · by_cases hm : (k : Int) = self
      · have HN := Lib.hid (And.intro hd hmv)
        clear hd hmv
        subst hm
        go_wp2
        go_roundw
        case rel => exact ⟨k + 1, by omega, by go_num, u, by rw [told_me _ _ rfl]; exact HN.out.1, HN.out.2⟩
        case measure => simp [intOf]; omega
      · have HL := Lib.hid (show (Nd.told ⟨n, self, wait, role, lead, term, ticks, ws⟩ k).ws.length ≤ 1048576 by
          have := leads_len self term k
          simp [Nd.told]; omega)
        have HN := Lib.hid (And.intro hd hmv)
        clear hd hmv
        go_wp2_with (go_at_call 42; (with_reducible refine (rsay HN.out.1 3 k term HL.out).mono ?_); rintro e' w1 ⟨rfl, u1, hd1, hmv1⟩)
        go_roundw
        case rel => exact ⟨k + 1, by omega, by go_num, u1, by rw [told_other _ _ hm]; exact hd1, HN.out.2.trans hmv1⟩
        case measure => simp [intOf]; omega
    · obtain rfl : k = n := by omega
      have HN := Lib.hid (And.intro hd hmv)
      clear hd hmv
      go_wp2
      go_end0
      exact ⟨rfl, u, HN.out.1, HN.out.2⟩
/-- Words of Elect to k others from f on. -/
def elects (self f : Int) : Nat → List Wd
  | 0 => []
  | k + 1 => elects self f k ++ [⟨1, self, f + k, 0⟩]
theorem elects_len (self f : Int) : ∀ k, (elects self f k).length = k
  | 0 => rfl
  | k + 1 => by simp [elects, elects_len self f k]
/-- The node that has asked k others. -/
def Nd.asked (x : Nd) (k : Nat) : Nd := { x with role := 1, ticks := 0, ws := x.ws ++ elects x.self (x.self + 1) k }
def Nd.turn (x : Nd) (r : Int) : Nd := { x with role := r, ticks := 0 }
theorem asked_zero (x : Nd) : x.asked 0 = x.turn 1 := by simp [Nd.asked, Nd.turn, elects]
theorem asked_more (x : Nd) (k : Nat) : x.asked (k + 1) = (x.asked k).say 1 (x.self + 1 + k) 0 := by simp [Nd.asked, Nd.say, elects]
def Nd.ask (x : Nd) : Nd := if x.self = x.n - 1 then x.turn 3 else x.asked (x.n - 1 - x.self).toNat
theorem NodeAt.set6 {T E : TypeId} {w : World} {P : Nat} {x : Nd} {h v : Value} (k : NodeAt T E w P x h v) (r t : Int) : NodeAt T E ((w.setCell ⟨P, 3, none⟩ (.int .i64 r)).setCell ⟨P, 6, none⟩ (.int .i64 t)) P { x with role := r, ticks := t } h v :=
  ⟨((k.r.set 3 _).set 6 _).cast (by simp [Nd.row]), own_set (own_set k.s P 3 k.nP _) P 6 k.nP _, k.nP⟩
theorem nturn {w : World} {P : Nat} {x : Nd} {h v : Value} (hN : NodeAt 69 35 w P x h v) (r : Int) :
    Calls Try.prog 33 #[.pointer (some ⟨P, 0, none⟩), .int .i64 r] w fun e w' => e = .returned (.tuple #[]) ∧ NodeAt 69 35 w' P (x.turn r) h v ∧ Mv P v v w w' :=
  (turn_any hN.r r).mono fun _ _ ⟨he, hr, hk⟩ => ⟨he, ⟨hr, own_kept hN.s hk (fun b hb hm => by simp at hm; subst hm; exact hN.nP hb), hN.nP⟩, hk.more (by simp), fun _ h => .inl h⟩
end Go.Proofs.Ytccmnphjiebiaaa
