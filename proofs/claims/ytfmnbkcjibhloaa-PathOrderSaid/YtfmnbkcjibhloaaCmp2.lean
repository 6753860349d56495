/- Compare of two ways, the program's and the reference's; the law's To. No condition. -/
import Derived.Test.YtfmnbkcjibhloaaCmp
import Derived.Deep.CutBlock
import Derived.BigQuiet
namespace Go.Proofs.Ytfmnbkcjibhloaa
open Go.RowKit
set_option linter.unusedVariables false
set_option linter.unusedSimpArgs false
/-- Two ways, each in a block of its own; old memory as it was. -/
structure W2 (w0 : World) (A B T : Nat) (p q : Pa) (w : World) : Prop where
  a : Row w A #[.int .i64 p.f, .int .i64 p.k, .int .u32 p.a0, .int .u32 p.a1, .int .u32 p.a2, .int .u32 p.a3, .int .i64 p.u, .int .u32 p.l0, .int .u32 p.l1, .int .u32 p.l2] T
  b : Row w B #[.int .i64 q.f, .int .i64 q.k, .int .u32 q.a0, .int .u32 q.a1, .int .u32 q.a2, .int .u32 q.a3, .int .i64 q.u, .int .u32 q.l0, .int .u32 q.l1, .int .u32 q.l2] T
  z : Below w0.heap.size w0 w
abbrev AtP (b : Nat) (p : Pa) (w : World) : Prop := w.cell? ⟨b, 0, none⟩ = some (.int .i64 p.f) ∧ w.cell? ⟨b, 1, none⟩ = some (.int .i64 p.k) ∧ w.cell? ⟨b, 2, none⟩ = some (.int .u32 p.a0) ∧ w.cell? ⟨b, 3, none⟩ = some (.int .u32 p.a1) ∧ w.cell? ⟨b, 4, none⟩ = some (.int .u32 p.a2) ∧ w.cell? ⟨b, 5, none⟩ = some (.int .u32 p.a3) ∧ w.cell? ⟨b, 6, none⟩ = some (.int .i64 p.u) ∧ w.cell? ⟨b, 7, none⟩ = some (.int .u32 p.l0) ∧ w.cell? ⟨b, 8, none⟩ = some (.int .u32 p.l1) ∧ w.cell? ⟨b, 9, none⟩ = some (.int .u32 p.l2) ∧ ∀ i, w.frozen? ⟨b, i, none⟩ = false
theorem Row.atP {w : World} {b T : Nat} {p : Pa} (h : Row w b #[.int .i64 p.f, .int .i64 p.k, .int .u32 p.a0, .int .u32 p.a1, .int .u32 p.a2, .int .u32 p.a3, .int .i64 p.u, .int .u32 p.l0, .int .u32 p.l1, .int .u32 p.l2] T) : AtP b p w := h.ten
abbrev S2 (w0 : World) (A B T : Nat) (p q : Pa) (w : World) : Prop := W2 w0 A B T p q w ∧ AtP A p w ∧ AtP B q w
theorem W2.s {w0 w : World} {A B T : Nat} {p q : Pa} (h : W2 w0 A B T p q w) : S2 w0 A B T p q w := ⟨h, h.a.atP, h.b.atP⟩
theorem W2.below {w0 w w' : World} {A B T : Nat} {p q : Pa} (hb : Below w.heap.size w w') (h : W2 w0 A B T p q w) : W2 w0 A B T p q w' := ⟨h.a.below hb, h.b.below hb, below_of h.z hb⟩
theorem W2.drew {w0 w : World} {A B T : Nat} {p q : Pa} (h : W2 w0 A B T p q w) : W2 w0 A B T p q w.drew := ⟨h.a, h.b, h.z.drew⟩
theorem W2.drewN {w0 w : World} {A B T : Nat} {p q : Pa} (h : W2 w0 A B T p q w) (m : Nat) : W2 w0 A B T p q (w.drewN m) := ⟨h.a, h.b, ⟨h.z.os, h.z.tape, h.z.output, h.z.size, h.z.block⟩⟩
theorem s2_below {w0 w w' : World} {A B T : Nat} {p q : Pa} (hb : Below w.heap.size w w') (h : S2 w0 A B T p q w) : S2 w0 A B T p q w' := (h.1.below hb).s
theorem W2.start (w : World) (T : Nat) (p q : Pa) : W2 w w.heap.size (w.heap.size + 1) T p q ((w.alloc (.cells #[.int .i64 p.f, .int .i64 p.k, .int .u32 p.a0, .int .u32 p.a1, .int .u32 p.a2, .int .u32 p.a3, .int .i64 p.u, .int .u32 p.l0, .int .u32 p.l1, .int .u32 p.l2] T)).alloc (.cells #[.int .i64 q.f, .int .i64 q.k, .int .u32 q.a0, .int .u32 q.a1, .int .u32 q.a2, .int .u32 q.a3, .int .i64 q.u, .int .u32 q.l0, .int .u32 q.l1, .int .u32 q.l2] T)) :=
  ⟨(Row.new w _ T).alloc _, by simpa using Row.new (w.alloc (.cells #[.int .i64 p.f, .int .i64 p.k, .int .u32 p.a0, .int .u32 p.a1, .int .u32 p.a2, .int .u32 p.a3, .int .i64 p.u, .int .u32 p.l0, .int .u32 p.l1, .int .u32 p.l2] T)) #[.int .i64 q.f, .int .i64 q.k, .int .u32 q.a0, .int .u32 q.a1, .int .u32 q.a2, .int .u32 q.a3, .int .i64 q.u, .int .u32 q.l0, .int .u32 q.l1, .int .u32 q.l2] T, below_of (below_new _ _) (below_new _ _)⟩
theorem law_to (p : Pa) (w : World) : Calls Try.prog 23 #[.agg #[.int .i64 p.f, .int .i64 p.k, .int .u32 p.a0, .int .u32 p.a1, .int .u32 p.a2, .int .u32 p.a3, .int .i64 p.u, .int .u32 p.l0, .int .u32 p.l1, .int .u32 p.l2]] w fun e w' => e = .returned (.agg #[.int .i64 p.f, .int .i64 p.k, .int .u32 p.a0, .int .u32 p.a1, .int .u32 p.a2, .int .u32 p.a3, .int .i64 p.u, .int .u32 p.l0, .int .u32 p.l1, .int .u32 p.l2]) ∧ Below w.heap.size w w' := by
  go_enter Try.func23, Try.ntmps23
  go_wp2
  refine bodyPost_ret (v := .agg #[.int .i64 p.f, .int .i64 p.k, .int .u32 p.a0, .int .u32 p.a1, .int .u32 p.a2, .int .u32 p.a3, .int .i64 p.u, .int .u32 p.l0, .int .u32 p.l1, .int .u32 p.l2]) (by simp [results, Try.results23, go_sem]) rfl ⟨rfl, ?_⟩
  repeat (first | exact Below.refl _ _ | refine Below.alloc ?_ (by simp) _)
theorem cmpSA {w0 w : World} {A B T : Nat} {p q : Pa} (h : W2 w0 A B T p q w) : Calls Try.prog 47 #[.slice (some ⟨A, 2, none⟩) 4 4, .slice (some ⟨B, 2, none⟩) 4 4] w fun e w' => e = .returned (.int .i64 (orL (cmpL p.al q.al))) ∧ w = w' :=
  cmpS A 2 B 2 4 4 p.al q.al w rfl (by simp [Pa.al]) (rowA h.a) (rowA h.b)
theorem cmpSL {w0 w : World} {A B T : Nat} {p q : Pa} (h : W2 w0 A B T p q w) : Calls Try.prog 47 #[.slice (some ⟨A, 7, none⟩) 3 3, .slice (some ⟨B, 7, none⟩) 3 3] w fun e w' => e = .returned (.int .i64 (orL (cmpL p.ll q.ll))) ∧ w = w' :=
  cmpS A 7 B 7 3 3 p.ll q.ll w rfl (by simp [Pa.ll]) (rowL h.a) (rowL h.b)
theorem or5_new (w : World) (x1 x2 x3 x4 x5 : Int) : Calls Try.prog 45 #[.slice (some ⟨w.heap.size, 0, none⟩) 5 5] (w.alloc (.cells #[.int .i64 x1, .int .i64 x2, .int .i64 x3, .int .i64 x4, .int .i64 x5] 3)).drew fun e w' => e = .returned (.int .i64 (orL [x1, x2, x3, x4, x5])) ∧ (w.alloc (.cells #[.int .i64 x1, .int .i64 x2, .int .i64 x3, .int .i64 x4, .int .i64 x5] 3)).drew = w' :=
  or45 w.heap.size 5 [x1, x2, x3, x4, x5] _ (by simp) (fun i x hi => (Row.new w _ 3).drew.cell i _ (by
    rcases i with _ | _ | _ | _ | _ | i
    · cases hi; rfl
    · cases hi; rfl
    · cases hi; rfl
    · cases hi; rfl
    · cases hi; rfl
    · cases hi))
set_option maxHeartbeats 4000000 in
theorem compare_any (p q : Pa) (w : World) : Calls Try.prog 31 #[.agg #[.int .i64 p.f, .int .i64 p.k, .int .u32 p.a0, .int .u32 p.a1, .int .u32 p.a2, .int .u32 p.a3, .int .i64 p.u, .int .u32 p.l0, .int .u32 p.l1, .int .u32 p.l2], .agg #[.int .i64 q.f, .int .i64 q.k, .int .u32 q.a0, .int .u32 q.a1, .int .u32 q.a2, .int .u32 q.a3, .int .i64 q.u, .int .u32 q.l0, .int .u32 q.l1, .int .u32 q.l2]] w fun e w' => e = .returned (.int .i64 (compareR p q)) ∧ Below w.heap.size w w' := by
  rw [compare_parts]
  obtain ⟨c1, h1⟩ : ∃ c, cmpI p.f q.f = c := ⟨_, rfl⟩
  obtain ⟨c2, h2⟩ : ∃ c, cmpI p.k q.k = c := ⟨_, rfl⟩
  obtain ⟨c3, h3⟩ : ∃ c, orL (cmpL p.al q.al) = c := ⟨_, rfl⟩
  obtain ⟨c4, h4⟩ : ∃ c, cmpI p.u q.u = c := ⟨_, rfl⟩
  obtain ⟨c5, h5⟩ : ∃ c, orL (cmpL p.ll q.ll) = c := ⟨_, rfl⟩
  rw [h1, h2, h3, h4, h5]
  have HH := Lib.hid (And.intro h1 (And.intro h2 (And.intro h3 (And.intro h4 h5))))
  clear h1 h2 h3 h4 h5
  go_enter Try.func31, Try.ntmps31
  go_upto_region 1 with (fail)
  have hw := W2.start w 26 p q
  generalize (w.alloc (.cells #[.int .i64 p.f, .int .i64 p.k, .int .u32 p.a0, .int .u32 p.a1, .int .u32 p.a2, .int .u32 p.a3, .int .i64 p.u, .int .u32 p.l0, .int .u32 p.l1, .int .u32 p.l2] 26)).alloc (.cells #[.int .i64 q.f, .int .i64 q.k, .int .u32 q.a0, .int .u32 q.a1, .int .u32 q.a2, .int .u32 q.a3, .int .i64 q.u, .int .u32 q.l0, .int .u32 q.l1, .int .u32 q.l2] 26) = wc at hw ⊢
  rw [show w.heap.size + 1 = (w.heap.size + 1) from rfl]
  generalize hA : w.heap.size = A at hw ⊢
  generalize hB : A + 1 = B at hw ⊢
  have H := Lib.hid hw.drew.s
  clear hw hB
  go_region_held3 (S2 w A B 26 p q) (first | (with_reducible exact H.out) | (with_reducible assumption) | (with_reducible exact s2_below (below_new _ _) ‹_›))
    (first
      | (go_at_call_of 46 (Value.int IntKind.i64 p.f); (with_reducible refine (cmp46 p.f q.f _).mono ?_); rw [HH.out.1]; rintro e w' ⟨rfl, rfl⟩)
      | (go_at_call_of 46 (Value.int IntKind.i64 p.k); (with_reducible refine (cmp46 p.k q.k _).mono ?_); rw [HH.out.2.1]; rintro e w' ⟨rfl, rfl⟩)
      | (go_at_call_of 46 (Value.int IntKind.i64 p.u); (with_reducible refine (cmp46 p.u q.u _).mono ?_); rw [HH.out.2.2.2.1]; rintro e w' ⟨rfl, rfl⟩)
      | (go_at_call 47; (with_reducible refine (cmpSA H.out.1).mono ?_); rw [HH.out.2.2.1]; rintro e w' ⟨rfl, rfl⟩)
      | (go_at_call 47; (with_reducible refine (cmpSL H.out.1).mono ?_); rw [HH.out.2.2.2.2]; rintro e w' ⟨rfl, rfl⟩)
      | (go_at_call 45; (with_reducible refine (or5_new _ _ _ _ _ _).mono ?_); rintro e w' ⟨rfl, rfl⟩))
  go_wp2
  go_ret
  exact ⟨rfl, (‹S2 w A B 26 p q _›).1.z⟩
def lst (p q : Pa) : List Int := [cmpI p.f q.f, cmpI p.k q.k, cmpI p.a0 q.a0, cmpI p.a1 q.a1, cmpI p.a2 q.a2, cmpI p.a3 q.a3, cmpI p.u q.u, cmpI p.l0 q.l0, cmpI p.l1 q.l1, cmpI p.l2 q.l2]
theorem or_pre : ∀ (L : List Int) (m n : Nat) (_ : m ≤ n) (_ : orL (L.take m) ≠ 0), orL (L.take n) = orL (L.take m)
  | [], m, n, _, h => absurd (by simp [orL]) h
  | x :: L, 0, n, _, h => absurd (by simp [orL]) h
  | x :: L, m + 1, 0, hm, _ => absurd hm (by omega)
  | x :: L, m + 1, n + 1, hm, h => by
    simp only [List.take_succ_cons, orL] at h ⊢
    by_cases e : x = 0
    · rw [if_pos e] at h ⊢; rw [if_pos e]; exact or_pre L m n (by omega) h
    · rw [if_neg e, if_neg e]
theorem or_step : ∀ (L : List Int) (m : Nat) (hm : m < L.length) (_ : orL (L.take m) = 0), orL (L.take (m + 1)) = L[m]
  | [], m, hm, _ => absurd hm (by simp)
  | x :: L, 0, _, _ => by simp only [List.take_succ_cons, List.take_zero, orL, List.getElem_cons_zero]; split <;> simp_all
  | x :: L, m + 1, hm, h => by
    simp only [List.take_succ_cons, orL] at h ⊢
    by_cases e : x = 0
    · rw [if_pos e] at h ⊢; simpa using or_step L m (by simpa using hm) h
    · rw [if_neg e] at h; exact absurd h e
theorem lst_al {p q : Pa} {j : Nat} {x y : Int} (hx : p.al[j]? = some x) (hy : q.al[j]? = some y) : (lst p q)[2 + j]? = some (cmpI x y) := by
  rcases j with _ | _ | _ | _ | j
  · cases hx; cases hy; rfl
  · cases hx; cases hy; rfl
  · cases hx; cases hy; rfl
  · cases hx; cases hy; rfl
  · cases hx
theorem lst_ll {p q : Pa} {j : Nat} {x y : Int} (hx : p.ll[j]? = some x) (hy : q.ll[j]? = some y) : (lst p q)[7 + j]? = some (cmpI x y) := by
  rcases j with _ | _ | _ | j
  · cases hx; cases hy; rfl
  · cases hx; cases hy; rfl
  · cases hx; cases hy; rfl
  · cases hx
theorem or_next {L : List Int} {m : Nat} {c : Int} (hc : L[m]? = some c) (h : orL (L.take m) = 0) : orL (L.take (m + 1)) = c := by
  have hm : m < L.length := by
    rcases Nat.lt_or_ge m L.length with q | q
    · exact q
    · rw [List.getElem?_eq_none q] at hc; cases hc
  rw [or_step L m hm h]
  rw [List.getElem?_eq_getElem hm] at hc
  exact Option.some.inj hc
theorem getA (p : Pa) (j : Nat) (h : j < 4) : ∃ x, p.al[j]? = some x := ⟨_, List.getElem?_eq_getElem (show j < p.al.length by simpa [Pa.al] using h)⟩
theorem getL (p : Pa) (j : Nat) (h : j < 3) : ∃ x, p.ll[j]? = some x := ⟨_, List.getElem?_eq_getElem (show j < p.ll.length by simpa [Pa.ll] using h)⟩
set_option maxHeartbeats 4000000 in
theorem rcompare_any (p q : Pa) (hp : PaOk p) (hq : PaOk q) (w : World) : Calls Try.prog 32 #[.agg #[.int .i64 p.f, .int .i64 p.k, .int .u32 p.a0, .int .u32 p.a1, .int .u32 p.a2, .int .u32 p.a3, .int .i64 p.u, .int .u32 p.l0, .int .u32 p.l1, .int .u32 p.l2], .agg #[.int .i64 q.f, .int .i64 q.k, .int .u32 q.a0, .int .u32 q.a1, .int .u32 q.a2, .int .u32 q.a3, .int .i64 q.u, .int .u32 q.l0, .int .u32 q.l1, .int .u32 q.l2]] w fun e w' => e = .returned (.int .i64 (compareR p q)) ∧ Below w.heap.size w w' := by
  have hlst : compareR p q = orL ((lst p q).take 10) := rfl
  have PO := Lib.hid hp
  have QO := Lib.hid hq
  have HL := Lib.hid hlst
  clear hp hq hlst
  go_enter Try.func32, Try.ntmps32
  go_upto_region 1 with (fail)
  have hw := W2.start w 30 p q
  generalize (w.alloc (.cells #[.int .i64 p.f, .int .i64 p.k, .int .u32 p.a0, .int .u32 p.a1, .int .u32 p.a2, .int .u32 p.a3, .int .i64 p.u, .int .u32 p.l0, .int .u32 p.l1, .int .u32 p.l2] 30)).alloc (.cells #[.int .i64 q.f, .int .i64 q.k, .int .u32 q.a0, .int .u32 q.a1, .int .u32 q.a2, .int .u32 q.a3, .int .i64 q.u, .int .u32 q.l0, .int .u32 q.l1, .int .u32 q.l2] 30) = wc at hw ⊢
  generalize hA : w.heap.size = A at hw ⊢
  generalize hB : A + 1 = B at hw ⊢
  clear hB
  have RA := Lib.hid (And.intro (rowA hw.a) (rowA hw.b))
  have RL := Lib.hid (And.intro (rowL hw.a) (rowL hw.b))
  obtain ⟨c0, c1, _, _, _, _, c6, _, _, _, _⟩ := hw.a.atP
  obtain ⟨d0, d1, _, _, _, _, d6, _, _, _, _⟩ := hw.b.atP
  go_cut [5] (fun v5 w' => ∃ c, v5 = .int .i64 c ∧ Hid (c = orL ((lst p q).take 1)) ∧ wc = w')
  case first =>
    go_wp2_with (go_at_call 48; refine (order_any _ _ _).mono ?_; rintro e w' ⟨rfl, rfl⟩)
    go_meet
    case rel => exact ⟨_, rfl, by show _ = _; simp [lst, orL], rfl⟩
  case rest =>
  obtain ⟨c, rfl, hc, rfl⟩ := hcut
  go_upto_if 14 with (fail)
  go_cut [5] (fun v5 w' => ∃ c, v5 = .int .i64 c ∧ Hid (c = orL ((lst p q).take 2)) ∧ ∃ m, w' = wc.drewN m)
  case first =>
    by_cases h0 : c = 0
    · subst h0
      have hnx : Hid (cmpI p.k q.k = orL ((lst p q).take 2)) := (or_next (m := 1) rfl hc.out.symm).symm
      clear hc
      go_wp2_with (go_at_call 48; refine (order_any _ _ _).mono ?_; rintro e w' ⟨rfl, rfl⟩)
      go_meet
      case rel => exact ⟨_, rfl, hnx, 0, rfl⟩
    · have h0' : (c == 0) = false := by simp [h0]
      have hres : Hid (c = orL ((lst p q).take 2)) := by
        have e : c = _ := hc.out
        show c = _
        rw [or_pre (lst p q) 1 2 (by omega) (by rw [← e]; exact h0), ← e]
      clear hc h0
      go_wp2
      go_meet
      case rel => exact ⟨_, rfl, hres, 0, rfl⟩
  case rest =>
  clear hc
  obtain ⟨c, rfl, hc, m, rfl⟩ := hcut
  go_upto_block 0 with (fail)
  go_cut [5] (fun v5 w' => ∃ c, v5 = .int .i64 c ∧ Hid (c = orL ((lst p q).take 6)) ∧ ∃ m, w' = wc.drewN m)
  case first =>
    go_wp2
    go_loopw [5, 6] (fun v5 i wr => ∃ (j : Nat) (c : Int), j ≤ 4 ∧ v5 = .int .i64 c ∧ i = .int .i64 j ∧ Hid (c = orL ((lst p q).take (2 + j))) ∧ ∃ m, wr = wc.drewN m) (fun _ i _ => 4 - (intOf i).toNat)
    case atStart => exact ⟨0, _, by omega, rfl, rfl, hc, _, rfl⟩
    case round =>
      obtain ⟨j, c', hj, rfl, rfl, hc', m, rfl⟩ := hrel
      by_cases hjn : j < 4
      · have hjd : decide ((j : Int) < 4) = true := by simp; omega
        by_cases h0 : c' = 0
        · subst h0
          obtain ⟨x, hx⟩ := getA p j hjn
          obtain ⟨y, hy⟩ := getA q j hjn
          have e1 := RA.out.1 j x hx
          have e2 := RA.out.2 j y hy
          obtain ⟨x0, x1⟩ := PO.out.al hx
          obtain ⟨y0, y1⟩ := QO.out.al hy
          have hnx : Hid (cmpI x y = orL ((lst p q).take (2 + (j + 1)))) := (or_next (lst_al hx hy) hc'.out.symm).symm
          have WX : IntKind.i64.wrap x = x := by rw [IntKind.wrap_i64]; omega
          have WY : IntKind.i64.wrap y = y := by rw [IntKind.wrap_i64]; omega
          have hjI : (j : Int) < 4 := by omega
          have hj0 : (0 : Int) ≤ (j : Int) := by omega
          clear hc' hx hy
          go_wp2
          have SS := Lib.hid (show (wc.drewN (m + 1)).cell? ⟨A, 2 + j, none⟩ = some (.int .u32 x) ∧ (wc.drewN (m + 1)).cell? ⟨B, 2 + j, none⟩ = some (.int .u32 y) ∧ ∃ nq, wc.drewN (m + 1) = wc.drewN nq from ⟨e1, e2, _, rfl⟩)
          clear e1 e2
          go_region_held3 (fun w' => w'.cell? ⟨A, 2 + j, none⟩ = some (.int .u32 x) ∧ w'.cell? ⟨B, 2 + j, none⟩ = some (.int .u32 y) ∧ ∃ nq, w' = wc.drewN nq) (first | exact SS.out | assumption) (first | (go_at_call 48; refine (order_any _ _ _).mono ?_; rintro e w' ⟨rfl, rfl⟩))
          go_wp2
          go_roundw
          case rel => exact ⟨j + 1, _, by omega, rfl, by go_num, hnx, m + 1, rfl⟩
          case measure => simp [intOf]; omega
        · have h0' : (c' == 0) = false := by simp [h0]
          have hres : Hid (c' = orL ((lst p q).take 6)) := by
            have e : c' = _ := hc'.out
            show c' = _
            rw [or_pre (lst p q) (2 + j) 6 (by omega) (by rw [← e]; exact h0), ← e]
          clear hc' h0
          go_wp2
          go_meet
          case rel => exact ⟨_, rfl, hres, m, rfl⟩
      · obtain rfl : j = 4 := by omega
        go_wp2
        go_meet
        case rel => exact ⟨_, rfl, hc', m, rfl⟩
  case rest =>
  clear hc
  obtain ⟨c, rfl, hc, m, rfl⟩ := hcut
  go_upto_if 40 with (fail)
  go_cut [5] (fun v5 w' => ∃ c, v5 = .int .i64 c ∧ Hid (c = orL ((lst p q).take 7)) ∧ ∃ m, w' = wc.drewN m)
  case first =>
    by_cases h0 : c = 0
    · subst h0
      have hnx : Hid (cmpI p.u q.u = orL ((lst p q).take 7)) := (or_next (m := 6) rfl hc.out.symm).symm
      clear hc
      go_wp2_with (go_at_call 48; refine (order_any _ _ _).mono ?_; rintro e w' ⟨rfl, rfl⟩)
      go_meet
      case rel => exact ⟨_, rfl, hnx, m, rfl⟩
    · have h0' : (c == 0) = false := by simp [h0]
      have hres : Hid (c = orL ((lst p q).take 7)) := by
        have e : c = _ := hc.out
        show c = _
        rw [or_pre (lst p q) 6 7 (by omega) (by rw [← e]; exact h0), ← e]
      clear hc h0
      go_wp2
      go_meet
      case rel => exact ⟨_, rfl, hres, m, rfl⟩
  case rest =>
  clear hc
  obtain ⟨c, rfl, hc, m, rfl⟩ := hcut
  go_upto_block 2 with (fail)
  go_cut [5] (fun v5 w' => ∃ c, v5 = .int .i64 c ∧ Hid (c = orL ((lst p q).take 10)) ∧ ∃ m, w' = wc.drewN m)
  case first =>
    go_wp2
    go_loopw [5, 7] (fun v5 i wr => ∃ (j : Nat) (c : Int), j ≤ 3 ∧ v5 = .int .i64 c ∧ i = .int .i64 j ∧ Hid (c = orL ((lst p q).take (7 + j))) ∧ ∃ m, wr = wc.drewN m) (fun _ i _ => 3 - (intOf i).toNat)
    case atStart => exact ⟨0, _, by omega, rfl, rfl, hc, _, rfl⟩
    case round =>
      obtain ⟨j, c', hj, rfl, rfl, hc', m, rfl⟩ := hrel
      by_cases hjn : j < 3
      · have hjd : decide ((j : Int) < 3) = true := by simp; omega
        by_cases h0 : c' = 0
        · subst h0
          obtain ⟨x, hx⟩ := getL p j hjn
          obtain ⟨y, hy⟩ := getL q j hjn
          have e1 := RL.out.1 j x hx
          have e2 := RL.out.2 j y hy
          obtain ⟨x0, x1⟩ := PO.out.ll hx
          obtain ⟨y0, y1⟩ := QO.out.ll hy
          have hnx : Hid (cmpI x y = orL ((lst p q).take (7 + (j + 1)))) := (or_next (lst_ll hx hy) hc'.out.symm).symm
          have WX : IntKind.i64.wrap x = x := by rw [IntKind.wrap_i64]; omega
          have WY : IntKind.i64.wrap y = y := by rw [IntKind.wrap_i64]; omega
          have hjI : (j : Int) < 3 := by omega
          have hj0 : (0 : Int) ≤ (j : Int) := by omega
          clear hc' hx hy
          go_wp2
          have SS := Lib.hid (show (wc.drewN (m + 1)).cell? ⟨A, 7 + j, none⟩ = some (.int .u32 x) ∧ (wc.drewN (m + 1)).cell? ⟨B, 7 + j, none⟩ = some (.int .u32 y) ∧ ∃ nq, wc.drewN (m + 1) = wc.drewN nq from ⟨e1, e2, _, rfl⟩)
          clear e1 e2
          go_region_held3 (fun w' => w'.cell? ⟨A, 7 + j, none⟩ = some (.int .u32 x) ∧ w'.cell? ⟨B, 7 + j, none⟩ = some (.int .u32 y) ∧ ∃ nq, w' = wc.drewN nq) (first | exact SS.out | assumption) (first | (go_at_call 48; refine (order_any _ _ _).mono ?_; rintro e w' ⟨rfl, rfl⟩))
          go_wp2
          go_roundw
          case rel => exact ⟨j + 1, _, by omega, rfl, by go_num, hnx, m + 1, rfl⟩
          case measure => simp [intOf]; omega
        · have h0' : (c' == 0) = false := by simp [h0]
          have hres : Hid (c' = orL ((lst p q).take 10)) := by
            have e : c' = _ := hc'.out
            show c' = _
            rw [or_pre (lst p q) (7 + j) 10 (by omega) (by rw [← e]; exact h0), ← e]
          clear hc' h0
          go_wp2
          go_meet
          case rel => exact ⟨_, rfl, hres, m, rfl⟩
      · obtain rfl : j = 3 := by omega
        go_wp2
        go_meet
        case rel => exact ⟨_, rfl, hc', m, rfl⟩
  case rest =>
  clear hc
  obtain ⟨c, rfl, hc, m, rfl⟩ := hcut
  go_wp2
  go_ret
  exact ⟨by rw [HL.out, ← (show c = _ from hc.out)]; rfl, (hw.drewN m).z⟩
end Go.Proofs.Ytfmnbkcjibhloaa
