/- cmp.Compare, cmp.Or, slices.Compare, and Compare of two ways, the program's and the reference's. No condition. -/
import Derived.Test.YtfmnbkcjibhloaaRChk
namespace Go.Proofs.Ytfmnbkcjibhloaa
open Go.RowKit
set_option linter.unusedVariables false
set_option linter.unusedSimpArgs false
def cmpI (a b : Int) : Int := if a < b then -1 else if b < a then 1 else 0
/-- The first one that is not nought. -/
def orL : List Int → Int
  | [] => 0
  | x :: l => if x = 0 then orL l else x
theorem cmpI_lt {a b : Int} (h : a < b) : cmpI a b = -1 := by unfold cmpI; rw [if_pos h]
theorem cmpI_gt {a b : Int} (h : b < a) : cmpI a b = 1 := by unfold cmpI; rw [if_neg (by omega), if_pos h]
theorem cmpI_eq {a b : Int} (h : a = b) : cmpI a b = 0 := by unfold cmpI; rw [if_neg (by omega), if_neg (by omega)]
theorem cmpI_bd (a b : Int) : -1 ≤ cmpI a b ∧ cmpI a b ≤ 1 := by unfold cmpI; split <;> (try split) <;> omega
theorem orL_bd (l : List Int) (h : ∀ x ∈ l, -1 ≤ x ∧ x ≤ 1) : -1 ≤ orL l ∧ orL l ≤ 1 := by
  induction l with
  | nil => simp [orL]
  | cons x l ih =>
    unfold orL
    split
    · exact ih (fun y hy => h y (List.mem_cons_of_mem _ hy))
    · exact h x List.mem_cons_self
theorem nan54 (a : Int) (w : World) : Calls Try.prog 54 #[.int .i64 a] w fun e w' => e = .returned (.bool false) ∧ w = w' := by
  go_enter Try.func54, Try.ntmps54
  go_wp2
  go_ret
  simp
theorem nan58 (a : Int) (w : World) : Calls Try.prog 58 #[.int .u32 a] w fun e w' => e = .returned (.bool false) ∧ w = w' := by
  go_enter Try.func58, Try.ntmps58
  go_wp2
  go_ret
  simp
theorem cmp46 (a b : Int) (w : World) : Calls Try.prog 46 #[.int .i64 a, .int .i64 b] w fun e w' => e = .returned (.int .i64 (cmpI a b)) ∧ w = w' := by
  by_cases h1 : a < b
  · rw [cmpI_lt h1]
    go_enter Try.func46, Try.ntmps46
    go_wp2_with (go_at_call 54; refine (nan54 _ _).mono ?_; rintro e w' ⟨rfl, rfl⟩)
    go_ret
    exact ⟨rfl, rfl⟩
  · by_cases h2 : b < a
    · rw [cmpI_gt h2]
      go_enter Try.func46, Try.ntmps46
      go_wp2_with (go_at_call 54; refine (nan54 _ _).mono ?_; rintro e w' ⟨rfl, rfl⟩)
      go_ret
      exact ⟨rfl, rfl⟩
    · rw [cmpI_eq (by omega)]
      go_enter Try.func46, Try.ntmps46
      go_wp2_with (go_at_call 54; refine (nan54 _ _).mono ?_; rintro e w' ⟨rfl, rfl⟩)
      go_ret
      exact ⟨rfl, rfl⟩
theorem cmp55 (a b : Int) (w : World) : Calls Try.prog 55 #[.int .u32 a, .int .u32 b] w fun e w' => e = .returned (.int .i64 (cmpI a b)) ∧ w = w' := by
  by_cases h1 : a < b
  · rw [cmpI_lt h1]
    go_enter Try.func55, Try.ntmps55
    go_wp2_with (go_at_call 58; refine (nan58 _ _).mono ?_; rintro e w' ⟨rfl, rfl⟩)
    go_ret
    exact ⟨rfl, rfl⟩
  · by_cases h2 : b < a
    · rw [cmpI_gt h2]
      go_enter Try.func55, Try.ntmps55
      go_wp2_with (go_at_call 58; refine (nan58 _ _).mono ?_; rintro e w' ⟨rfl, rfl⟩)
      go_ret
      exact ⟨rfl, rfl⟩
    · rw [cmpI_eq (by omega)]
      go_enter Try.func55, Try.ntmps55
      go_wp2_with (go_at_call 58; refine (nan58 _ _).mono ?_; rintro e w' ⟨rfl, rfl⟩)
      go_ret
      exact ⟨rfl, rfl⟩
theorem order_any (a b : Int) (w : World) : Calls Try.prog 48 #[.int .i64 a, .int .i64 b] w fun e w' => e = .returned (.int .i64 (cmpI a b)) ∧ w = w' := by
  by_cases h1 : a < b
  · rw [cmpI_lt h1]
    go_enter Try.func48, Try.ntmps48
    go_wp2
    go_ret
    exact ⟨rfl, rfl⟩
  · by_cases h2 : b < a
    · rw [cmpI_gt h2]
      go_enter Try.func48, Try.ntmps48
      go_wp2
      go_ret
      exact ⟨rfl, rfl⟩
    · rw [cmpI_eq (by omega)]
      go_enter Try.func48, Try.ntmps48
      go_wp2
      go_ret
      exact ⟨rfl, rfl⟩
/-- cmp.Or over a row of whole numbers (int, and the program's error numbers). -/
theorem or_drop (zs : List Int) (k : Nat) (hk : k < zs.length) : orL (zs.drop k) = if zs[k] = 0 then orL (zs.drop (k + 1)) else zs[k] := by
  rw [List.drop_eq_getElem_cons hk]; rfl
set_option maxHeartbeats 1000000 in
theorem or45 (A cap : Nat) (zs : List Int) (w : World) (hz : zs.length ≤ 1000) (hc : ∀ i x, zs[i]? = some x → w.cell? ⟨A, i, none⟩ = some (.int .i64 x)) :
    Calls Try.prog 45 #[.slice (some ⟨A, 0, none⟩) zs.length cap] w fun e w' => e = .returned (.int .i64 (orL zs)) ∧ w = w' := by
  have HC := Lib.hid hc
  clear hc
  go_enter Try.func45, Try.ntmps45
  go_wp2
  go_loop [5, 8] (fun _ i => ∃ k : Nat, k ≤ zs.length ∧ i = .int .i64 k ∧ Hid (orL zs = orL (zs.drop k))) (fun _ i => zs.length - (intOf i).toNat)
  case atStart => exact ⟨0, Nat.zero_le _, rfl, rfl⟩
  case round =>
    obtain ⟨k, hk, rfl, hno⟩ := hrel
    by_cases hlt : k < zs.length
    · have hc := HC.out k _ (List.getElem?_eq_getElem hlt)
      have hs := or_drop zs k hlt
      by_cases h0 : zs[k] = 0
      · have hnx : Hid (orL zs = orL (zs.drop (k + 1))) := by
          have := hno.out; rw [hs, if_pos h0] at this; exact this
        rw [h0] at hc
        clear hno hs h0
        go_wp2
        go_round
        case rel => exact ⟨k + 1, by omega, by go_num, hnx⟩
        case measure => simp [intOf]; omega
      · have hres : orL zs = zs[k] := by
          have := hno.out; rw [hs, if_neg h0] at this; exact this
        have HR := Lib.hid hres
        have h0' : (zs[k] != 0) = true := by simp [h0]
        clear hno hs hres h0
        generalize zs[k] = v at hc HR h0'
        go_wp2
        go_ret
        exact ⟨by rw [HR.out]; rfl, rfl⟩
    · obtain rfl : k = zs.length := by omega
      have hres : orL zs = 0 := by have := hno.out; simpa [orL] using this
      have HR := Lib.hid hres
      clear hres hno
      go_wp2
      go_ret
      exact ⟨by rw [HR.out]; rfl, rfl⟩
set_option maxHeartbeats 1000000 in
theorem or49 (A cap : Nat) (zs : List Int) (w : World) (hz : zs.length ≤ 1000) (hc : ∀ i x, zs[i]? = some x → w.cell? ⟨A, i, none⟩ = some (.int .i64 x)) :
    Calls Try.prog 49 #[.slice (some ⟨A, 0, none⟩) zs.length cap] w fun e w' => e = .returned (.int .i64 (orL zs)) ∧ w = w' := by
  have HC := Lib.hid hc
  clear hc
  go_enter Try.func49, Try.ntmps49
  go_wp2
  go_loop [5, 8] (fun _ i => ∃ k : Nat, k ≤ zs.length ∧ i = .int .i64 k ∧ Hid (orL zs = orL (zs.drop k))) (fun _ i => zs.length - (intOf i).toNat)
  case atStart => exact ⟨0, Nat.zero_le _, rfl, rfl⟩
  case round =>
    obtain ⟨k, hk, rfl, hno⟩ := hrel
    by_cases hlt : k < zs.length
    · have hc := HC.out k _ (List.getElem?_eq_getElem hlt)
      have hs := or_drop zs k hlt
      by_cases h0 : zs[k] = 0
      · have hnx : Hid (orL zs = orL (zs.drop (k + 1))) := by
          have := hno.out; rw [hs, if_pos h0] at this; exact this
        rw [h0] at hc
        clear hno hs h0
        go_wp2
        go_round
        case rel => exact ⟨k + 1, by omega, by go_num, hnx⟩
        case measure => simp [intOf]; omega
      · have hres : orL zs = zs[k] := by
          have := hno.out; rw [hs, if_neg h0] at this; exact this
        have HR := Lib.hid hres
        have h0' : (zs[k] != 0) = true := by simp [h0]
        clear hno hs hres h0
        generalize zs[k] = v at hc HR h0'
        go_wp2
        go_ret
        exact ⟨by rw [HR.out]; rfl, rfl⟩
    · obtain rfl : k = zs.length := by omega
      have hres : orL zs = 0 := by have := hno.out; simpa [orL] using this
      have HR := Lib.hid hres
      clear hres hno
      go_wp2
      go_ret
      exact ⟨by rw [HR.out]; rfl, rfl⟩
/-- Two rows of like length, held against each other. -/
def cmpL (xs ys : List Int) : List Int := List.zipWith cmpI xs ys
set_option maxHeartbeats 1000000 in
theorem cmpS (A o A' o' cap cap' : Nat) (xs ys : List Int) (w : World) (hl : xs.length = ys.length) (hz : xs.length ≤ 1000) (hc : ∀ i x, xs[i]? = some x → w.cell? ⟨A, o + i, none⟩ = some (.int .u32 x)) (hc' : ∀ i x, ys[i]? = some x → w.cell? ⟨A', o' + i, none⟩ = some (.int .u32 x)) :
    Calls Try.prog 47 #[.slice (some ⟨A, o, none⟩) xs.length cap, .slice (some ⟨A', o', none⟩) xs.length cap'] w fun e w' => e = .returned (.int .i64 (orL (cmpL xs ys))) ∧ w = w' := by
  have HC := Lib.hid (And.intro hc hc')
  have HL := Lib.hid hl
  have hlen : (cmpL xs ys).length = xs.length := by simp [cmpL, hl]
  have HN := Lib.hid hlen
  clear hc hc' hl hlen
  go_enter Try.func47, Try.ntmps47
  go_wp2
  go_loop [5, 6, 7, 8, 11] (fun _ _ _ _ i => ∃ k : Nat, k ≤ xs.length ∧ i = .int .i64 k ∧ Hid (orL (cmpL xs ys) = orL ((cmpL xs ys).drop k))) (fun _ _ _ _ i => xs.length - (intOf i).toNat)
  case atStart => exact ⟨0, Nat.zero_le _, rfl, rfl⟩
  case round =>
    obtain ⟨k, hk, rfl, hno⟩ := hrel
    by_cases hlt : k < xs.length
    · have hlt' : k < ys.length := by rw [← HL.out]; exact hlt
      have hc := HC.out.1 k _ (List.getElem?_eq_getElem hlt)
      have hc' := HC.out.2 k _ (List.getElem?_eq_getElem hlt')
      have hs := or_drop (cmpL xs ys) k (by rw [HN.out]; exact hlt)
      have he : (cmpL xs ys)[k]'(by rw [HN.out]; exact hlt) = cmpI xs[k] ys[k] := by simp [cmpL]
      rw [he] at hs
      have hk0 : (k : Int) < (xs.length : Int) := by omega
      have hb := cmpI_bd xs[k] ys[k]
      by_cases h0 : cmpI xs[k] ys[k] = 0
      · have hnx : Hid (orL (cmpL xs ys) = orL ((cmpL xs ys).drop (k + 1))) := by
          have := hno.out; rw [hs, if_pos h0] at this; exact this
        have H0 := Lib.hid h0
        clear hno hs h0 he hb
        generalize xs[k] = x at hc H0
        generalize ys[k] = y at hc' H0
        clear hlt'
        go_wp2_with (go_at_call 55; refine (cmp55 _ _ _).mono ?_; rw [H0.out]; rintro e w' ⟨rfl, rfl⟩)
        go_round
        case rel => exact ⟨k + 1, by omega, by go_num, hnx⟩
        case measure => simp [intOf]; omega
      · have hres : orL (cmpL xs ys) = cmpI xs[k] ys[k] := by
          have := hno.out; rw [hs, if_neg h0] at this; exact this
        have HR := Lib.hid hres
        obtain ⟨c, hcc⟩ : ∃ c, cmpI xs[k] ys[k] = c := ⟨_, rfl⟩
        rw [hcc] at h0 hb
        have h0' : (c != 0) = true := by simp [h0]
        have H0 := Lib.hid hcc
        clear hno hs hres h0 he hcc
        generalize xs[k] = x at hc H0 HR
        generalize ys[k] = y at hc' H0 HR
        clear hlt'
        go_wp2_with (go_at_call 55; refine (cmp55 _ _ _).mono ?_; rw [H0.out]; rintro e w' ⟨rfl, rfl⟩)
        go_ret
        exact ⟨by rw [HR.out, H0.out]; rfl, rfl⟩
    · obtain rfl : k = xs.length := by omega
      have hres : orL (cmpL xs ys) = 0 := by
        have := hno.out
        rw [List.drop_of_length_le (by rw [HN.out]; exact Nat.le_refl _)] at this
        exact this
      have HR := Lib.hid hres
      clear hres hno
      go_wp2
      go_ret
      exact ⟨by rw [HR.out]; rfl, rfl⟩
/-- How two ways stand. -/
def compareR (p q : Pa) : Int := orL [cmpI p.f q.f, cmpI p.k q.k, cmpI p.a0 q.a0, cmpI p.a1 q.a1, cmpI p.a2 q.a2, cmpI p.a3 q.a3, cmpI p.u q.u, cmpI p.l0 q.l0, cmpI p.l1 q.l1, cmpI p.l2 q.l2]
theorem compare_parts (p q : Pa) : compareR p q = orL [cmpI p.f q.f, cmpI p.k q.k, orL (cmpL p.al q.al), cmpI p.u q.u, orL (cmpL p.ll q.ll)] := by
  simp only [compareR, cmpL, Pa.al, Pa.ll, List.zipWith_cons_cons, List.zipWith_nil_right, orL]
  repeat' split
  all_goals (first | rfl | (simp_all; done) | simp_all)
end Go.Proofs.Ytfmnbkcjibhloaa
