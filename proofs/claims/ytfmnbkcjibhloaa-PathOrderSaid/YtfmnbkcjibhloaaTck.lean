/- What is wrong with a time: the program's and the reference's Check. No condition. -/
import Derived.Test.YtfmnbkcjibhloaaAdd
import Derived.Test.YtfmnbkcjibhloaaPure
import Derived.Test.YtfmnbkcjibhloaaFam
import Derived.Laws.CopyOwn
import Derived.Deep.RegionLaw
namespace Go.Proofs.Ytfmnbkcjibhloaa
open Go.RowKit
set_option linter.unusedVariables false
set_option linter.unusedSimpArgs false
theorem rounds0 (e l0 l1 l2 : Int) (w : World) : Calls Try.prog 56 #[.agg #[.int .u32 e, .int .i64 0, .int .u32 l0, .int .u32 l1, .int .u32 l2]] w fun e' w' => e' = .returned (.agg #[.int .u32 0, .int .u32 0, .int .u32 0]) ∧ Below w.heap.size w w' := by
  go_enter Try.func56, Try.ntmps56
  go_upto_region 1 with (fail)
  have hr : Row ((w.alloc (.cells #[.int .u32 e, .int .i64 0, .int .u32 l0, .int .u32 l1, .int .u32 l2] 49)).alloc (.cells #[.int .u32 0, .int .u32 0, .int .u32 0] 24)) w.heap.size #[.int .u32 e, .int .i64 0, .int .u32 l0, .int .u32 l1, .int .u32 l2] 49 := (Row.new w _ 49).alloc _
  have hz : Row ((w.alloc (.cells #[.int .u32 e, .int .i64 0, .int .u32 l0, .int .u32 l1, .int .u32 l2] 49)).alloc (.cells #[.int .u32 0, .int .u32 0, .int .u32 0] 24)) (w.heap.size + 1) #[.int .u32 0, .int .u32 0, .int .u32 0] 24 := by simpa using Row.new (w.alloc (.cells #[.int .u32 e, .int .i64 0, .int .u32 l0, .int .u32 l1, .int .u32 l2] 49)) #[.int .u32 0, .int .u32 0, .int .u32 0] 24
  have hb : Below w.heap.size w ((w.alloc (.cells #[.int .u32 e, .int .i64 0, .int .u32 l0, .int .u32 l1, .int .u32 l2] 49)).alloc (.cells #[.int .u32 0, .int .u32 0, .int .u32 0] 24)) := below_of (below_new _ _) (below_new _ _)
  generalize (w.alloc (.cells #[.int .u32 e, .int .i64 0, .int .u32 l0, .int .u32 l1, .int .u32 l2] 49)).alloc (.cells #[.int .u32 0, .int .u32 0, .int .u32 0] 24) = wc at hr hz hb ⊢
  generalize hA : w.heap.size = A at hr hz hb ⊢
  have hAB : A ≤ A + 1 := Nat.le_succ A
  generalize hB : A + 1 = B at hz hAB ⊢
  have c1 : wc.cell? ⟨A, 1, none⟩ = some (.int .i64 0) := hr.cell 1 _ rfl
  have hs : ∀ (j : Nat) (v : Value), ([] : List Value)[j]? = some v → wc.cell? ((⟨A, 2, none⟩ : Addr).add j) = some v := by
    intro j v hj
    rcases j with _ | _ | _ | j
    all_goals first | (cases hj; exact hr.cell _ _ rfl) | cases hj
  have h1 : ∀ v ∈ ([] : List Value), v.oneCell' = true := by
    intro v hv
    simp at hv
    
  have HZ := Lib.hid hz
  have HS := Lib.hid hs
  have H1 := Lib.hid h1
  clear hz hs h1
  go_region_law (refine step_copy_splice rfl (.tmp 5) (.tmp 7) 64 64 rfl 22 Try.underlying64 (by kernel_rfl) (some ⟨B, 0, none⟩) (some ⟨A, 2, none⟩) 0 3 3 3 rfl rfl B 0 [.int .u32 0, .int .u32 0, .int .u32 0] 24 HZ.out [] rfl (fun _ => ⟨rfl, ⟨A, 2, none⟩, rfl, fun j v hj => HS.out j v hj⟩) (by simp) H1.out A w hb.drew hAB ?_; intro w4 hg4 hb4)
  have hr4 : Row w4 B #[.int .u32 0, .int .u32 0, .int .u32 0] 24 := hg4.out
  have z0 := hr4.cell 0 _ rfl
  have z1 := hr4.cell 1 _ rfl
  have z2 := hr4.cell 2 _ rfl
  simp only [List.getElem_toArray, List.getElem_cons_zero, List.getElem_cons_succ] at z0 z1 z2
  have zf := hr4.free
  clear hg4 HZ HS H1 hr c1 hr4 hb
  go_wp2
  refine bodyPost_ret (v := .agg #[.int .u32 0, .int .u32 0, .int .u32 0]) (by simp [results, Try.results56, go_sem, z0, z1, z2]) rfl ⟨rfl, ?_⟩
  subst hA
  repeat (first | (with_reducible refine Below.setCell ?_ hAB _) | exact hb4)
theorem rounds1 (e l0 l1 l2 : Int) (w : World) : Calls Try.prog 56 #[.agg #[.int .u32 e, .int .i64 1, .int .u32 l0, .int .u32 l1, .int .u32 l2]] w fun e' w' => e' = .returned (.agg #[.int .u32 l0, .int .u32 0, .int .u32 0]) ∧ Below w.heap.size w w' := by
  go_enter Try.func56, Try.ntmps56
  go_upto_region 1 with (fail)
  have hr : Row ((w.alloc (.cells #[.int .u32 e, .int .i64 1, .int .u32 l0, .int .u32 l1, .int .u32 l2] 49)).alloc (.cells #[.int .u32 0, .int .u32 0, .int .u32 0] 24)) w.heap.size #[.int .u32 e, .int .i64 1, .int .u32 l0, .int .u32 l1, .int .u32 l2] 49 := (Row.new w _ 49).alloc _
  have hz : Row ((w.alloc (.cells #[.int .u32 e, .int .i64 1, .int .u32 l0, .int .u32 l1, .int .u32 l2] 49)).alloc (.cells #[.int .u32 0, .int .u32 0, .int .u32 0] 24)) (w.heap.size + 1) #[.int .u32 0, .int .u32 0, .int .u32 0] 24 := by simpa using Row.new (w.alloc (.cells #[.int .u32 e, .int .i64 1, .int .u32 l0, .int .u32 l1, .int .u32 l2] 49)) #[.int .u32 0, .int .u32 0, .int .u32 0] 24
  have hb : Below w.heap.size w ((w.alloc (.cells #[.int .u32 e, .int .i64 1, .int .u32 l0, .int .u32 l1, .int .u32 l2] 49)).alloc (.cells #[.int .u32 0, .int .u32 0, .int .u32 0] 24)) := below_of (below_new _ _) (below_new _ _)
  generalize (w.alloc (.cells #[.int .u32 e, .int .i64 1, .int .u32 l0, .int .u32 l1, .int .u32 l2] 49)).alloc (.cells #[.int .u32 0, .int .u32 0, .int .u32 0] 24) = wc at hr hz hb ⊢
  generalize hA : w.heap.size = A at hr hz hb ⊢
  have hAB : A ≤ A + 1 := Nat.le_succ A
  generalize hB : A + 1 = B at hz hAB ⊢
  have c1 : wc.cell? ⟨A, 1, none⟩ = some (.int .i64 1) := hr.cell 1 _ rfl
  have hs : ∀ (j : Nat) (v : Value), ([.int .u32 l0] : List Value)[j]? = some v → wc.cell? ((⟨A, 2, none⟩ : Addr).add j) = some v := by
    intro j v hj
    rcases j with _ | _ | _ | j
    all_goals first | (cases hj; exact hr.cell _ _ rfl) | cases hj
  have h1 : ∀ v ∈ ([.int .u32 l0] : List Value), v.oneCell' = true := by
    intro v hv
    simp at hv
    rcases hv with rfl <;> rfl
  have HZ := Lib.hid hz
  have HS := Lib.hid hs
  have H1 := Lib.hid h1
  clear hz hs h1
  go_region_law (refine step_copy_splice rfl (.tmp 5) (.tmp 7) 64 64 rfl 22 Try.underlying64 (by kernel_rfl) (some ⟨B, 0, none⟩) (some ⟨A, 2, none⟩) 1 3 3 3 rfl rfl B 0 [.int .u32 0, .int .u32 0, .int .u32 0] 24 HZ.out [.int .u32 l0] rfl (fun _ => ⟨rfl, ⟨A, 2, none⟩, rfl, fun j v hj => HS.out j v hj⟩) (by simp) H1.out A w hb.drew hAB ?_; intro w4 hg4 hb4)
  have hr4 : Row w4 B #[.int .u32 l0, .int .u32 0, .int .u32 0] 24 := hg4.out
  have z0 := hr4.cell 0 _ rfl
  have z1 := hr4.cell 1 _ rfl
  have z2 := hr4.cell 2 _ rfl
  simp only [List.getElem_toArray, List.getElem_cons_zero, List.getElem_cons_succ] at z0 z1 z2
  have zf := hr4.free
  clear hg4 HZ HS H1 hr c1 hr4 hb
  go_wp2
  refine bodyPost_ret (v := .agg #[.int .u32 l0, .int .u32 0, .int .u32 0]) (by simp [results, Try.results56, go_sem, z0, z1, z2]) rfl ⟨rfl, ?_⟩
  subst hA
  repeat (first | (with_reducible refine Below.setCell ?_ hAB _) | exact hb4)
theorem rounds2 (e l0 l1 l2 : Int) (w : World) : Calls Try.prog 56 #[.agg #[.int .u32 e, .int .i64 2, .int .u32 l0, .int .u32 l1, .int .u32 l2]] w fun e' w' => e' = .returned (.agg #[.int .u32 l0, .int .u32 l1, .int .u32 0]) ∧ Below w.heap.size w w' := by
  go_enter Try.func56, Try.ntmps56
  go_upto_region 1 with (fail)
  have hr : Row ((w.alloc (.cells #[.int .u32 e, .int .i64 2, .int .u32 l0, .int .u32 l1, .int .u32 l2] 49)).alloc (.cells #[.int .u32 0, .int .u32 0, .int .u32 0] 24)) w.heap.size #[.int .u32 e, .int .i64 2, .int .u32 l0, .int .u32 l1, .int .u32 l2] 49 := (Row.new w _ 49).alloc _
  have hz : Row ((w.alloc (.cells #[.int .u32 e, .int .i64 2, .int .u32 l0, .int .u32 l1, .int .u32 l2] 49)).alloc (.cells #[.int .u32 0, .int .u32 0, .int .u32 0] 24)) (w.heap.size + 1) #[.int .u32 0, .int .u32 0, .int .u32 0] 24 := by simpa using Row.new (w.alloc (.cells #[.int .u32 e, .int .i64 2, .int .u32 l0, .int .u32 l1, .int .u32 l2] 49)) #[.int .u32 0, .int .u32 0, .int .u32 0] 24
  have hb : Below w.heap.size w ((w.alloc (.cells #[.int .u32 e, .int .i64 2, .int .u32 l0, .int .u32 l1, .int .u32 l2] 49)).alloc (.cells #[.int .u32 0, .int .u32 0, .int .u32 0] 24)) := below_of (below_new _ _) (below_new _ _)
  generalize (w.alloc (.cells #[.int .u32 e, .int .i64 2, .int .u32 l0, .int .u32 l1, .int .u32 l2] 49)).alloc (.cells #[.int .u32 0, .int .u32 0, .int .u32 0] 24) = wc at hr hz hb ⊢
  generalize hA : w.heap.size = A at hr hz hb ⊢
  have hAB : A ≤ A + 1 := Nat.le_succ A
  generalize hB : A + 1 = B at hz hAB ⊢
  have c1 : wc.cell? ⟨A, 1, none⟩ = some (.int .i64 2) := hr.cell 1 _ rfl
  have hs : ∀ (j : Nat) (v : Value), ([.int .u32 l0, .int .u32 l1] : List Value)[j]? = some v → wc.cell? ((⟨A, 2, none⟩ : Addr).add j) = some v := by
    intro j v hj
    rcases j with _ | _ | _ | j
    all_goals first | (cases hj; exact hr.cell _ _ rfl) | cases hj
  have h1 : ∀ v ∈ ([.int .u32 l0, .int .u32 l1] : List Value), v.oneCell' = true := by
    intro v hv
    simp at hv
    rcases hv with rfl | rfl <;> rfl
  have HZ := Lib.hid hz
  have HS := Lib.hid hs
  have H1 := Lib.hid h1
  clear hz hs h1
  go_region_law (refine step_copy_splice rfl (.tmp 5) (.tmp 7) 64 64 rfl 22 Try.underlying64 (by kernel_rfl) (some ⟨B, 0, none⟩) (some ⟨A, 2, none⟩) 2 3 3 3 rfl rfl B 0 [.int .u32 0, .int .u32 0, .int .u32 0] 24 HZ.out [.int .u32 l0, .int .u32 l1] rfl (fun _ => ⟨rfl, ⟨A, 2, none⟩, rfl, fun j v hj => HS.out j v hj⟩) (by simp) H1.out A w hb.drew hAB ?_; intro w4 hg4 hb4)
  have hr4 : Row w4 B #[.int .u32 l0, .int .u32 l1, .int .u32 0] 24 := hg4.out
  have z0 := hr4.cell 0 _ rfl
  have z1 := hr4.cell 1 _ rfl
  have z2 := hr4.cell 2 _ rfl
  simp only [List.getElem_toArray, List.getElem_cons_zero, List.getElem_cons_succ] at z0 z1 z2
  have zf := hr4.free
  clear hg4 HZ HS H1 hr c1 hr4 hb
  go_wp2
  refine bodyPost_ret (v := .agg #[.int .u32 l0, .int .u32 l1, .int .u32 0]) (by simp [results, Try.results56, go_sem, z0, z1, z2]) rfl ⟨rfl, ?_⟩
  subst hA
  repeat (first | (with_reducible refine Below.setCell ?_ hAB _) | exact hb4)
theorem rounds3 (e l0 l1 l2 : Int) (w : World) : Calls Try.prog 56 #[.agg #[.int .u32 e, .int .i64 3, .int .u32 l0, .int .u32 l1, .int .u32 l2]] w fun e' w' => e' = .returned (.agg #[.int .u32 l0, .int .u32 l1, .int .u32 l2]) ∧ Below w.heap.size w w' := by
  go_enter Try.func56, Try.ntmps56
  go_upto_region 1 with (fail)
  have hr : Row ((w.alloc (.cells #[.int .u32 e, .int .i64 3, .int .u32 l0, .int .u32 l1, .int .u32 l2] 49)).alloc (.cells #[.int .u32 0, .int .u32 0, .int .u32 0] 24)) w.heap.size #[.int .u32 e, .int .i64 3, .int .u32 l0, .int .u32 l1, .int .u32 l2] 49 := (Row.new w _ 49).alloc _
  have hz : Row ((w.alloc (.cells #[.int .u32 e, .int .i64 3, .int .u32 l0, .int .u32 l1, .int .u32 l2] 49)).alloc (.cells #[.int .u32 0, .int .u32 0, .int .u32 0] 24)) (w.heap.size + 1) #[.int .u32 0, .int .u32 0, .int .u32 0] 24 := by simpa using Row.new (w.alloc (.cells #[.int .u32 e, .int .i64 3, .int .u32 l0, .int .u32 l1, .int .u32 l2] 49)) #[.int .u32 0, .int .u32 0, .int .u32 0] 24
  have hb : Below w.heap.size w ((w.alloc (.cells #[.int .u32 e, .int .i64 3, .int .u32 l0, .int .u32 l1, .int .u32 l2] 49)).alloc (.cells #[.int .u32 0, .int .u32 0, .int .u32 0] 24)) := below_of (below_new _ _) (below_new _ _)
  generalize (w.alloc (.cells #[.int .u32 e, .int .i64 3, .int .u32 l0, .int .u32 l1, .int .u32 l2] 49)).alloc (.cells #[.int .u32 0, .int .u32 0, .int .u32 0] 24) = wc at hr hz hb ⊢
  generalize hA : w.heap.size = A at hr hz hb ⊢
  have hAB : A ≤ A + 1 := Nat.le_succ A
  generalize hB : A + 1 = B at hz hAB ⊢
  have c1 : wc.cell? ⟨A, 1, none⟩ = some (.int .i64 3) := hr.cell 1 _ rfl
  have hs : ∀ (j : Nat) (v : Value), ([.int .u32 l0, .int .u32 l1, .int .u32 l2] : List Value)[j]? = some v → wc.cell? ((⟨A, 2, none⟩ : Addr).add j) = some v := by
    intro j v hj
    rcases j with _ | _ | _ | j
    all_goals first | (cases hj; exact hr.cell _ _ rfl) | cases hj
  have h1 : ∀ v ∈ ([.int .u32 l0, .int .u32 l1, .int .u32 l2] : List Value), v.oneCell' = true := by
    intro v hv
    simp at hv
    rcases hv with rfl | rfl | rfl <;> rfl
  have HZ := Lib.hid hz
  have HS := Lib.hid hs
  have H1 := Lib.hid h1
  clear hz hs h1
  go_region_law (refine step_copy_splice rfl (.tmp 5) (.tmp 7) 64 64 rfl 22 Try.underlying64 (by kernel_rfl) (some ⟨B, 0, none⟩) (some ⟨A, 2, none⟩) 3 3 3 3 rfl rfl B 0 [.int .u32 0, .int .u32 0, .int .u32 0] 24 HZ.out [.int .u32 l0, .int .u32 l1, .int .u32 l2] rfl (fun _ => ⟨rfl, ⟨A, 2, none⟩, rfl, fun j v hj => HS.out j v hj⟩) (by simp) H1.out A w hb.drew hAB ?_; intro w4 hg4 hb4)
  have hr4 : Row w4 B #[.int .u32 l0, .int .u32 l1, .int .u32 l2] 24 := hg4.out
  have z0 := hr4.cell 0 _ rfl
  have z1 := hr4.cell 1 _ rfl
  have z2 := hr4.cell 2 _ rfl
  simp only [List.getElem_toArray, List.getElem_cons_zero, List.getElem_cons_succ] at z0 z1 z2
  have zf := hr4.free
  clear hg4 HZ HS H1 hr c1 hr4 hb
  go_wp2
  refine bodyPost_ret (v := .agg #[.int .u32 l0, .int .u32 l1, .int .u32 l2]) (by simp [results, Try.results56, go_sem, z0, z1, z2]) rfl ⟨rfl, ?_⟩
  subst hA
  repeat (first | (with_reducible refine Below.setCell ?_ hAB _) | exact hb4)
theorem eqA3top (a0 a1 a2 b0 b1 b2 : Int) (w : World) : (Op.equalIn 10000 24 (.agg #[.int .u32 a0, .int .u32 a1, .int .u32 a2]) (.agg #[.int .u32 b0, .int .u32 b1, .int .u32 b2])).run Try.prog w = .ok (a0 == b0 && (a1 == b1 && a2 == b2)) w := by
  have u3 := Try.underlying22
  have g3 := Try.isAgg22
  have z3 := Try.sizeOf22
  rw [show (10000 : Nat) = 9999 + 1 from rfl, Op.equalIn]
  simp only [Sem.run_bind, run_underlying Try.underlying24, Result.andThen_ok]
  simp only [Std.Legacy.Range.forIn_eq_forIn_range', Std.Legacy.Range.size, Nat.sub_zero, Nat.add_sub_cancel, Nat.div_one, List.range'_succ, List.range'_zero, List.forIn_cons, List.forIn_nil]
  go_simp
  by_cases h1 : a0 = b0 <;> by_cases h2 : a1 = b1 <;> by_cases h3 : a2 = b2 <;> simp [h1, h2, h3]
attribute [local go_sem] eqA3top
/-- A time in a block of its own; old memory as it was. -/
abbrev AtT (b : Nat) (t : Tm) (w : World) : Prop := w.cell? ⟨b, 0, none⟩ = some (.int .u32 t.e) ∧ w.cell? ⟨b, 1, none⟩ = some (.int .i64 t.d) ∧ w.cell? ⟨b, 2, none⟩ = some (.int .u32 t.l0) ∧ w.cell? ⟨b, 3, none⟩ = some (.int .u32 t.l1) ∧ w.cell? ⟨b, 4, none⟩ = some (.int .u32 t.l2) ∧ ∀ i, w.frozen? ⟨b, i, none⟩ = false
abbrev RowT (w : World) (b : Nat) (t : Tm) : Prop := Row w b #[.int .u32 t.e, .int .i64 t.d, .int .u32 t.l0, .int .u32 t.l1, .int .u32 t.l2] 49
theorem RowT.at {w : World} {b : Nat} {t : Tm} (h : RowT w b t) : AtT b t w := ⟨h.cell 0 _ rfl, h.cell 1 _ rfl, h.cell 2 _ rfl, h.cell 3 _ rfl, h.cell 4 _ rfl, h.free⟩
structure W1 (w0 : World) (A : Nat) (t : Tm) (w : World) : Prop where
  a : RowT w A t
  z : Below w0.heap.size w0 w
abbrev S1 (w0 : World) (A : Nat) (t : Tm) (w : World) : Prop := W1 w0 A t w ∧ AtT A t w
theorem W1.s {w0 w : World} {A : Nat} {t : Tm} (h : W1 w0 A t w) : S1 w0 A t w := ⟨h, h.a.at⟩
theorem s1_below {w0 w w' : World} {A : Nat} {t : Tm} (hb : Below w.heap.size w w') (h : S1 w0 A t w) : S1 w0 A t w' := (⟨h.1.a.below hb, below_of h.1.z hb⟩ : W1 w0 A t w').s
theorem W1.drew {w0 w : World} {A : Nat} {t : Tm} (h : W1 w0 A t w) : W1 w0 A t w.drew := ⟨h.a, h.z.drew⟩
theorem any_step {x b : Bool} {l : List Int} {j : Nat} {n : Int} (h : (x || (l.take j).any gr) = b) (hn : l[j]? = some n) : (x || (l.take (j + 1)).any gr) = (b || gr n) := by
  rw [List.take_add_one, hn, List.any_append, ← Bool.or_assoc, h]
  simp
theorem any_step0 {l : List Int} {j : Nat} {n : Int} (h : (l.take j).any gr = false) (hn : l[j]? = some n) (hg : gr n = false) : (l.take (j + 1)).any gr = false := by
  rw [List.take_add_one, hn, List.any_append, h]
  simp [hg]
theorem tck_gr {t : Tm} (hd : 0 ≤ t.d ∧ t.d ≤ 3) (h : (gr t.e || [t.l0, t.l1, t.l2].any gr) = true) : tck t = 1 := by
  unfold tck; rw [if_neg (not_not_intro hd), if_pos h]
theorem tck_so {t : Tm} (hd : 0 ≤ t.d ∧ t.d ≤ 3) (h : (gr t.e || [t.l0, t.l1, t.l2].any gr) = false) (hs : (t.d ≤ 0 ∧ t.l0 ≠ 0) ∨ (t.d ≤ 1 ∧ t.l1 ≠ 0) ∨ (t.d ≤ 2 ∧ t.l2 ≠ 0)) : tck t = 6 := by
  unfold tck; rw [if_neg (not_not_intro hd), if_neg (by rw [h]; decide), if_pos hs]
theorem tck_no {t : Tm} (hd : 0 ≤ t.d ∧ t.d ≤ 3) (h : (gr t.e || [t.l0, t.l1, t.l2].any gr) = false) (hs : ¬ ((t.d ≤ 0 ∧ t.l0 ≠ 0) ∨ (t.d ≤ 1 ∧ t.l1 ≠ 0) ∨ (t.d ≤ 2 ∧ t.l2 ≠ 0))) : tck t = 0 := by
  unfold tck; rw [if_neg (not_not_intro hd), if_neg (by rw [h]; decide), if_neg hs]
set_option maxHeartbeats 2000000 in
theorem check0 (e l0 l1 l2 : Int) (w : World) (c : Int) (hc : tck ⟨e, 0, l0, l1, l2⟩ = c) : Calls Try.prog 50 #[.agg #[.int .u32 e, .int .i64 0, .int .u32 l0, .int .u32 l1, .int .u32 l2]] w fun e' w' => e' = .returned (.int .i64 c) ∧ Below w.heap.size w w' := by
  have HC := Lib.hid hc
  clear hc
  go_enter Try.func50, Try.ntmps50
  go_upto_region 1 with (fail)
  have hw : W1 w w.heap.size (⟨e, 0, l0, l1, l2⟩ : Tm) (w.alloc (.cells #[.int .u32 e, .int .i64 0, .int .u32 l0, .int .u32 l1, .int .u32 l2] 49)) := ⟨Row.new w _ 49, below_new _ _⟩
  generalize w.alloc (.cells #[.int .u32 e, .int .i64 0, .int .u32 l0, .int .u32 l1, .int .u32 l2] 49) = wc at hw ⊢
  generalize w.heap.size = A at hw ⊢
  have HS := Lib.hid hw.s
  obtain ⟨hz, ⟨_, _, _, _, _, _⟩⟩ := hw.s
  clear hw
  have i0 : ∀ w, (Instr.index 24 (.agg #[.int .u32 l0, .int .u32 l1, .int .u32 l2]) (.int .i64 0)).run Try.prog w = .ok (.int .u32 l0) w := fun _ => by kernel_rfl
  have i1 : ∀ w, (Instr.index 24 (.agg #[.int .u32 l0, .int .u32 l1, .int .u32 l2]) (.int .i64 1)).run Try.prog w = .ok (.int .u32 l1) w := fun _ => by kernel_rfl
  have i2 : ∀ w, (Instr.index 24 (.agg #[.int .u32 l0, .int .u32 l1, .int .u32 l2]) (.int .i64 2)).run Try.prog w = .ok (.int .u32 l2) w := fun _ => by kernel_rfl
  go_wp2_with (go_at_call 52; (with_reducible refine (sthere_any 0 _).mono ?_); rw [show decide ((0 : Int) ≤ 0 ∧ (0 : Int) ≤ 3) = true from rfl]; rintro e w' ⟨rfl, rfl⟩)
  go_loop [3, 15] (fun v i => ∃ (j : Nat) (b : Bool), j ≤ 3 ∧ i = .int .i64 j ∧ v = .bool b ∧ Hid ((gr e || ([l0, l1, l2].take j).any gr) = b)) (fun _ i => 3 - (intOf i).toNat)
  case atStart => exact ⟨0, _, by omega, rfl, rfl, Lib.hid (by simp [gr])⟩
  case round =>
    obtain ⟨j, b, hj, rfl, rfl, hb⟩ := hrel
    by_cases hlt : j < 3
    · have hj3 : j = 0 ∨ j = 1 ∨ j = 2 := by omega
      rcases hj3 with rfl | rfl | rfl
      · have hb' := Lib.hid (any_step hb.out (show [l0, l1, l2][0]? = some l0 from rfl))
        clear hb
        rcases b with _ | _
        · go_wp2
          go_round
          case rel => exact ⟨0 + 1, _, by omega, by go_num, rfl, hb'⟩
          case measure => simp [intOf]
        · go_wp2
          go_round
          case rel => exact ⟨0 + 1, _, by omega, by go_num, rfl, hb'⟩
          case measure => simp [intOf]
      · have hb' := Lib.hid (any_step hb.out (show [l0, l1, l2][1]? = some l1 from rfl))
        clear hb
        rcases b with _ | _
        · go_wp2
          go_round
          case rel => exact ⟨1 + 1, _, by omega, by go_num, rfl, hb'⟩
          case measure => simp [intOf]
        · go_wp2
          go_round
          case rel => exact ⟨1 + 1, _, by omega, by go_num, rfl, hb'⟩
          case measure => simp [intOf]
      · have hb' := Lib.hid (any_step hb.out (show [l0, l1, l2][2]? = some l2 from rfl))
        clear hb
        rcases b with _ | _
        · go_wp2
          go_round
          case rel => exact ⟨2 + 1, _, by omega, by go_num, rfl, hb'⟩
          case measure => simp [intOf]
        · go_wp2
          go_round
          case rel => exact ⟨2 + 1, _, by omega, by go_num, rfl, hb'⟩
          case measure => simp [intOf]
    · obtain rfl : j = 3 := by omega
      rcases b with _ | _
      · obtain ⟨bt, hbt⟩ : ∃ bt, (!l0 == 0 || (!l1 == 0 || !l2 == 0)) = bt := ⟨_, rfl⟩
        have HB := Lib.hid hbt
        clear hbt
        have hC := hz.drew.s
        go_upto_region 11 with (fail)
        refine region_class (S1 w A (⟨e, 0, l0, l1, l2⟩ : Tm)) (by kernel_rfl) (by kernel_rfl) hC ?_
        clear hC HS
        repeat
          (refine step_class (fun K hK => ?_)
           go_simp
           first
             | (refine hK _ ?_; clear hK K)
             | (with_reducible apply Hq.of
                · intro wv hv
                  have Hv := Lib.hid hv
                  obtain ⟨hz, ⟨_, _, _, _, _, _⟩⟩ := hv
                  go_simp
                  (first
                    | (with_reducible exact rfl)
                    | (go_at_call 56; (with_reducible refine (rounds0 e l0 l1 l2 _).mono ?_); rintro e w1 ⟨rfl, hb1⟩; exact ⟨rfl, s1_below hb1 Hv.out⟩))
                refine hK _ ?_
                clear hK K))
        refine nil_class ?_
        intro wq hq
        have HS := Lib.hid hq
        obtain ⟨hz, ⟨_, _, _, _, _, _⟩⟩ := hq
        try rw [HB.out]
        rcases bt with _ | _
        · obtain rfl : c = 0 := HC.out.symm.trans (tck_no (by simp) hb.out (by
            have h := HB.out
            simp at h ⊢ <;> try omega))
          go_wp2
          go_ret
          exact ⟨rfl, hz.z⟩
        · obtain rfl : c = 6 := HC.out.symm.trans (tck_so (by simp) hb.out (by
            have h := HB.out
            simp at h ⊢ <;> try omega))
          go_wp2
          go_ret
          exact ⟨rfl, hz.z⟩
      · obtain rfl : c = 1 := HC.out.symm.trans (tck_gr (by simp) hb.out)
        go_wp2
        go_ret
        exact ⟨rfl, hz.z⟩
set_option maxHeartbeats 2000000 in
theorem check1 (e l0 l1 l2 : Int) (w : World) (c : Int) (hc : tck ⟨e, 1, l0, l1, l2⟩ = c) : Calls Try.prog 50 #[.agg #[.int .u32 e, .int .i64 1, .int .u32 l0, .int .u32 l1, .int .u32 l2]] w fun e' w' => e' = .returned (.int .i64 c) ∧ Below w.heap.size w w' := by
  have HC := Lib.hid hc
  clear hc
  go_enter Try.func50, Try.ntmps50
  go_upto_region 1 with (fail)
  have hw : W1 w w.heap.size (⟨e, 1, l0, l1, l2⟩ : Tm) (w.alloc (.cells #[.int .u32 e, .int .i64 1, .int .u32 l0, .int .u32 l1, .int .u32 l2] 49)) := ⟨Row.new w _ 49, below_new _ _⟩
  generalize w.alloc (.cells #[.int .u32 e, .int .i64 1, .int .u32 l0, .int .u32 l1, .int .u32 l2] 49) = wc at hw ⊢
  generalize w.heap.size = A at hw ⊢
  have HS := Lib.hid hw.s
  obtain ⟨hz, ⟨_, _, _, _, _, _⟩⟩ := hw.s
  clear hw
  have i0 : ∀ w, (Instr.index 24 (.agg #[.int .u32 l0, .int .u32 l1, .int .u32 l2]) (.int .i64 0)).run Try.prog w = .ok (.int .u32 l0) w := fun _ => by kernel_rfl
  have i1 : ∀ w, (Instr.index 24 (.agg #[.int .u32 l0, .int .u32 l1, .int .u32 l2]) (.int .i64 1)).run Try.prog w = .ok (.int .u32 l1) w := fun _ => by kernel_rfl
  have i2 : ∀ w, (Instr.index 24 (.agg #[.int .u32 l0, .int .u32 l1, .int .u32 l2]) (.int .i64 2)).run Try.prog w = .ok (.int .u32 l2) w := fun _ => by kernel_rfl
  go_wp2_with (go_at_call 52; (with_reducible refine (sthere_any 1 _).mono ?_); rw [show decide ((0 : Int) ≤ 1 ∧ (1 : Int) ≤ 3) = true from rfl]; rintro e w' ⟨rfl, rfl⟩)
  go_loop [3, 15] (fun v i => ∃ (j : Nat) (b : Bool), j ≤ 3 ∧ i = .int .i64 j ∧ v = .bool b ∧ Hid ((gr e || ([l0, l1, l2].take j).any gr) = b)) (fun _ i => 3 - (intOf i).toNat)
  case atStart => exact ⟨0, _, by omega, rfl, rfl, Lib.hid (by simp [gr])⟩
  case round =>
    obtain ⟨j, b, hj, rfl, rfl, hb⟩ := hrel
    by_cases hlt : j < 3
    · have hj3 : j = 0 ∨ j = 1 ∨ j = 2 := by omega
      rcases hj3 with rfl | rfl | rfl
      · have hb' := Lib.hid (any_step hb.out (show [l0, l1, l2][0]? = some l0 from rfl))
        clear hb
        rcases b with _ | _
        · go_wp2
          go_round
          case rel => exact ⟨0 + 1, _, by omega, by go_num, rfl, hb'⟩
          case measure => simp [intOf]
        · go_wp2
          go_round
          case rel => exact ⟨0 + 1, _, by omega, by go_num, rfl, hb'⟩
          case measure => simp [intOf]
      · have hb' := Lib.hid (any_step hb.out (show [l0, l1, l2][1]? = some l1 from rfl))
        clear hb
        rcases b with _ | _
        · go_wp2
          go_round
          case rel => exact ⟨1 + 1, _, by omega, by go_num, rfl, hb'⟩
          case measure => simp [intOf]
        · go_wp2
          go_round
          case rel => exact ⟨1 + 1, _, by omega, by go_num, rfl, hb'⟩
          case measure => simp [intOf]
      · have hb' := Lib.hid (any_step hb.out (show [l0, l1, l2][2]? = some l2 from rfl))
        clear hb
        rcases b with _ | _
        · go_wp2
          go_round
          case rel => exact ⟨2 + 1, _, by omega, by go_num, rfl, hb'⟩
          case measure => simp [intOf]
        · go_wp2
          go_round
          case rel => exact ⟨2 + 1, _, by omega, by go_num, rfl, hb'⟩
          case measure => simp [intOf]
    · obtain rfl : j = 3 := by omega
      rcases b with _ | _
      · obtain ⟨bt, hbt⟩ : ∃ bt, (!l1 == 0 || !l2 == 0) = bt := ⟨_, rfl⟩
        have HB := Lib.hid hbt
        clear hbt
        have hC := hz.drew.s
        go_upto_region 11 with (fail)
        refine region_class (S1 w A (⟨e, 1, l0, l1, l2⟩ : Tm)) (by kernel_rfl) (by kernel_rfl) hC ?_
        clear hC HS
        repeat
          (refine step_class (fun K hK => ?_)
           go_simp
           first
             | (refine hK _ ?_; clear hK K)
             | (with_reducible apply Hq.of
                · intro wv hv
                  have Hv := Lib.hid hv
                  obtain ⟨hz, ⟨_, _, _, _, _, _⟩⟩ := hv
                  go_simp
                  (first
                    | (with_reducible exact rfl)
                    | (go_at_call 56; (with_reducible refine (rounds1 e l0 l1 l2 _).mono ?_); rintro e w1 ⟨rfl, hb1⟩; exact ⟨rfl, s1_below hb1 Hv.out⟩))
                refine hK _ ?_
                clear hK K))
        refine nil_class ?_
        intro wq hq
        have HS := Lib.hid hq
        obtain ⟨hz, ⟨_, _, _, _, _, _⟩⟩ := hq
        try rw [HB.out]
        rcases bt with _ | _
        · obtain rfl : c = 0 := HC.out.symm.trans (tck_no (by simp) hb.out (by
            have h := HB.out
            simp at h ⊢ <;> try omega))
          go_wp2
          go_ret
          exact ⟨rfl, hz.z⟩
        · obtain rfl : c = 6 := HC.out.symm.trans (tck_so (by simp) hb.out (by
            have h := HB.out
            simp at h ⊢ <;> try omega))
          go_wp2
          go_ret
          exact ⟨rfl, hz.z⟩
      · obtain rfl : c = 1 := HC.out.symm.trans (tck_gr (by simp) hb.out)
        go_wp2
        go_ret
        exact ⟨rfl, hz.z⟩
set_option maxHeartbeats 2000000 in
theorem check2 (e l0 l1 l2 : Int) (w : World) (c : Int) (hc : tck ⟨e, 2, l0, l1, l2⟩ = c) : Calls Try.prog 50 #[.agg #[.int .u32 e, .int .i64 2, .int .u32 l0, .int .u32 l1, .int .u32 l2]] w fun e' w' => e' = .returned (.int .i64 c) ∧ Below w.heap.size w w' := by
  have HC := Lib.hid hc
  clear hc
  go_enter Try.func50, Try.ntmps50
  go_upto_region 1 with (fail)
  have hw : W1 w w.heap.size (⟨e, 2, l0, l1, l2⟩ : Tm) (w.alloc (.cells #[.int .u32 e, .int .i64 2, .int .u32 l0, .int .u32 l1, .int .u32 l2] 49)) := ⟨Row.new w _ 49, below_new _ _⟩
  generalize w.alloc (.cells #[.int .u32 e, .int .i64 2, .int .u32 l0, .int .u32 l1, .int .u32 l2] 49) = wc at hw ⊢
  generalize w.heap.size = A at hw ⊢
  have HS := Lib.hid hw.s
  obtain ⟨hz, ⟨_, _, _, _, _, _⟩⟩ := hw.s
  clear hw
  have i0 : ∀ w, (Instr.index 24 (.agg #[.int .u32 l0, .int .u32 l1, .int .u32 l2]) (.int .i64 0)).run Try.prog w = .ok (.int .u32 l0) w := fun _ => by kernel_rfl
  have i1 : ∀ w, (Instr.index 24 (.agg #[.int .u32 l0, .int .u32 l1, .int .u32 l2]) (.int .i64 1)).run Try.prog w = .ok (.int .u32 l1) w := fun _ => by kernel_rfl
  have i2 : ∀ w, (Instr.index 24 (.agg #[.int .u32 l0, .int .u32 l1, .int .u32 l2]) (.int .i64 2)).run Try.prog w = .ok (.int .u32 l2) w := fun _ => by kernel_rfl
  go_wp2_with (go_at_call 52; (with_reducible refine (sthere_any 2 _).mono ?_); rw [show decide ((0 : Int) ≤ 2 ∧ (2 : Int) ≤ 3) = true from rfl]; rintro e w' ⟨rfl, rfl⟩)
  go_loop [3, 15] (fun v i => ∃ (j : Nat) (b : Bool), j ≤ 3 ∧ i = .int .i64 j ∧ v = .bool b ∧ Hid ((gr e || ([l0, l1, l2].take j).any gr) = b)) (fun _ i => 3 - (intOf i).toNat)
  case atStart => exact ⟨0, _, by omega, rfl, rfl, Lib.hid (by simp [gr])⟩
  case round =>
    obtain ⟨j, b, hj, rfl, rfl, hb⟩ := hrel
    by_cases hlt : j < 3
    · have hj3 : j = 0 ∨ j = 1 ∨ j = 2 := by omega
      rcases hj3 with rfl | rfl | rfl
      · have hb' := Lib.hid (any_step hb.out (show [l0, l1, l2][0]? = some l0 from rfl))
        clear hb
        rcases b with _ | _
        · go_wp2
          go_round
          case rel => exact ⟨0 + 1, _, by omega, by go_num, rfl, hb'⟩
          case measure => simp [intOf]
        · go_wp2
          go_round
          case rel => exact ⟨0 + 1, _, by omega, by go_num, rfl, hb'⟩
          case measure => simp [intOf]
      · have hb' := Lib.hid (any_step hb.out (show [l0, l1, l2][1]? = some l1 from rfl))
        clear hb
        rcases b with _ | _
        · go_wp2
          go_round
          case rel => exact ⟨1 + 1, _, by omega, by go_num, rfl, hb'⟩
          case measure => simp [intOf]
        · go_wp2
          go_round
          case rel => exact ⟨1 + 1, _, by omega, by go_num, rfl, hb'⟩
          case measure => simp [intOf]
      · have hb' := Lib.hid (any_step hb.out (show [l0, l1, l2][2]? = some l2 from rfl))
        clear hb
        rcases b with _ | _
        · go_wp2
          go_round
          case rel => exact ⟨2 + 1, _, by omega, by go_num, rfl, hb'⟩
          case measure => simp [intOf]
        · go_wp2
          go_round
          case rel => exact ⟨2 + 1, _, by omega, by go_num, rfl, hb'⟩
          case measure => simp [intOf]
    · obtain rfl : j = 3 := by omega
      rcases b with _ | _
      · obtain ⟨bt, hbt⟩ : ∃ bt, (!l2 == 0) = bt := ⟨_, rfl⟩
        have HB := Lib.hid hbt
        clear hbt
        have hC := hz.drew.s
        go_upto_region 11 with (fail)
        refine region_class (S1 w A (⟨e, 2, l0, l1, l2⟩ : Tm)) (by kernel_rfl) (by kernel_rfl) hC ?_
        clear hC HS
        repeat
          (refine step_class (fun K hK => ?_)
           go_simp
           first
             | (refine hK _ ?_; clear hK K)
             | (with_reducible apply Hq.of
                · intro wv hv
                  have Hv := Lib.hid hv
                  obtain ⟨hz, ⟨_, _, _, _, _, _⟩⟩ := hv
                  go_simp
                  (first
                    | (with_reducible exact rfl)
                    | (go_at_call 56; (with_reducible refine (rounds2 e l0 l1 l2 _).mono ?_); rintro e w1 ⟨rfl, hb1⟩; exact ⟨rfl, s1_below hb1 Hv.out⟩))
                refine hK _ ?_
                clear hK K))
        refine nil_class ?_
        intro wq hq
        have HS := Lib.hid hq
        obtain ⟨hz, ⟨_, _, _, _, _, _⟩⟩ := hq
        try rw [HB.out]
        rcases bt with _ | _
        · obtain rfl : c = 0 := HC.out.symm.trans (tck_no (by simp) hb.out (by
            have h := HB.out
            simp at h ⊢ <;> try omega))
          go_wp2
          go_ret
          exact ⟨rfl, hz.z⟩
        · obtain rfl : c = 6 := HC.out.symm.trans (tck_so (by simp) hb.out (by
            have h := HB.out
            simp at h ⊢ <;> try omega))
          go_wp2
          go_ret
          exact ⟨rfl, hz.z⟩
      · obtain rfl : c = 1 := HC.out.symm.trans (tck_gr (by simp) hb.out)
        go_wp2
        go_ret
        exact ⟨rfl, hz.z⟩
set_option maxHeartbeats 2000000 in
theorem check3 (e l0 l1 l2 : Int) (w : World) (c : Int) (hc : tck ⟨e, 3, l0, l1, l2⟩ = c) : Calls Try.prog 50 #[.agg #[.int .u32 e, .int .i64 3, .int .u32 l0, .int .u32 l1, .int .u32 l2]] w fun e' w' => e' = .returned (.int .i64 c) ∧ Below w.heap.size w w' := by
  have HC := Lib.hid hc
  clear hc
  go_enter Try.func50, Try.ntmps50
  go_upto_region 1 with (fail)
  have hw : W1 w w.heap.size (⟨e, 3, l0, l1, l2⟩ : Tm) (w.alloc (.cells #[.int .u32 e, .int .i64 3, .int .u32 l0, .int .u32 l1, .int .u32 l2] 49)) := ⟨Row.new w _ 49, below_new _ _⟩
  generalize w.alloc (.cells #[.int .u32 e, .int .i64 3, .int .u32 l0, .int .u32 l1, .int .u32 l2] 49) = wc at hw ⊢
  generalize w.heap.size = A at hw ⊢
  have HS := Lib.hid hw.s
  obtain ⟨hz, ⟨_, _, _, _, _, _⟩⟩ := hw.s
  clear hw
  have i0 : ∀ w, (Instr.index 24 (.agg #[.int .u32 l0, .int .u32 l1, .int .u32 l2]) (.int .i64 0)).run Try.prog w = .ok (.int .u32 l0) w := fun _ => by kernel_rfl
  have i1 : ∀ w, (Instr.index 24 (.agg #[.int .u32 l0, .int .u32 l1, .int .u32 l2]) (.int .i64 1)).run Try.prog w = .ok (.int .u32 l1) w := fun _ => by kernel_rfl
  have i2 : ∀ w, (Instr.index 24 (.agg #[.int .u32 l0, .int .u32 l1, .int .u32 l2]) (.int .i64 2)).run Try.prog w = .ok (.int .u32 l2) w := fun _ => by kernel_rfl
  go_wp2_with (go_at_call 52; (with_reducible refine (sthere_any 3 _).mono ?_); rw [show decide ((0 : Int) ≤ 3 ∧ (3 : Int) ≤ 3) = true from rfl]; rintro e w' ⟨rfl, rfl⟩)
  go_loop [3, 15] (fun v i => ∃ (j : Nat) (b : Bool), j ≤ 3 ∧ i = .int .i64 j ∧ v = .bool b ∧ Hid ((gr e || ([l0, l1, l2].take j).any gr) = b)) (fun _ i => 3 - (intOf i).toNat)
  case atStart => exact ⟨0, _, by omega, rfl, rfl, Lib.hid (by simp [gr])⟩
  case round =>
    obtain ⟨j, b, hj, rfl, rfl, hb⟩ := hrel
    by_cases hlt : j < 3
    · have hj3 : j = 0 ∨ j = 1 ∨ j = 2 := by omega
      rcases hj3 with rfl | rfl | rfl
      · have hb' := Lib.hid (any_step hb.out (show [l0, l1, l2][0]? = some l0 from rfl))
        clear hb
        rcases b with _ | _
        · go_wp2
          go_round
          case rel => exact ⟨0 + 1, _, by omega, by go_num, rfl, hb'⟩
          case measure => simp [intOf]
        · go_wp2
          go_round
          case rel => exact ⟨0 + 1, _, by omega, by go_num, rfl, hb'⟩
          case measure => simp [intOf]
      · have hb' := Lib.hid (any_step hb.out (show [l0, l1, l2][1]? = some l1 from rfl))
        clear hb
        rcases b with _ | _
        · go_wp2
          go_round
          case rel => exact ⟨1 + 1, _, by omega, by go_num, rfl, hb'⟩
          case measure => simp [intOf]
        · go_wp2
          go_round
          case rel => exact ⟨1 + 1, _, by omega, by go_num, rfl, hb'⟩
          case measure => simp [intOf]
      · have hb' := Lib.hid (any_step hb.out (show [l0, l1, l2][2]? = some l2 from rfl))
        clear hb
        rcases b with _ | _
        · go_wp2
          go_round
          case rel => exact ⟨2 + 1, _, by omega, by go_num, rfl, hb'⟩
          case measure => simp [intOf]
        · go_wp2
          go_round
          case rel => exact ⟨2 + 1, _, by omega, by go_num, rfl, hb'⟩
          case measure => simp [intOf]
    · obtain rfl : j = 3 := by omega
      rcases b with _ | _
      · obtain ⟨bt, hbt⟩ : ∃ bt, false = bt := ⟨_, rfl⟩
        have HB := Lib.hid hbt
        clear hbt
        have hC := hz.drew.s
        go_upto_region 11 with (fail)
        refine region_class (S1 w A (⟨e, 3, l0, l1, l2⟩ : Tm)) (by kernel_rfl) (by kernel_rfl) hC ?_
        clear hC HS
        repeat
          (refine step_class (fun K hK => ?_)
           go_simp
           first
             | (refine hK _ ?_; clear hK K)
             | (with_reducible apply Hq.of
                · intro wv hv
                  have Hv := Lib.hid hv
                  obtain ⟨hz, ⟨_, _, _, _, _, _⟩⟩ := hv
                  go_simp
                  (first
                    | (with_reducible exact rfl)
                    | (go_at_call 56; (with_reducible refine (rounds3 e l0 l1 l2 _).mono ?_); rintro e w1 ⟨rfl, hb1⟩; exact ⟨rfl, s1_below hb1 Hv.out⟩))
                refine hK _ ?_
                clear hK K))
        refine nil_class ?_
        intro wq hq
        have HS := Lib.hid hq
        obtain ⟨hz, ⟨_, _, _, _, _, _⟩⟩ := hq
        try rw [HB.out]
        rcases bt with _ | _
        · obtain rfl : c = 0 := HC.out.symm.trans (tck_no (by simp) hb.out (by
            have h := HB.out
            simp at h ⊢ <;> try omega))
          go_wp2
          go_ret
          exact ⟨rfl, hz.z⟩
        · cases HB.out
      · obtain rfl : c = 1 := HC.out.symm.trans (tck_gr (by simp) hb.out)
        go_wp2
        go_ret
        exact ⟨rfl, hz.z⟩
theorem checkX (e d l0 l1 l2 : Int) (w : World) (hd : ¬ (0 ≤ d ∧ d ≤ 3)) : Calls Try.prog 50 #[.agg #[.int .u32 e, .int .i64 d, .int .u32 l0, .int .u32 l1, .int .u32 l2]] w fun e' w' => e' = .returned (.int .i64 10) ∧ Below w.heap.size w w' := by
  have hD : decide (0 ≤ d ∧ d ≤ 3) = false := decide_eq_false hd
  have HD := Lib.hid hD
  clear hD hd
  go_enter Try.func50, Try.ntmps50
  go_upto_region 1 with (fail)
  have hw : W1 w w.heap.size ⟨e, d, l0, l1, l2⟩ (w.alloc (.cells #[.int .u32 e, .int .i64 d, .int .u32 l0, .int .u32 l1, .int .u32 l2] 49)) := ⟨Row.new w _ 49, below_new _ _⟩
  generalize w.alloc (.cells #[.int .u32 e, .int .i64 d, .int .u32 l0, .int .u32 l1, .int .u32 l2] 49) = wc at hw ⊢
  generalize w.heap.size = A at hw ⊢
  obtain ⟨hz, ⟨_, _, _, _, _, _⟩⟩ := hw.s
  go_wp2_with (go_at_call 52; (with_reducible refine (sthere_any d _).mono ?_); rw [HD.out]; rintro e w' ⟨rfl, rfl⟩)
  go_ret
  exact ⟨rfl, hw.z⟩
theorem tcheck_all (e d l0 l1 l2 : Int) (w : World) (c : Int) (hc : tck ⟨e, d, l0, l1, l2⟩ = c) : Calls Try.prog 50 #[.agg #[.int .u32 e, .int .i64 d, .int .u32 l0, .int .u32 l1, .int .u32 l2]] w fun e' w' => e' = .returned (.int .i64 c) ∧ Below w.heap.size w w' := by
  by_cases hd : 0 ≤ d ∧ d ≤ 3
  · have : d = 0 ∨ d = 1 ∨ d = 2 ∨ d = 3 := by omega
    rcases this with rfl | rfl | rfl | rfl
    · exact check0 e l0 l1 l2 w c hc
    · exact check1 e l0 l1 l2 w c hc
    · exact check2 e l0 l1 l2 w c hc
    · exact check3 e l0 l1 l2 w c hc
  · have : c = 10 := by rw [← hc]; unfold tck; rw [if_pos hd]
    subst this
    exact checkX e d l0 l1 l2 w hd
set_option maxHeartbeats 2000000 in
theorem trcheck_all (e d l0 l1 l2 : Int) (w : World) (c : Int) (hc : tck ⟨e, d, l0, l1, l2⟩ = c) : Calls Try.prog 38 #[.agg #[.int .u32 e, .int .i64 d, .int .u32 l0, .int .u32 l1, .int .u32 l2]] w fun e' w' => e' = .returned (.int .i64 c) ∧ Below w.heap.size w w' := by
  by_cases hd : 0 ≤ d ∧ d ≤ 3
  · obtain ⟨d0, d3⟩ := hd
    by_cases he : 1048576 < e
    · obtain rfl : c = 1 := hc.symm.trans (tck_gr ⟨d0, d3⟩ (by simp [gr, he]))
      clear hc
      go_enter Try.func38, Try.ntmps38
      go_wp2
      go_ret
      exact ⟨rfl, below_new _ _⟩
    · have HC := Lib.hid hc
      clear hc
      have hge : Hid (gr e = false) := by have : gr e = false := by simp [gr]; omega
                                          exact this
      obtain ⟨dn, rfl⟩ := Int.eq_ofNat_of_zero_le d0
      go_enter Try.func38, Try.ntmps38
      go_upto_region 1 with (fail)
      have hw : W1 w w.heap.size ⟨e, dn, l0, l1, l2⟩ (w.alloc (.cells #[.int .u32 e, .int .i64 dn, .int .u32 l0, .int .u32 l1, .int .u32 l2] 49)) := ⟨Row.new w _ 49, below_new _ _⟩
      generalize w.alloc (.cells #[.int .u32 e, .int .i64 dn, .int .u32 l0, .int .u32 l1, .int .u32 l2] 49) = wc at hw ⊢
      generalize w.heap.size = A at hw ⊢
      obtain ⟨hz, ⟨_, _, _, _, _, _⟩⟩ := hw.s
      have hz := hw.z
      clear hw
      go_wp2
      go_loop [3] (fun i => ∃ j : Nat, j ≤ 3 ∧ i = .int .i64 j ∧ Hid (([l0, l1, l2].take j).any gr = false)) (fun i => 3 - (intOf i).toNat)
      case atStart => exact ⟨0, by omega, rfl, Lib.hid rfl⟩
      case round =>
        obtain ⟨j, hj, rfl, hb⟩ := hrel
        by_cases hlt : j < 3
        · have hj3 : j = 0 ∨ j = 1 ∨ j = 2 := by omega
          rcases hj3 with rfl | rfl | rfl
          · by_cases hg : 1048576 < l0
            · obtain rfl : c = 1 := HC.out.symm.trans (tck_gr ⟨d0, d3⟩ (by simp [gr, hg]))
              go_wp2
              go_ret
              exact ⟨rfl, hz⟩
            · have hb' := Lib.hid (any_step0 hb.out (show [l0, l1, l2][0]? = some l0 from rfl) (by simp [gr]; omega))
              go_wp2
              go_round
              case rel => exact ⟨0 + 1, by omega, by go_num, hb'⟩
              case measure => simp [intOf]
          · by_cases hg : 1048576 < l1
            · obtain rfl : c = 1 := HC.out.symm.trans (tck_gr ⟨d0, d3⟩ (by simp [gr, hg]))
              go_wp2
              go_ret
              exact ⟨rfl, hz⟩
            · have hb' := Lib.hid (any_step0 hb.out (show [l0, l1, l2][1]? = some l1 from rfl) (by simp [gr]; omega))
              go_wp2
              go_round
              case rel => exact ⟨1 + 1, by omega, by go_num, hb'⟩
              case measure => simp [intOf]
          · by_cases hg : 1048576 < l2
            · obtain rfl : c = 1 := HC.out.symm.trans (tck_gr ⟨d0, d3⟩ (by simp [gr, hg]))
              go_wp2
              go_ret
              exact ⟨rfl, hz⟩
            · have hb' := Lib.hid (any_step0 hb.out (show [l0, l1, l2][2]? = some l2 from rfl) (by simp [gr]; omega))
              go_wp2
              go_round
              case rel => exact ⟨2 + 1, by omega, by go_num, hb'⟩
              case measure => simp [intOf]
        · obtain rfl : j = 3 := by omega
          have hG := Lib.hid (show (gr e || [l0, l1, l2].any gr) = false by rw [hge.out]; exact hb.out)
          clear hb hge
          go_wp2
          go_loop [4] (fun i => ∃ j : Nat, dn ≤ j ∧ j ≤ 3 ∧ i = .int .i64 j ∧ Hid (∀ t x, dn ≤ t → t < j → [l0, l1, l2][t]? = some x → x = 0)) (fun i => 3 - (intOf i).toNat)
          case atStart => exact ⟨dn, by omega, by omega, rfl, Lib.hid fun t x h1 h2 => absurd h2 (by omega)⟩
          case round =>
            obtain ⟨j, hdj, hj, rfl, hn⟩ := hrel
            by_cases hlt : j < 3
            · have hj3 : j = 0 ∨ j = 1 ∨ j = 2 := by omega
              rcases hj3 with rfl | rfl | rfl
              · by_cases hg : l0 = 0
                · have hn' : Hid (∀ t x, dn ≤ t → t < 0 + 1 → [l0, l1, l2][t]? = some x → x = 0) := Lib.hid fun t x h1 h2 h3 => by
                    by_cases e : t = 0
                    · subst e; cases h3; exact hg
                    · exact hn.out t x h1 (by omega) h3
                  have hg2 : (l0 != 0) = false := by simp [hg]
                  clear hg hn
                  go_wp2
                  go_round
                  case rel => exact ⟨0 + 1, by omega, by omega, by go_num, hn'⟩
                  case measure => simp [intOf]
                · obtain rfl : c = 6 := HC.out.symm.trans (tck_so ⟨d0, d3⟩ hG.out (by simp only; omega))
                  have hg2 : (l0 != 0) = true := by simp [hg]
                  clear hg
                  go_wp2
                  go_ret
                  exact ⟨rfl, hz⟩
              · by_cases hg : l1 = 0
                · have hn' : Hid (∀ t x, dn ≤ t → t < 1 + 1 → [l0, l1, l2][t]? = some x → x = 0) := Lib.hid fun t x h1 h2 h3 => by
                    by_cases e : t = 1
                    · subst e; cases h3; exact hg
                    · exact hn.out t x h1 (by omega) h3
                  have hg2 : (l1 != 0) = false := by simp [hg]
                  clear hg hn
                  go_wp2
                  go_round
                  case rel => exact ⟨1 + 1, by omega, by omega, by go_num, hn'⟩
                  case measure => simp [intOf]
                · obtain rfl : c = 6 := HC.out.symm.trans (tck_so ⟨d0, d3⟩ hG.out (by simp only; omega))
                  have hg2 : (l1 != 0) = true := by simp [hg]
                  clear hg
                  go_wp2
                  go_ret
                  exact ⟨rfl, hz⟩
              · by_cases hg : l2 = 0
                · have hn' : Hid (∀ t x, dn ≤ t → t < 2 + 1 → [l0, l1, l2][t]? = some x → x = 0) := Lib.hid fun t x h1 h2 h3 => by
                    by_cases e : t = 2
                    · subst e; cases h3; exact hg
                    · exact hn.out t x h1 (by omega) h3
                  have hg2 : (l2 != 0) = false := by simp [hg]
                  clear hg hn
                  go_wp2
                  go_round
                  case rel => exact ⟨2 + 1, by omega, by omega, by go_num, hn'⟩
                  case measure => simp [intOf]
                · obtain rfl : c = 6 := HC.out.symm.trans (tck_so ⟨d0, d3⟩ hG.out (by simp only; omega))
                  have hg2 : (l2 != 0) = true := by simp [hg]
                  clear hg
                  go_wp2
                  go_ret
                  exact ⟨rfl, hz⟩
            · obtain rfl : j = 3 := by omega
              obtain rfl : c = 0 := HC.out.symm.trans (tck_no ⟨d0, d3⟩ hG.out (by
                simp only
                have q0 := hn.out 0 l0
                have q1 := hn.out 1 l1
                have q2 := hn.out 2 l2
                simp at q0 q1 q2
                omega))
              go_wp2
              go_ret
              exact ⟨rfl, hz⟩
  · have : c = 10 := by rw [← hc]; unfold tck; rw [if_pos hd]
    subst this
    clear hc
    by_cases h1 : d < 0
    · clear hd
      go_enter Try.func38, Try.ntmps38
      go_wp2
      go_ret
      exact ⟨rfl, below_new _ _⟩
    · have h2 : 3 < d := by omega
      clear hd
      go_enter Try.func38, Try.ntmps38
      go_wp2
      go_ret
      exact ⟨rfl, below_new _ _⟩
end Go.Proofs.Ytfmnbkcjibhloaa
