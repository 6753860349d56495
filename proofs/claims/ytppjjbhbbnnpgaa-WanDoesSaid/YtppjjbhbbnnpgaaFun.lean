/- slices.IndexFunc at lists of letters, with Cut's own function. Conditions: the list lies whole in memory. -/
import Derived.Test.YtppjjbhbbnnpgaaDel
namespace Go.Proofs.Ytppjjbhbbnnpgaa
open Go.RowKit G
set_option linter.unusedVariables false
set_option linter.unusedSimpArgs false
def hit (a b : Int) (y : Lt) : Bool := decide (y.f = a ∧ y.t = b)
abbrev cutF (A B : Nat) : Value := .func (.func 29) #[] #[.pointer (some ⟨A, 0, none⟩), .pointer (some ⟨B, 0, none⟩)]
theorem hit_any {w : World} {A B : Nat} {a b : Int} (hA : Row w A #[.int .i64 a] 3) (hB : Row w B #[.int .i64 b] 3) (f t : Int) (s : ByteArray) :
    Calls Try.prog 29 #[.agg #[.int .i64 f, .int .i64 t, .string s], .pointer (some ⟨A, 0, none⟩), .pointer (some ⟨B, 0, none⟩)] w fun e w' => e = .returned (.bool (hit a b ⟨f, t, s⟩)) ∧ Below w.heap.size w w' := by
  have hA' := hA.alloc (.cells #[.int .i64 f, .int .i64 t, .string s] 34)
  have hB' := hB.alloc (.cells #[.int .i64 f, .int .i64 t, .string s] 34)
  have cA := hA'.cell 0 _ rfl
  have cB := hB'.cell 0 _ rfl
  simp only [List.getElem_toArray, List.getElem_cons_zero] at cA cB
  clear hA hB hA' hB'
  by_cases h1 : f = a
  · by_cases h2 : t = b
    · have e : hit a b ⟨f, t, s⟩ = true := by simp [hit, h1, h2]
      rw [e]
      have q1 : (f == a) = true := by simp [h1]
      have q2 : (t == b) = true := by simp [h2]
      clear h1 h2 e
      go_enter Try.func29, Try.ntmps29
      go_wp2
      go_ret
      exact ⟨by simp [q1, q2], below_new _ _⟩
    · have e : hit a b ⟨f, t, s⟩ = false := by simp [hit, h2]
      rw [e]
      have q1 : (f == a) = true := by simp [h1]
      have q2 : (t == b) = false := by simp [h2]
      clear h1 h2 e
      go_enter Try.func29, Try.ntmps29
      go_wp2
      go_ret
      exact ⟨by simp [q1, q2], below_new _ _⟩
  · have e : hit a b ⟨f, t, s⟩ = false := by simp [hit, h1]
    rw [e]
    have q1 : (f == a) = false := by simp [h1]
    clear h1 e
    go_enter Try.func29, Try.ntmps29
    go_wp2
    go_ret
    exact ⟨by simp [q1], below_new _ _⟩
theorem Blk.below {w w' : World} {g cap : Nat} {ls : List Lt} {cs : Array Value} (h : Blk w g cap ls cs) (hb : Below w.heap.size w w') : Blk w' g cap ls cs := ⟨h.r.below hb, h.size, h.len, h.max, h.at_⟩
theorem Blk.read {w : World} {g cap : Nat} {ls : List Lt} {cs : Array Value} (h : Blk w g cap ls cs) {i : Nat} {y : Lt} (hy : ls[i]? = some y) :
    w.cell? ⟨g, i * 3, none⟩ = some (.int .i64 y.f) ∧ w.cell? ⟨g, i * 3 + 1, none⟩ = some (.int .i64 y.t) ∧ w.cell? ⟨g, i * 3 + 2, none⟩ = some (.string y.s) := Ls.read h.own hy
set_option maxHeartbeats 4000000 in
theorem index_any {w : World} {A B g cap : Nat} {a b : Int} {ls : List Lt} {cs : Array Value} (hA : Row w A #[.int .i64 a] 3) (hB : Row w B #[.int .i64 b] 3) (h : Blk w g cap ls cs) (hm : ls.length ≤ 1000) :
    Calls Try.prog 30 #[.slice (some ⟨g, 0, none⟩) ls.length cap, cutF A B] w fun e w' => ∃ r : Int, e = .returned (.int .i64 r) ∧ Below w.heap.size w w' ∧
      ((r = -1 ∧ ∀ (j : Nat) (y : Lt), ls[j]? = some y → hit a b y = false) ∨ ∃ i : Nat, r = i ∧ (∃ y, ls[i]? = some y ∧ hit a b y = true) ∧ ∀ (j : Nat) (y : Lt), j < i → ls[j]? = some y → hit a b y = false) := by
  have H := Lib.hid (And.intro hA (And.intro hB h))
  clear hA hB h
  go_enter Try.func30, Try.ntmps30
  go_wp2
  go_loopw [8] (fun i wr => ∃ k : Nat, k ≤ ls.length ∧ i = .int .i64 k ∧ Below w.heap.size w wr ∧ ∀ (j : Nat) (y : Lt), j < k → ls[j]? = some y → hit a b y = false) (fun i _ => ls.length - (intOf i).toNat)
  case atStart => exact ⟨0, Nat.zero_le _, rfl, Below.refl _ _, fun j y hj _ => absurd hj (by omega)⟩
  case round =>
    obtain ⟨k, hk, rfl, hb, hno⟩ := hrel
    by_cases hlt : k < ls.length
    · have ek := List.getElem?_eq_getElem hlt
      obtain ⟨z0, z1, z2⟩ := (H.out.2.2.below hb).read ek
      have HB := Lib.hid hb
      have HNO := Lib.hid hno
      generalize ls[k] = y at z0 z1 z2 ek
      obtain ⟨f, t, s⟩ := y
      simp only at z0 z1 z2
      have HE := Lib.hid ek
      have h2 : (k : Int) < (ls.length : Int) := by omega
      clear hb hno ek
      cases hh : hit a b ⟨f, t, s⟩
      · have HH := Lib.hid hh
        clear hh
        go_wp2_with (go_at_call 29; (with_reducible refine (hit_any (H.out.1.below HB.out) (H.out.2.1.below HB.out) f t s).mono ?_); rw [HH.out]; rintro e' w1 ⟨rfl, hb1⟩)
        go_roundw
        case rel => exact ⟨k + 1, by omega, by go_num, below_of HB.out hb1, fun j y hj hy => by
            by_cases e : j = k
            · subst e; rw [HE.out] at hy; cases hy; exact HH.out
            · exact HNO.out j y (by omega) hy⟩
        case measure => simp [intOf]; omega
      · have HH := Lib.hid hh
        clear hh
        go_wp2_with (go_at_call 29; (with_reducible refine (hit_any (H.out.1.below HB.out) (H.out.2.1.below HB.out) f t s).mono ?_); rw [HH.out]; rintro e' w1 ⟨rfl, hb1⟩)
        go_ret
        exact ⟨_, rfl, below_of HB.out hb1, .inr ⟨k, rfl, ⟨_, HE.out, HH.out⟩, HNO.out⟩⟩
    · obtain rfl : k = ls.length := by omega
      have HB := Lib.hid hb
      have HNO := Lib.hid hno
      clear hb hno
      go_wp2
      go_ret
      exact ⟨_, rfl, HB.out, .inl ⟨rfl, fun j y hy => HNO.out j y (List.getElem?_eq_some_iff.1 hy).1 hy⟩⟩
theorem index_nil {w : World} {A B : Nat} : Calls Try.prog 30 #[.slice none 0 0, cutF A B] w fun e w' => e = .returned (.int .i64 (-1)) ∧ w' = w := by
  go_enter Try.func30, Try.ntmps30
  go_wp2
  go_loopw [8] (fun i wr => i = .int .i64 0 ∧ wr = w) (fun i _ => 0)
  case atStart => exact ⟨rfl, rfl⟩
  case round =>
    obtain ⟨rfl, rfl⟩ := hrel
    go_wp2
    go_ret
    exact ⟨rfl, rfl⟩
theorem delf_nil {w : World} {A B : Nat} : Calls Try.prog 28 #[.slice none 0 0, cutF A B] w fun e w' => e = .returned (.slice none 0 0) ∧ w' = w := by
  go_enter Try.func28, Try.ntmps28
  go_wp2_with (go_at_call 30; (with_reducible refine index_nil.mono ?_); rintro e' w1 ⟨rfl, rfl⟩)
  go_ret
  exact ⟨rfl, rfl⟩
def keepL (a b : Int) (ls : List Lt) : List Lt := ls.filter fun y => !hit a b y
theorem zero_one (n : Nat) : ∀ u ∈ (Builtin.zeroCells (Value.agg #[.int .i64 0, .int .i64 0, .string ⟨#[]⟩]).cells n).toList, u.oneCell' = true := by
  intro u hu
  simp only [Builtin.zeroCells, Value.cells] at hu
  simp only [Array.toList_map, List.mem_map] at hu
  obtain ⟨i, _, rfl⟩ := hu
  have h3 : i % 3 = 0 ∨ i % 3 = 1 ∨ i % 3 = 2 := by omega
  have e3 : (#[Value.int .i64 0, .int .i64 0, .string ⟨#[]⟩] : Array Value).size = 3 := rfl
  rw [e3]
  rcases h3 with h | h | h <;> rw [h] <;> rfl
theorem zero_len (n : Nat) : (Builtin.zeroCells (Value.agg #[.int .i64 0, .int .i64 0, .string ⟨#[]⟩]).cells n).toList.length = n * 3 := by simp [Builtin.zeroCells, Value.cells]
/-- A list that is half cut: the first k hold what stays of the first j, the rest is as it was. -/
structure Half (w : World) (g cap : Nat) (a b : Int) (ls : List Lt) (j : Nat) : Prop where
  ex : ∃ cs, Row w g cs 34 ∧ cs.size = cap * 3 ∧ (∀ (q : Nat) (u : Value), (lts (keepL a b (ls.take j)))[q]? = some u → cs[q]? = some u) ∧ (∀ (q : Nat) (u : Value), j * 3 ≤ q → (lts ls)[q]? = some u → cs[q]? = some u)
theorem keep_le (a b : Int) (ls : List Lt) (j : Nat) : (keepL a b (ls.take j)).length ≤ j := by
  have := List.length_filter_le (fun y => !hit a b y) (ls.take j)
  rw [List.length_take] at this
  unfold keepL; omega
theorem take_snoc {ls : List Lt} {j : Nat} {y : Lt} (h : ls[j]? = some y) : ls.take (j + 1) = ls.take j ++ [y] := by rw [List.take_add_one, h]; rfl
theorem keep_hit {a b : Int} {ls : List Lt} {j : Nat} {y : Lt} (h : ls[j]? = some y) (hh : hit a b y = true) : keepL a b (ls.take (j + 1)) = keepL a b (ls.take j) := by
  unfold keepL; rw [take_snoc h, List.filter_append]; simp [hh]
theorem keep_miss {a b : Int} {ls : List Lt} {j : Nat} {y : Lt} (h : ls[j]? = some y) (hh : hit a b y = false) : keepL a b (ls.take (j + 1)) = keepL a b (ls.take j) ++ [y] := by
  unfold keepL; rw [take_snoc h, List.filter_append]; simp [hh]
theorem keep_none {a b : Int} {ls : List Lt} {i : Nat} (h : ∀ (j : Nat) (y : Lt), j < i → ls[j]? = some y → hit a b y = false) : keepL a b (ls.take i) = ls.take i := by
  unfold keepL
  rw [List.filter_eq_self]
  intro y hy
  obtain ⟨j, hj⟩ := List.mem_iff_getElem?.1 hy
  have hlt := (List.getElem?_eq_some_iff.1 hj).1
  rw [List.length_take] at hlt
  rw [List.getElem?_take, if_pos (by omega)] at hj
  rw [h j y (by omega) hj]; rfl
theorem Half.start {w : World} {g cap i : Nat} {a b : Int} {ls : List Lt} {cs : Array Value} (h : Blk w g cap ls cs) (hi : ∃ y, ls[i]? = some y ∧ hit a b y = true) (hn : ∀ (j : Nat) (y : Lt), j < i → ls[j]? = some y → hit a b y = false) : Half w g cap a b ls (i + 1) ∧ (keepL a b (ls.take (i + 1))).length = i := by
  obtain ⟨y, hy, hh⟩ := hi
  have hlt := (List.getElem?_eq_some_iff.1 hy).1
  have e : keepL a b (ls.take (i + 1)) = ls.take i := by rw [keep_hit hy hh, keep_none hn]
  refine ⟨⟨cs, h.r, h.size, fun q u hq => ?_, fun q u _ hq => h.at_ q u hq⟩, by rw [e, List.length_take]; omega⟩
  rw [e] at hq
  refine h.at_ q u ?_
  rw [lts_split ls i, List.getElem?_append_left (List.getElem?_eq_some_iff.1 hq).1]
  exact hq
theorem Half.below {w w' : World} {g cap j : Nat} {a b : Int} {ls : List Lt} (h : Half w g cap a b ls j) (hb : Below w.heap.size w w') : Half w' g cap a b ls j := by
  obtain ⟨cs, r, s, p, q⟩ := h.ex
  exact ⟨cs, r.below hb, s, p, q⟩
theorem Half.hits {w : World} {g cap j : Nat} {a b : Int} {ls : List Lt} {y : Lt} (h : Half w g cap a b ls j) (hy : ls[j]? = some y) (hh : hit a b y = true) : Half w g cap a b ls (j + 1) := by
  obtain ⟨cs, r, s, p, q⟩ := h.ex
  exact ⟨cs, r, s, by rw [keep_hit hy hh]; exact p, fun k u hk => q k u (by omega)⟩
theorem Half.read {w : World} {g cap j : Nat} {a b : Int} {ls : List Lt} {y : Lt} (h : Half w g cap a b ls j) (hy : ls[j]? = some y) :
    w.cell? ⟨g, j * 3, none⟩ = some (.int .i64 y.f) ∧ w.cell? ⟨g, j * 3 + 1, none⟩ = some (.int .i64 y.t) ∧ w.cell? ⟨g, j * 3 + 2, none⟩ = some (.string y.s) := by
  obtain ⟨cs, r, s, p, q⟩ := h.ex
  have key : ∀ k u, k < 3 → (ltc y)[k]? = some u → w.cell? ⟨g, j * 3 + k, none⟩ = some u := fun k u hk hu => r.cell _ _ (q _ _ (by omega) (by rw [lts_get ls j y hy k hk]; exact hu))
  exact ⟨key 0 _ (by decide) rfl, key 1 _ (by decide) rfl, key 2 _ (by decide) rfl⟩
theorem Half.free {w : World} {g cap j : Nat} {a b : Int} {ls : List Lt} (h : Half w g cap a b ls j) : ∀ i, w.frozen? ⟨g, i, none⟩ = false := by
  obtain ⟨cs, r, s, p, q⟩ := h.ex
  exact r.free
theorem Half.cellSome {w : World} {g cap j : Nat} {a b : Int} {ls : List Lt} (h : Half w g cap a b ls j) {i : Nat} (hi : i < cap * 3) : ∃ u, w.cell? ⟨g, i, none⟩ = some u := by
  obtain ⟨cs, r, s, p, q⟩ := h.ex
  exact ⟨_, r.cell i _ (Array.getElem?_eq_getElem (by omega))⟩
/-- One that stays is laid behind those that stay. -/
theorem Half.miss {w : World} {g cap j : Nat} {a b : Int} {ls : List Lt} {y : Lt} (h : Half w g cap a b ls j) (hl : ls.length ≤ cap) (hy : ls[j]? = some y) (hh : hit a b y = false) : Half (w.setCells g ((keepL a b (ls.take j)).length * 3) (ltc y)) g cap a b ls (j + 1) := by
  obtain ⟨cs, r, s, p, q⟩ := h.ex
  have hlt := (List.getElem?_eq_some_iff.1 hy).1
  have hk := keep_le a b ls j
  obtain ⟨cs', r', s', lo, hi, mid⟩ := row_setCells (ltc y) ((keepL a b (ls.take j)).length * 3) w cs r
  have hlen : (ltc y).length = 3 := rfl
  refine ⟨cs', r', by rw [s']; exact s, fun k u hu => ?_, fun k u hk2 hu => ?_⟩
  · rw [keep_miss hy hh, lts_snoc] at hu
    by_cases hc : k < (keepL a b (ls.take j)).length * 3
    · rw [List.getElem?_append_left (by rw [lts_len]; exact hc)] at hu
      rw [lo k hc]; exact p k u hu
    · rw [List.getElem?_append_right (by rw [lts_len]; omega), lts_len] at hu
      have := mid (by rw [hlen, s]; omega) _ u hu
      rw [show (keepL a b (ls.take j)).length * 3 + (k - (keepL a b (ls.take j)).length * 3) = k by omega] at this
      exact this
  · rw [hi k (by rw [hlen]; omega)]
    exact q k u (by omega) hu
set_option maxHeartbeats 4000000 in
theorem delf_any {w : World} {A B g cap : Nat} {a b : Int} {ls : List Lt} {cs : Array Value} (hA : Row w A #[.int .i64 a] 3) (hB : Row w B #[.int .i64 b] 3) (h : Blk w g cap ls cs) (hm : ls.length ≤ 1000) (nA : A ≠ g) (nB : B ≠ g) :
    Calls Try.prog 28 #[.slice (some ⟨g, 0, none⟩) ls.length cap, cutF A B] w fun e w' => e = .returned (.slice (some ⟨g, 0, none⟩) (keepL a b ls).length cap) ∧ (∃ cs', Blk w' g cap (keepL a b ls) cs') ∧ Kept [g] w w' := by
  have hl := h.len
  have hmx := h.max
  unfold maxLen at hmx
  have H := Lib.hid (And.intro hA (And.intro hB (And.intro h (And.intro hm (And.intro nA nB)))))
  obtain ⟨i0, hi0, hz0, hz1, hz2⟩ := info_parts info34
  clear hA hB h nA nB
  go_enter Try.func28, Try.ntmps28
  go_upto_region 2 with (go_at_call 30; (with_reducible refine (index_any H.out.1 H.out.2.1 H.out.2.2.1 H.out.2.2.2.1).mono ?_); rintro e' w1 ⟨r, rfl, hb1, hr⟩)
  rcases hr with ⟨rfl, hno⟩ | ⟨i, rfl, hi, hno⟩
  · have e : keepL a b ls = ls := by have := keep_none (i := ls.length) (fun j y _ hy => hno j y hy); rwa [List.take_length] at this
    have HF := Lib.hid (And.intro (H.out.2.2.1.below hb1) (And.intro (Kept.of_below (F := [g]) hb1) e))
    clear hno e hb1
    go_wp2
    go_ret
    exact ⟨by rw [HF.out.2.2]; rfl, by rw [HF.out.2.2]; exact ⟨_, HF.out.1⟩, HF.out.2.1⟩
  · obtain ⟨hs, hsl⟩ := Half.start (H.out.2.2.1.below hb1) hi hno
    have hil : i < ls.length := by obtain ⟨y, hy, -⟩ := hi; exact (List.getElem?_eq_some_iff.1 hy).1
    have hk1 := Kept.of_below (F := [g]) hb1
    clear hi hno hb1
    have hi1 : ((i : Int) == -1) = false := by simp
    go_wp2
    go_loopw [5, 6] (fun vi vj wr => ∃ ki kj : Nat, vi = .int .i64 ki ∧ vj = .int .i64 kj ∧ ki < kj ∧ kj ≤ ls.length ∧ ki = (keepL a b (ls.take kj)).length ∧ Half wr g cap a b ls kj ∧ Kept [g] w wr) (fun _ vj _ => ls.length - (intOf vj).toNat)
    case atStart => exact ⟨i, i + 1, rfl, by go_num, by omega, by omega, hsl.symm, hs, hk1⟩
    case round =>
      obtain ⟨ki, kj, rfl, rfl, hij, hj, hki, hh, hk⟩ := hrel
      clear hs hk1 hsl
      by_cases hlt : kj < ls.length
      · have ek := List.getElem?_eq_getElem hlt
        obtain ⟨z0, z1, z2⟩ := hh.read ek
        have hfr := hh.free
        obtain ⟨u0, x0⟩ := hh.cellSome (i := ki * 3) (by omega)
        obtain ⟨u1, x1⟩ := hh.cellSome (i := ki * 3 + 1) (by omega)
        obtain ⟨u2, x2⟩ := hh.cellSome (i := ki * 3 + 2) (by omega)
        generalize ls[kj] = y at z0 z1 z2 ek
        obtain ⟨f, t, s⟩ := y
        simp only at z0 z1 z2
        have HE := Lib.hid ek
        have HH := Lib.hid (And.intro hh (And.intro hk hki))
        have h2 : (kj : Int) < (ls.length : Int) := by omega
        have h3 : (ki : Int) < (ls.length : Int) := by omega
        clear ek hh hk hki
        have hA := H.out.1.kept HH.out.2.1 (by simp; exact H.out.2.2.2.2.1)
        have hB := H.out.2.1.kept HH.out.2.1 (by simp; exact H.out.2.2.2.2.2)
        have HAB := Lib.hid (And.intro hA hB)
        clear hA hB
        go_upto_region 8 with (fail)
        have hbn := below_new wr (.cells #[.int .i64 f, .int .i64 t, .string s] 34)
        have HX := Lib.hid (And.intro (Row.new wr #[.int .i64 f, .int .i64 t, .string s] 34) (And.intro (HH.out.1.below hbn) (And.intro (HH.out.2.1.below hbn) (And.intro (HAB.out.1.below hbn) (HAB.out.2.below hbn)))))
        have y0 : (wr.alloc (.cells #[.int .i64 f, .int .i64 t, .string s] 34)).cell? ⟨wr.heap.size, 0, none⟩ = some (.int .i64 f) := HX.out.1.cell 0 _ rfl
        have y1 : (wr.alloc (.cells #[.int .i64 f, .int .i64 t, .string s] 34)).cell? ⟨wr.heap.size, 1, none⟩ = some (.int .i64 t) := HX.out.1.cell 1 _ rfl
        have y2 : (wr.alloc (.cells #[.int .i64 f, .int .i64 t, .string s] 34)).cell? ⟨wr.heap.size, 2, none⟩ = some (.string s) := HX.out.1.cell 2 _ rfl
        clear hbn z0 z1 z2 x0 x1 x2 hfr
        have HKI := Lib.hid HH.out.2.2
        clear HH HAB
        generalize wr.alloc (.cells #[.int .i64 f, .int .i64 t, .string s] 34) = wc at HX y0 y1 y2 ⊢
        generalize wr.heap.size = E at HX y0 y1 y2 ⊢
        cases hh : hit a b ⟨f, t, s⟩
        · have HM := Lib.hid hh
          clear hh
          go_upto_region 9 with (go_at_call 29; (with_reducible refine (hit_any HX.out.2.2.2.1 HX.out.2.2.2.2 f t s).mono ?_); rw [HM.out]; rintro e' w2 ⟨rfl, hb2⟩)
          have HY := Lib.hid (And.intro (HX.out.1.below hb2) (And.intro (HX.out.2.1.below hb2) (HX.out.2.2.1.below hb2)))
          clear y0 y1 y2 hb2
          have y0 : w2.cell? ⟨E, 0, none⟩ = some (.int .i64 f) := HY.out.1.cell 0 _ rfl
          have y1 : w2.cell? ⟨E, 1, none⟩ = some (.int .i64 t) := HY.out.1.cell 1 _ rfl
          have y2 : w2.cell? ⟨E, 2, none⟩ = some (.string s) := HY.out.1.cell 2 _ rfl
          obtain ⟨u0, x0⟩ := HY.out.2.1.cellSome (i := ki * 3) (by omega)
          obtain ⟨u1, x1⟩ := HY.out.2.1.cellSome (i := ki * 3 + 1) (by omega)
          obtain ⟨u2, x2⟩ := HY.out.2.1.cellSome (i := ki * 3 + 2) (by omega)
          have hfr := HY.out.2.1.free
          go_wp2
          go_roundw
          case rel =>
            have hmv := HY.out.2.1.miss hl HE.out HM.out
            rw [← HKI.out] at hmv
            have hkv : Kept [g] w (w2.setCells g (ki * 3) (ltc ⟨f, t, s⟩)) := kept_setCells (by simp) _ _ _ HY.out.2.2
            exact ⟨ki + 1, kj + 1, by go_num, by go_num, by omega, by omega, by rw [keep_miss HE.out HM.out, List.length_append, ← HKI.out]; rfl, hmv, hkv⟩
          case measure => simp [intOf]; omega
        · have HM := Lib.hid hh
          clear hh
          go_wp2_with (go_at_call 29; (with_reducible refine (hit_any HX.out.2.2.2.1 HX.out.2.2.2.2 f t s).mono ?_); rw [HM.out]; rintro e' w2 ⟨rfl, hb2⟩)
          go_roundw
          case rel => exact ⟨ki, kj + 1, rfl, by go_num, by omega, by omega, by rw [keep_hit HE.out HM.out]; exact HKI.out, (HX.out.2.1.below hb2).hits HE.out HM.out, HX.out.2.2.1.below hb2⟩
          case measure => simp [intOf]; omega
      · obtain rfl : kj = ls.length := by omega
        have hkk : keepL a b (ls.take ls.length) = keepL a b ls := by rw [List.take_length]
        obtain ⟨cs1, r1, s1, p1, -⟩ := hh.ex
        rw [hkk] at p1 hki
        obtain ⟨m, hm2⟩ : ∃ m, ls.length = ki + m + 1 := ⟨ls.length - ki - 1, by omega⟩
        have hcl : ∀ ty, (Builtin.clear_ #[56] ty #[.slice (some ⟨g, ki * 3, none⟩) (m + 1) (cap - ki)]).run Try.prog wr = .ok (.tuple #[]) (wr.setCells g (ki * 3) ((Builtin.zeroCells (Value.agg #[.int .i64 0, .int .i64 0, .string ⟨#[]⟩]).cells (m + 1)).toList)) := by
          intro ty
          refine run_clear_any wr 56 34 ty (.agg #[.int .i64 0, .int .i64 0, .string ⟨#[]⟩]) _ Try.underlying56 ?_ g (ki * 3) (m + 1) (cap - ki) (by omega) rfl (zero_one _) ?_ ?_
          · intro w'
            simp [zeroValue, typeInfo, hi0, hz0]
          · intro j hj
            rw [zero_len] at hj
            rw [r1.cell (ki * 3 + j) _ (Array.getElem?_eq_getElem (by omega))]
            rfl
          · exact fun j _ => r1.free _
        generalize (Builtin.zeroCells (Value.agg #[.int .i64 0, .int .i64 0, .string ⟨#[]⟩]).cells (m + 1)).toList = zs at hcl
        obtain ⟨cs2, r2, s2, lo2, -, -⟩ := row_setCells zs (ki * 3) wr cs1 r1
        have k2 : Kept [g] w (wr.setCells g (ki * 3) zs) := kept_setCells (by simp) _ _ _ hk
        have hB : Blk (wr.setCells g (ki * 3) zs) g cap (keepL a b ls) cs2 := ⟨r2, by rw [s2]; exact s1, by omega, H.out.2.2.1.max, fun j u hu => by
          have hj := (List.getElem?_eq_some_iff.1 hu).1
          rw [lts_len, ← hki] at hj
          rw [lo2 j hj]
          exact p1 j u hu⟩
        have HF := Lib.hid (And.intro hB (And.intro k2 hki))
        clear r2 s2 lo2 k2 hB r1 s1 p1 hk hh hki hkk
        have d1 : ls.length - ki = m + 1 := by omega
        have d2 : ¬ cap = ki := by omega
        have d3 : ki ≤ cap := by omega
        have d4 : (ki : Int) ≤ (ls.length : Int) := by omega
        have d6 : ki ≤ ls.length := by omega
        have d7 : (ki : Int) ≤ (cap : Int) := by omega
        have d8 : (0 : Int) ≤ (ki : Int) := by omega
        clear hm2
        go_wp2
        go_ret
        exact ⟨by rw [← HF.out.2.2]; rfl, ⟨_, HF.out.1⟩, HF.out.2.1⟩
end Go.Proofs.Ytppjjbhbbnnpgaa
