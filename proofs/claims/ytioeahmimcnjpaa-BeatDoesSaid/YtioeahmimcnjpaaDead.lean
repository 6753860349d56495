/- The detector's Dead: slices.IndexFunc and slices.DeleteFunc at the detector's Alive. Conditions: the detector lies whole in memory. -/
import Derived.Test.YtioeahmimcnjpaaTick
import Derived.Test.YtioeahmimcnjpaaKeep
import Derived.Lib.SliceRun
namespace Go.Proofs.Ytioeahmimcnjpaa
open Go.RowKit
set_option linter.unusedVariables false
set_option linter.unusedSimpArgs false

/-- The head of a row holds these numbers. -/
def Holds (cur : Array Value) (zs : List Int) : Prop := ∀ (i : Nat) (x : Int), zs[i]? = some x → cur[i]? = some (Value.int .i64 x)
theorem Holds.set {cur : Array Value} {zs : List Int} (h : Holds cur zs) (i : Nat) (x : Int) : Holds (cur.setIfInBounds i (.int .i64 x)) (zs.set i x) := by
  intro j y hj
  by_cases e : i = j
  · subst e
    rw [List.getElem?_set] at hj
    by_cases hi : i < zs.length
    · simp [hi] at hj; subst hj
      have := h i zs[i] (List.getElem?_eq_getElem hi)
      have hc : i < cur.size := by
        rcases Nat.lt_or_ge i cur.size with q | q
        · exact q
        · rw [Array.getElem?_eq_none q] at this; cases this
      simp [Array.getElem?_setIfInBounds, hc]
    · simp [hi] at hj
  · rw [List.getElem?_set, if_neg e] at hj
    rw [Array.getElem?_setIfInBounds, if_neg e]
    exact h j y hj
theorem Holds.take {cur : Array Value} {zs : List Int} (h : Holds cur zs) (n : Nat) : Holds cur (zs.take n) := by
  intro j y hj
  rw [List.getElem?_take] at hj
  by_cases e : j < n
  · rw [if_pos e] at hj; exact h j y hj
  · rw [if_neg e] at hj; cases hj
theorem Holds.other {cur : Array Value} {zs : List Int} (h : Holds cur zs) (i : Nat) (hi : zs.length ≤ i) (v : Value) : Holds (cur.setIfInBounds i v) zs := by
  intro j y hj
  have : j < zs.length := by
    rcases Nat.lt_or_ge j zs.length with q | q
    · exact q
    · rw [List.getElem?_eq_none q] at hj; cases hj
  rw [Array.getElem?_setIfInBounds, if_neg (by omega)]
  exact h j y hj
theorem Row.hold {w : World} {b T : Nat} {cur : Array Value} {zs : List Int} (h : Row w b cur T) (hh : Holds cur zs) {i : Nat} {x : Int} (hi : zs[i]? = some x) : w.cell? ⟨b, i, none⟩ = some (Value.int .i64 x) := h.cell i _ (hh i x hi)

/-- What a function value is that asks the detector at P. -/
abbrev asks (P : Nat) : Value := .func (.func 18) #[.pointer (some ⟨P, 0, none⟩)] #[]
set_option maxHeartbeats 1000000 in
theorem index_any {w : World} {P S : Nat} {xs : List Int} {me every limit left : Int} (h : Det w P S xs me every limit left)
    {A : Nat} {cur : Array Value} {zs : List Int} (cap : Nat) (hr : Row w A cur 3) (hh : Holds cur zs) (hz : zs.length ≤ 1000) :
    Calls Try.prog 22 #[.slice (some ⟨A, 0, none⟩) zs.length cap, asks P] w fun e w' => e = .returned (.int .i64 (idx (aliveB xs limit) zs)) ∧ ∃ m, w' = w.drewN m := by
  go_enter Try.func22, Try.ntmps22
  go_wp2
  go_loopw [5, 8] (fun _ i wr => ∃ k : Nat, k ≤ zs.length ∧ i = .int .i64 k ∧ (∃ m, wr = w.drewN m) ∧ Hid (∀ j (hj : j < k), ∀ y, zs[j]? = some y → aliveB xs limit y = false)) (fun _ i _ => zs.length - (intOf i).toNat)
  case atStart => exact ⟨0, Nat.zero_le _, rfl, ⟨0, rfl⟩, fun j hj => absurd hj (Nat.not_lt_zero _)⟩
  case round =>
    obtain ⟨k, hk, rfl, ⟨m, rfl⟩, hno⟩ := hrel
    by_cases hlt : k < zs.length
    · have hc := hr.hold hh (List.getElem?_eq_getElem hlt)
      rcases hq : aliveB xs limit zs[k] with _ | _
      · have hnx : Hid (∀ j (hj : j < k + 1), ∀ y, zs[j]? = some y → aliveB xs limit y = false) := by
          intro j hj y hy
          by_cases e : j = k
          · subst e; rw [List.getElem?_eq_getElem hlt] at hy; cases hy; exact hq
          · exact hno j (by omega) y hy
        have hal := alive_any (h.drewN m) zs[k]
        rw [hq] at hal
        have AL := Lib.hid hal
        clear hal hno hq
        generalize zs[k] = v at hc AL
        go_wp2_with (go_at_call 18; refine AL.out.mono ?_; rintro e w' ⟨rfl, m', rfl⟩)
        go_roundw
        case rel => exact ⟨k + 1, by omega, by go_num, ⟨m + m', rfl⟩, hnx⟩
        case measure => simp [intOf]; omega
      · have hres : idx (aliveB xs limit) zs = (k : Int) := idx_hit hlt hq (fun j hj => hno j hj _ (List.getElem?_eq_getElem (by omega)))
        have hal := alive_any (h.drewN m) zs[k]
        rw [hq] at hal
        have AL := Lib.hid hal
        have HR := Lib.hid hres
        clear hal hno hq hres
        generalize zs[k] = v at hc AL
        go_wp2_with (go_at_call 18; refine AL.out.mono ?_; rintro e w' ⟨rfl, m', rfl⟩)
        go_ret
        exact ⟨by rw [HR.out]; rfl, m + m', rfl⟩
    · obtain rfl : k = zs.length := by omega
      have hres : idx (aliveB xs limit) zs = -1 := idx_none (fun j hj => hno j hj _ (List.getElem?_eq_getElem hj))
      have HR := Lib.hid hres
      clear hres hno
      go_wp2
      go_ret
      exact ⟨by rw [HR.out]; rfl, m, rfl⟩

theorem zero3 : ∀ w, (zeroValue 3).run Try.prog w = .ok (.int .i64 0) w := fun w => by kernel_rfl
/-- What setting a run of cells leaves. -/
theorem Row.setCells {b T : Nat} : ∀ (vs : List Value) (o : Nat) {w : World} {cs : Array Value} (_ : Row w b cs T), ∃ cs', Row (w.setCells b o vs) b cs' T ∧ (∀ j, j < o → cs'[j]? = cs[j]?)
  | [], _, _, cs, h => ⟨cs, h, fun _ _ => rfl⟩
  | v :: r, o, w, cs, h => by
    obtain ⟨cs', h1, h2⟩ := Row.setCells r (o + 1) (h.set o v)
    refine ⟨cs', h1, fun j hj => ?_⟩
    rw [h2 j (by omega), Array.getElem?_setIfInBounds, if_neg (by omega)]
theorem Kept.setCells {F : List Nat} {a : World} (b : Nat) (hb : b ∈ F) : ∀ (vs : List Value) (o : Nat) {w : World} (_ : Kept F a w), Kept F a (w.setCells b o vs)
  | [], _, _, h => h
  | v :: r, o, w, h => Kept.setCells b hb r (o + 1) (h.set b o (.inl hb) v)
set_option maxHeartbeats 2000000 in
theorem delete_any {w : World} {P S : Nat} {xs : List Int} {me every limit left : Int} (h : Det w P S xs me every limit left)
    {A : Nat} {cur : Array Value} {zs : List Int} (cap : Nat) (hr : Row w A cur 3) (hh : Holds cur zs) (hz : zs.length ≤ 1000) (hcap : zs.length ≤ cap) (hAS : A ≠ S) :
    Calls Try.prog 20 #[.slice (some ⟨A, 0, none⟩) zs.length cap, asks P] w fun e w' => ∃ cur', e = .returned (.slice (some ⟨A, 0, none⟩) (zs.filter fun x => !aliveB xs limit x).length cap) ∧ Row w' A cur' 3 ∧ Holds cur' (zs.filter fun x => !aliveB xs limit x) ∧ Kept [A] w w' := by
  have hAP : A ≠ P := hr.ne h.p (by decide)
  rcases idx_cases (aliveB xs limit) zs with ⟨e1, hall⟩ | ⟨k0, hk0, e1, ht, hall⟩
  · have hf := filter_none hall
    have HF := Lib.hid hf
    clear hf hall
    have hi := index_any h cap hr hh hz
    rw [e1] at hi
    have HI := Lib.hid hi
    clear hi e1
    go_enter Try.func20, Try.ntmps20
    go_wp2_with (go_at_call 22; refine HI.out.mono ?_; rintro e w' ⟨rfl, m, rfl⟩)
    go_ret
    rw [HF.out]
    exact ⟨cur, rfl, hr, hh, (Kept.refl _ _).drewN m⟩
  · have K0 := Lib.hid (KInv.start hk0 hall ht)
    clear ht hall
    have hi := index_any h cap hr hh hz
    rw [e1] at hi
    have HI := Lib.hid hi
    clear hi e1
    go_enter Try.func20, Try.ntmps20
    go_wp2_with (go_at_call 22; refine HI.out.mono ?_; rintro e w' ⟨rfl, m, rfl⟩)
    go_loopg [5, 6, 7] zs.length (fun gg s5 s6 _ wr => ∃ (i j : Nat) (cu : Array Value) (dk : List Int), s5 = .int .i64 i ∧ s6 = .int .i64 j ∧ j ≤ zs.length ∧ zs.length - j ≤ gg ∧ Row wr A cu 3 ∧ Hid (Holds cu dk) ∧ Kept [A] w wr ∧ Hid (KInv (aliveB xs limit) zs j i dk))
    case atStart => exact ⟨k0, k0 + 1, cur, zs, rfl, by go_num, by omega, by omega, hr, hh, (Kept.refl _ _).drewN m, K0⟩
    case round =>
      obtain ⟨i, j, cu, dk, rfl, rfl, hjd, hgg, hru, HH, hkept, HK⟩ := hrel
      have hij := HK.out.lt
      by_cases hlt : j < zs.length
      · have hcj := hru.hold HH.out (HK.out.at hlt)
        have hlen : dk.length = zs.length := HK.out.len
        obtain ⟨old, hci⟩ : ∃ old, wr.cell? ⟨A, i, none⟩ = some (.int .i64 old) := ⟨_, hru.hold HH.out (i := i) (List.getElem?_eq_getElem (by omega))⟩
        have hfi := hru.free i
        have hd := (h.kept hkept (by simp; exact hAP.symm) (by simp; exact hAS.symm))
        have hal := alive_any hd zs[j]
        clear hlen
        rcases hq : aliveB xs limit zs[j] with _ | _
        · rw [hq] at hal
          have AL := Lib.hid hal
          have K2 := Lib.hid (HK.out.keep hlt hq)
          have H2 := Lib.hid (HH.out.set i zs[j])
          have R2 := fun m => (hru.drewN m).set i (.int .i64 zs[j])
          have R3 := fun m => (hkept.drewN m).set A i (.inl (by simp)) (.int .i64 zs[j])
          have HR := Lib.hid (And.intro R2 R3)
          clear hal hq HK HH R2 R3
          generalize zs[j] = v at hcj AL K2 H2 HR
          go_wp2_with (go_at_call 18; refine AL.out.mono ?_; rintro e w' ⟨rfl, m', rfl⟩)
          go_roundg (zs.length - (j + 1))
          case measure => omega
          case rel => exact ⟨i + 1, j + 1, _, _, by go_num, by go_num, by omega, Nat.le_refl _, HR.out.1 m', H2.out, HR.out.2 m', K2.out⟩
        · rw [hq] at hal
          have AL := Lib.hid hal
          have K2 := Lib.hid (HK.out.skip hlt hq)
          clear hal hq HK
          generalize zs[j] = v at hcj AL K2
          go_wp2_with (go_at_call 18; refine AL.out.mono ?_; rintro e w' ⟨rfl, m', rfl⟩)
          go_roundg (zs.length - (j + 1))
          case measure => omega
          case rel => exact ⟨i, j + 1, _, _, rfl, by go_num, by omega, Nat.le_refl _, hru, HH.out, hkept.drewN m', K2.out⟩
      · obtain rfl : j = zs.length := by omega
        have hlen : dk.length = zs.length := HK.out.len
        have hcl : ∀ ty, (Builtin.clear_ #[28] ty #[.slice (some ⟨A, i, none⟩) (zs.length - i) (cap - i)]).run Try.prog wr = .ok (.tuple #[]) (wr.setCells A i (List.replicate (zs.length - i) (.int .i64 0))) :=
          fun ty => Lib.run_clear_slice wr _ _ ty _ Try.underlying28 zero3 rfl rfl A i _ _ (by omega) (fun t ht => by rw [hru.hold HH.out (i := i + t) (List.getElem?_eq_getElem (by omega))]; rfl) (fun t ht => hru.free _)
        obtain ⟨cs', hcs, hlow⟩ := hru.setCells (List.replicate (zs.length - i) (.int .i64 0)) i
        have hk2 := hkept.setCells A (by simp) (List.replicate (zs.length - i) (.int .i64 0)) i
        have HX := Lib.hid (And.intro hcs hk2)
        have HL := Lib.hid hlow
        clear hcs hk2 hlen hlow
        go_wp2
        go_ret
        obtain ⟨d1, d2⟩ := HK.out.done
        refine ⟨cs', by rw [d2]; rfl, HX.out.1, ?_, HX.out.2⟩
        rw [← d1]
        intro t x hx
        have ht : t < i := by
          rcases Nat.lt_or_ge t i with q | q
          · exact q
          · rw [List.getElem?_eq_none (by simp; omega)] at hx; cases hx
        rw [HL.out t ht]
        rw [List.getElem?_take, if_pos ht] at hx
        exact HH.out t x hx

def deadL (xs : List Int) (limit : Int) : List Int := ((List.range xs.length).map (Int.ofNat ·)).filter fun k => !aliveB xs limit k
/-- A slice value reads as these numbers. -/
def Reads (w : World) (v : Value) (zs : List Int) : Prop := (v = .slice none 0 0 ∧ zs = []) ∨ ∃ g cap cur, v = .slice (some ⟨g, 0, none⟩) zs.length cap ∧ Row w g cur 3 ∧ Holds cur zs
def upTo (k : Nat) : List Int := (List.range k).map (Int.ofNat ·)
theorem upTo_succ (k : Nat) : upTo (k + 1) = upTo k ++ [(k : Int)] := by simp [upTo, List.range_succ]
theorem upTo_len (k : Nat) : (upTo k).length = k := by simp [upTo]
theorem own_base {w : World} {B : Nat} {v : Value} {n : Nat} {ys : List Value} (h : w.ownsRow B 3 1 v n ys) : ∀ k, v.ownBlock = some k → B ≤ k := by
  intro k hk
  rcases h.2 with ⟨rfl, _⟩ | ⟨g, cap, cur, rfl, hg, _⟩
  · cases hk
  · cases hk; exact hg
/-- A row of the call's own that is not empty: its address, its cells. -/
theorem own_row {w : World} {B : Nat} {v : Value} {zs : List Int} (h : w.ownsRow B 3 1 v zs.length (zs.map (Value.int .i64))) (hp : 0 < zs.length) :
    ∃ g cap cur, v = .slice (some ⟨g, 0, none⟩) zs.length cap ∧ B ≤ g ∧ Row w g cur 3 ∧ Holds cur zs ∧ zs.length ≤ cap := by
  obtain ⟨_, ⟨_, h0⟩ | ⟨g, cap, cur, hv, hg, hb, hc, _, hs, ht⟩⟩ := h
  · omega
  · refine ⟨g, cap, cur, hv, hg, hb, ?_, hc⟩
    intro i x hi
    have hlt : i < zs.length := by
      rcases Nat.lt_or_ge i zs.length with q | q
      · exact q
      · rw [List.getElem?_eq_none q] at hi; cases hi
    have := congrArg (fun l => l[i]?) ht
    simp only [List.getElem?_take, List.getElem?_map, hi, Nat.mul_one, if_pos hlt] at this
    simpa using this
set_option maxHeartbeats 2000000 in
theorem dead_any {w : World} {P S : Nat} {xs : List Int} {me every limit left : Int} (h : Det w P S xs me every limit left) :
    Calls Try.prog 9 #[.pointer (some ⟨P, 0, none⟩)] w fun e w' => ∃ v, e = .returned v ∧ Reads w' v (deadL xs limit) ∧ (∀ k, v.ownBlock = some k → w.heap.size ≤ k) ∧ Below w.heap.size w w' := by
  obtain ⟨c0, c1, c2, c3, c4, cf⟩ := h.p.five
  have hle := h.le
  obtain ⟨i0, hi, hz0, hz1, hz2⟩ := info_parts info3
  go_enter Try.func9, Try.ntmps9
  go_wp2
  go_loopw [3, 4, 10] (fun v _ i wr => ∃ k : Nat, k ≤ xs.length ∧ i = .int .i64 k ∧ wr.ownsRow w.heap.size 3 1 v (upTo k).length ((upTo k).map (Value.int .i64)) ∧ Below w.heap.size w wr) (fun _ _ i _ => xs.length - (intOf i).toNat)
  case atStart => exact ⟨0, Nat.zero_le _, rfl, ⟨rfl, .inl ⟨rfl, rfl⟩⟩, Below.refl _ _⟩
  case round =>
    obtain ⟨k, hk, rfl, hown, hb⟩ := hrel
    by_cases hlt : k < xs.length
    · rw [upTo_len] at hown
      have s3 : k + 1 ≤ maxLen := by unfold maxLen; omega
      have s4 : (k + 1) * 8 ≤ 140737488355328 := by omega
      have s5 : w.heap.size ≤ (wr.alloc (Obj.cells #[Value.int IntKind.i64 ↑k] 3)).heap.size := by have := hb.size; simp; omega
      have sN : ∀ u ∈ [Value.int .i64 (k : Int)], u.oneCell' = true := by intro u hu; simp at hu; subst hu; rfl
      have SB := Lib.hid (And.intro hb (own_base hown))
      have SN := Lib.hid sN
      clear sN
      go_wp2_with (at_builtin; refine wpList_append_own _ rfl _ _ 28 rfl w.heap.size 3 i0 (.int .i64 0) 1 8 Try.underlying28 hi hz0 hz1 hz2 rfl (by decide) _ _ _ rfl (hown.alloc _) ⟨wr.heap.size, 0, none⟩ 1 1 [.int .i64 k] rfl rfl (cell_one_new _ _ _) SN.out s3 s4 s5 ?_; intro v' w1 hown' hgrow _)
      go_roundw
      case rel => exact ⟨k + 1, by omega, by go_num, by rw [upTo_len, upTo_succ, List.map_append]; exact hown', (SB.out.1.alloc (by have := SB.out.1.size; omega) _).grown hgrow s5 SB.out.2⟩
      case measure => simp [intOf]; omega
    · obtain rfl : k = xs.length := by omega
      have hpos := h.pos
      obtain ⟨g, cap, cur, rfl, hg, hru, hho, hcap⟩ := own_row hown (by rw [upTo_len]; omega)
      have hS := h.s.lt
      have hde := delete_any (h.below hb) cap hru hho (by rw [upTo_len]; omega) hcap (show g ≠ S by omega)
      have DE := Lib.hid hde
      clear hde hho hru hown hcap c0 c1 c2 c3 c4 cf
      go_wp2_with (go_at_call 20; refine DE.out.mono ?_; rintro e w1 ⟨cur', rfl, hr1, hh1, hk1⟩)
      go_ret
      refine ⟨_, rfl, .inr ⟨g, cap, cur', rfl, hr1, hh1⟩, (fun k hk => by cases hk; exact hg), hb.trans (hk1.toBelow (by simp; exact hg) hb.size)⟩
end Go.Proofs.Ytioeahmimcnjpaa
