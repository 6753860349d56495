/- What is wrong with a word. Conditions: the node lies whole in memory. -/
import Derived.Test.YtccmnphjiebiaaaRd
namespace Go.Proofs.Ytccmnphjiebiaaa
open Go.RowKit G
set_option linter.unusedVariables false
set_option linter.unusedSimpArgs false
attribute [local go_sem] upon_value upon_skip upon_enter runAt_run
def checkE (n self : Int) (x : Wd) : Int := if x.t ≠ self ∨ x.f < 0 ∨ n ≤ x.f ∨ x.f = self then 1 else if x.k < 1 ∨ 3 < x.k ∨ x.m < 0 ∨ 1073741824 < x.m ∨ ((x.k = 3) ≠ (0 < x.m)) then 6 else 0
set_option maxHeartbeats 4000000 in
theorem check_any {w : World} {P : Nat} {n self wait role lead term ticks : Int} {ws : List Wd} {h v : Value} (hN : NodeAt 69 35 w P ⟨n, self, wait, role, lead, term, ticks, ws⟩ h v) (k f t m c : Int) (hc : checkE n self ⟨k, f, t, m⟩ = c) :
    Calls Try.prog 38 #[.pointer (some ⟨P, 0, none⟩), .agg #[.int .i64 k, .int .i64 f, .int .i64 t, .int .i64 m]] w fun e w' => e = .returned (.int .i64 c) ∧ Below w.heap.size w w' := by
  have hr := (hN.r.alloc (.cells #[.int .i64 k, .int .i64 f, .int .i64 t, .int .i64 m] 35))
  clear hN
  go_enter Try.func38, Try.ntmps38
  go_wp2
  have hb := Row.new w #[.int .i64 k, .int .i64 f, .int .i64 t, .int .i64 m] 35
  have hbel := below_new w (.cells #[.int .i64 k, .int .i64 f, .int .i64 t, .int .i64 m] 35)
  generalize hW : w.alloc (.cells #[.int .i64 k, .int .i64 f, .int .i64 t, .int .i64 m] 35) = wc at hr hb hbel ⊢
  clear hW
  generalize hB : w.heap.size = B at hb hbel ⊢
  have p0 : wc.cell? ⟨P, 0, none⟩ = some (.int .i64 n) := hr.cell 0 _ rfl
  have p1 : wc.cell? ⟨P, 1, none⟩ = some (.int .i64 self) := hr.cell 1 _ rfl
  have b0 : wc.cell? ⟨B, 0, none⟩ = some (.int .i64 k) := hb.cell 0 _ rfl
  have b1 : wc.cell? ⟨B, 1, none⟩ = some (.int .i64 f) := hb.cell 1 _ rfl
  have b2 : wc.cell? ⟨B, 2, none⟩ = some (.int .i64 t) := hb.cell 2 _ rfl
  have b3 : wc.cell? ⟨B, 3, none⟩ = some (.int .i64 m) := hb.cell 3 _ rfl
  have HH := Lib.hid hbel
  have HC := Lib.hid hc
  have HB := Lib.hid hB
  clear hr hb hbel hc hB
  by_cases h1 : t = self
  · subst h1
    by_cases h2 : f < 0
    · refine region_gen (Rd wc) (by kernel_rfl) (by kernel_rfl) (Rd.start _) ?_
      repeat
        (refine step_gen (by decide) (by rfl) (fun K hK => ?_)
         go_simp
         first
           | (with_reducible refine Sk.of Rd.skips ?_
              refine hK _ _ _ ?_
              clear hK K)
           | (with_reducible apply H1.one
              · intro σ wv hk hd hv
                obtain ⟨⟨m_, rfl⟩⟩ := hv
                go_simp
                (with_reducible refine ⟨rfl, ?_⟩)
                exact ⟨m_, rfl⟩
              refine hK _ _ _ ?_
              clear hK K))
      refine nil_gen ?_
      rintro σ wv - - ⟨⟨nq, rfl⟩⟩
      clear σ
      have e := HC.out
      obtain rfl : c = 1 := by rw [← e]; simp [checkE, *]
      clear e HC
      go_wp2
      go_ret
      exact ⟨rfl, by rw [HB.out]; exact below_drewN HH.out nq⟩
    · by_cases h3 : n ≤ f
      · refine region_gen (Rd wc) (by kernel_rfl) (by kernel_rfl) (Rd.start _) ?_
        repeat
          (refine step_gen (by decide) (by rfl) (fun K hK => ?_)
           go_simp
           first
             | (with_reducible refine Sk.of Rd.skips ?_
                refine hK _ _ _ ?_
                clear hK K)
             | (with_reducible apply H1.one
                · intro σ wv hk hd hv
                  obtain ⟨⟨m_, rfl⟩⟩ := hv
                  go_simp
                  (with_reducible refine ⟨rfl, ?_⟩)
                  exact ⟨m_, rfl⟩
                refine hK _ _ _ ?_
                clear hK K))
        refine nil_gen ?_
        rintro σ wv - - ⟨⟨nq, rfl⟩⟩
        clear σ
        have e := HC.out
        obtain rfl : c = 1 := by rw [← e]; simp [checkE, *]
        clear e HC
        go_wp2
        go_ret
        exact ⟨rfl, by rw [HB.out]; exact below_drewN HH.out nq⟩
      · by_cases h4 : f = t
        · subst h4
          refine region_gen (Rd wc) (by kernel_rfl) (by kernel_rfl) (Rd.start _) ?_
          repeat
            (refine step_gen (by decide) (by rfl) (fun K hK => ?_)
             go_simp
             first
               | (with_reducible refine Sk.of Rd.skips ?_
                  refine hK _ _ _ ?_
                  clear hK K)
               | (with_reducible apply H1.one
                  · intro σ wv hk hd hv
                    obtain ⟨⟨m_, rfl⟩⟩ := hv
                    go_simp
                    (with_reducible refine ⟨rfl, ?_⟩)
                    exact ⟨m_, rfl⟩
                  refine hK _ _ _ ?_
                  clear hK K))
          refine nil_gen ?_
          rintro σ wv - - ⟨⟨nq, rfl⟩⟩
          clear σ
          have e := HC.out
          obtain rfl : c = 1 := by rw [← e]; simp [checkE, *]
          clear e HC
          go_wp2
          go_ret
          exact ⟨rfl, by rw [HB.out]; exact below_drewN HH.out nq⟩
        · have h5 : (f == t) = false := by simp [h4]
          refine region_gen (Rd wc) (by kernel_rfl) (by kernel_rfl) (Rd.start _) ?_
          repeat
            (refine step_gen (by decide) (by rfl) (fun K hK => ?_)
             go_simp
             first
               | (with_reducible refine Sk.of Rd.skips ?_
                  refine hK _ _ _ ?_
                  clear hK K)
               | (with_reducible apply H1.one
                  · intro σ wv hk hd hv
                    obtain ⟨⟨m_, rfl⟩⟩ := hv
                    go_simp
                    (with_reducible refine ⟨rfl, ?_⟩)
                    exact ⟨m_, rfl⟩
                  refine hK _ _ _ ?_
                  clear hK K))
          refine nil_gen ?_
          rintro σ wv - - ⟨⟨nq, rfl⟩⟩
          clear σ
          have HJ := Lib.hid (below_drewN HH.out nq)
          have HK := Lib.hid (show ∀ v : Int, (if k < 1 ∨ 3 < k ∨ m < 0 ∨ 1073741824 < m ∨ ((k = 3) ≠ (0 < m)) then 6 else 0) = v → checkE n t ⟨k, f, t, m⟩ = v from fun v hv => by
            have hn : ¬ n ≤ f := h3
            have hf : ¬ f < 0 := h2
            simp only [checkE]
            rw [if_neg (by simp [*])]
            exact hv)
          replace b0 : (wc.drewN nq).cell? ⟨B, 0, none⟩ = some (.int .i64 k) := b0
          replace b3 : (wc.drewN nq).cell? ⟨B, 3, none⟩ = some (.int .i64 m) := b3
          clear p0 p1 b1 b2 HH h2 h3 h4 h5
          go_wp2
          all_goals
            rename_i hcond
            have e := HC.out
            first
              | (have e6 : c = 6 := by
                   rw [← e]
                   refine HK.out 6 ?_
                   by_cases q1 : k = 3 <;> by_cases q2 : 0 < m <;> simp [q1, q2] at hcond ⊢ <;> omega
                 subst e6
                 clear hcond e HC HK
                 go_ret
                 exact ⟨rfl, by rw [HB.out]; exact HJ.out⟩)
              | (have e0 : c = 0 := by
                   rw [← e]
                   refine HK.out 0 ?_
                   by_cases q1 : k = 3 <;> by_cases q2 : 0 < m <;> simp [q1, q2] at hcond ⊢ <;> omega
                 subst e0
                 clear hcond e HC HK
                 go_ret
                 exact ⟨rfl, by rw [HB.out]; exact HJ.out⟩)
  · refine region_gen (Rd wc) (by kernel_rfl) (by kernel_rfl) (Rd.start _) ?_
    repeat
      (refine step_gen (by decide) (by rfl) (fun K hK => ?_)
       go_simp
       first
         | (with_reducible refine Sk.of Rd.skips ?_
            refine hK _ _ _ ?_
            clear hK K)
         | (with_reducible apply H1.one
            · intro σ wv hk hd hv
              obtain ⟨⟨m_, rfl⟩⟩ := hv
              go_simp
              (with_reducible refine ⟨rfl, ?_⟩)
              exact ⟨m_, rfl⟩
            refine hK _ _ _ ?_
            clear hK K))
    refine nil_gen ?_
    rintro σ wv - - ⟨⟨nq, rfl⟩⟩
    clear σ
    have e := HC.out
    obtain rfl : c = 1 := by rw [← e]; simp [checkE, *]
    clear e HC
    go_wp2
    go_ret
    exact ⟨rfl, by rw [HB.out]; exact below_drewN HH.out nq⟩
end Go.Proofs.Ytccmnphjiebiaaa
