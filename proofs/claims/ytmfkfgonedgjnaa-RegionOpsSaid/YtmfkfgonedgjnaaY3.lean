/-
  The walks of this seat's functions and the plain laws behind them: part Y3.
-/
import Derived.Test.YtmfkfgonedgjnaaY2
import Derived.Test.YtmfkfgonedgjnaaX5
set_option linter.unusedVariables false
set_option linter.unusedSimpArgs false
set_option maxRecDepth 100000
namespace Go.Proofs.Ytmfkfgonedgjnaa
open Go.Abs

set_option maxHeartbeats 4000000 in
theorem combined_ok (op : Int) (f : Bool → Bool → Bool) (hf : f false false = false) (hkp : ∀ x y, PC Try.prog 133 [.int .i64 op, .bool x, .bool y] (.p (.bool (f x y)))) (a b : List Run) (ha : a.length ≤ 1000000) (hb0 : b.length ≤ 1000000) (va : rvalid a = true) (vb : rvalid b = true) :
    PC Try.prog 105 [.int .i64 op, encRuns a, encRuns b] (.p (encRuns (sweep f a b))) := by
  have c1 := bounds_ok a b ha hb0
  have hbl := bnds_len a b
  have hstart := fun X hX => @comb_start f hf a b X hX
  have hend := fun n X out h1 h2 h3 => @comb_end f hf a b va vb n X out h1 h2 h3
  have hgap := fun i X Y h1 h2 => @gap_of a b i X Y h1 h2
  have hnil := @sweep_nil f hf a b va vb
  generalize bnds a b = L at *
  generalize sweep f a b = res at *
  refine pc_of_awp cx (fn := Try.f105) (c := _) Try.func105 rfl rfl (Nat.le_of_ble_eq_true rfl) ?_
  rw [Try.ntmps105]; (repeat (first | refine awp_seq ?_ | refine awp_block ?_ | refine awp_scope ?_ | refine awp_skip ?_ | refine awp_exit ?_ | refine awp_ret ?_ | refine sq_n ?_ | refine sq_r ?_ | refine sq_x ?_ | refine bq_n ?_ | refine bq_r ?_ | refine bq_x ?_ | refine bq_y rfl ?_ | refine pq_n ?_ | refine pq_r ?_ | refine pq_x ?_))
  refine awp_region cx [] fun K hK => ?_
  simp [push_cast]
  repeat (refine And.intro (by clear hK; intros; first | omega | (simp_all; done) | (simp_all <;> omega)) ?_)
  refine hK _ ?_; clear hK K; (repeat (first | refine awp_seq ?_ | refine awp_block ?_ | refine awp_scope ?_ | refine awp_skip ?_ | refine awp_exit ?_ | refine awp_ret ?_ | refine sq_n ?_ | refine sq_r ?_ | refine sq_x ?_ | refine bq_n ?_ | refine bq_r ?_ | refine bq_x ?_ | refine bq_y rfl ?_ | refine pq_n ?_ | refine pq_r ?_ | refine pq_x ?_))
  refine awp_region cx [(2, .p (.sl (L.map iRow)))] fun K hK => ?_
  simp [push_cast, c1]
  repeat (refine And.intro (by clear hK; intros; first | omega | (simp_all; done) | (simp_all <;> omega)) ?_)
  refine hK _ ?_; clear hK K; (repeat (first | refine awp_seq ?_ | refine awp_block ?_ | refine awp_scope ?_ | refine awp_skip ?_ | refine awp_exit ?_ | refine awp_ret ?_ | refine sq_n ?_ | refine sq_r ?_ | refine sq_x ?_ | refine bq_n ?_ | refine bq_r ?_ | refine bq_x ?_ | refine bq_y rfl ?_ | refine pq_n ?_ | refine pq_r ?_ | refine pq_x ?_))
  refine awp_region cx [] fun K hK => ?_
  simp [push_cast]
  repeat (refine And.intro (by clear hK; intros; first | omega | (simp_all; done) | (simp_all <;> omega)) ?_)
  refine hK _ ?_; clear hK K; (repeat (first | refine awp_seq ?_ | refine awp_block ?_ | refine awp_scope ?_ | refine awp_skip ?_ | refine awp_exit ?_ | refine awp_ret ?_ | refine sq_n ?_ | refine sq_r ?_ | refine sq_x ?_ | refine bq_n ?_ | refine bq_r ?_ | refine bq_x ?_ | refine bq_y rfl ?_ | refine pq_n ?_ | refine pq_r ?_ | refine pq_x ?_))
  refine awp_region cx [] fun K hK => ?_
  simp [push_cast]
  repeat (refine And.intro (by clear hK; intros; first | omega | (simp_all; done) | (simp_all <;> omega)) ?_)
  refine hK _ ?_; clear hK K; (repeat (first | refine awp_seq ?_ | refine awp_block ?_ | refine awp_scope ?_ | refine awp_skip ?_ | refine awp_exit ?_ | refine awp_ret ?_ | refine sq_n ?_ | refine sq_r ?_ | refine sq_x ?_ | refine bq_n ?_ | refine bq_r ?_ | refine bq_x ?_ | refine bq_y rfl ?_ | refine pq_n ?_ | refine pq_r ?_ | refine pq_x ?_))
  refine awp_loop (β := Nat × List Run) (fun s => ⟨89, [(0, .d (.int .i64 op)), (1, .d (encRuns a)), (2, .d (encRuns b)), (7, .d (.sl (L.map iRow))), (8, .hs 0 0 s.2.length), (9, .d (.int .i64 s.1))], [(0, some ⟨60, 2, dr (s.2.map Run.row)⟩)], 1⟩) (fun s => s.2.length ≤ s.1 ∧ (L.length = 0 → s.2 = []) ∧ (0 < L.length → s.1 < L.length) ∧ s.1 ≤ L.length ∧ ∀ X, L[s.1]? = some X → CombAt f a b X s.2) (fun s => L.length - s.1) (0, []) ?_ ⟨by simp, by simp, by simp, by simp, hstart⟩ ?_
  · refine weak_of [(0, none)] rfl (by simp [upT, up, upL, push_cast]) (by simp [upH, upR, upL, up, push_cast]) (by simp [namesOk, push_cast]) (by simp [olds])
  · rintro ⟨i, out⟩ ⟨hol, ho0, hi, hile, hat⟩
    simp only at hol ho0 hi hile hat
    (repeat (first | refine awp_seq ?_ | refine awp_block ?_ | refine awp_scope ?_ | refine awp_skip ?_ | refine awp_exit ?_ | refine awp_ret ?_ | refine sq_n ?_ | refine sq_r ?_ | refine sq_x ?_ | refine bq_n ?_ | refine bq_r ?_ | refine bq_x ?_ | refine bq_y rfl ?_ | refine pq_n ?_ | refine pq_r ?_ | refine pq_x ?_))
    have e0 := wrap_i64 (n := (i : Int) + 1) (by omega) (by omega)
    refine awp_region cx [] fun K hK => ?_
    simp [push_cast, e0]
    repeat (refine And.intro (by clear hK; intros; first | omega | (simp_all; done) | (simp_all <;> omega)) ?_)
    refine hK _ ?_; clear hK K; (repeat (first | refine awp_seq ?_ | refine awp_block ?_ | refine awp_scope ?_ | refine awp_skip ?_ | refine awp_exit ?_ | refine awp_ret ?_ | refine sq_n ?_ | refine sq_r ?_ | refine sq_x ?_ | refine bq_n ?_ | refine bq_r ?_ | refine bq_x ?_ | refine bq_y rfl ?_ | refine pq_n ?_ | refine pq_r ?_ | refine pq_x ?_))
    refine awp_cond (b := decide ((i : Int) + 1 < L.length)) (by simp [push_cast]) (fun hb => ?_) (fun hb => ?_) <;> ((repeat (first | refine awp_seq ?_ | refine awp_block ?_ | refine awp_scope ?_ | refine awp_skip ?_ | refine awp_exit ?_ | refine awp_ret ?_ | refine sq_n ?_ | refine sq_r ?_ | refine sq_x ?_ | refine bq_n ?_ | refine bq_r ?_ | refine bq_x ?_ | refine bq_y rfl ?_ | refine pq_n ?_ | refine pq_r ?_ | refine pq_x ?_)))
    · have hlt : i + 1 < L.length := by simp at hb; omega
      obtain ⟨X, hX⟩ : ∃ X, L[i]? = some X := getq (by omega)
      obtain ⟨Y, hY⟩ : ∃ Y, L[i + 1]? = some Y := getq hlt
      obtain ⟨hg, hXY⟩ := hgap i X Y hX hY
      have hcm := hat X hX
      have hi1 : ((i : Int) + 1).toNat = i + 1 := by omega
      have hi2 : (0 : Int) ≤ (i : Int) + 1 := by omega
      have hlti : (i : Int) + 1 < L.length := by omega
      have hnext : ∀ out', out'.length ≤ i + 1 → CombAt f a b Y out' → (out'.length ≤ i + 1 ∧ (L.length = 0 → out' = []) ∧ (0 < L.length → i + 1 < L.length) ∧ i + 1 ≤ L.length ∧ ∀ X, L[i + 1]? = some X → CombAt f a b X out') := fun out' h1 h2 => ⟨h1, fun h => by omega, fun _ => hlt, by omega, fun Z hZ => by rw [hY] at hZ; cases hZ; exact h2⟩
      clear hat hgap hstart
      by_cases hne : X = Y
      · have hn := hnext out (by omega) (comb_skip hcm hg hXY (.inl hne))
        subst hne
        refine awp_region_draw cx mixed [(17, .skip), (23, .skip), (24, .skip)] fun K hK => ?_
        simp [push_cast, hX, hY, e0, hi1, hi2, hlti]
        repeat (refine And.intro (by clear hK; intros; first | omega | (simp_all; done) | (simp_all <;> omega)) ?_)
        refine hK _ _ (by kernel_rfl) ?_; clear hK K; (repeat (first | refine awp_seq ?_ | refine awp_block ?_ | refine awp_scope ?_ | refine awp_skip ?_ | refine awp_exit ?_ | refine awp_ret ?_ | refine sq_n ?_ | refine sq_r ?_ | refine sq_x ?_ | refine bq_n ?_ | refine bq_r ?_ | refine bq_x ?_ | refine bq_y rfl ?_ | refine pq_n ?_ | refine pq_r ?_ | refine pq_x ?_))
        refine awp_cond (b := true) (by simp [push_cast]) (fun hb => ?_) (fun hb => ?_) <;> ((repeat (first | refine awp_seq ?_ | refine awp_block ?_ | refine awp_scope ?_ | refine awp_skip ?_ | refine awp_exit ?_ | refine awp_ret ?_ | refine sq_n ?_ | refine sq_r ?_ | refine sq_x ?_ | refine bq_n ?_ | refine bq_r ?_ | refine bq_x ?_ | refine bq_y rfl ?_ | refine pq_n ?_ | refine pq_r ?_ | refine pq_x ?_)))
        · refine awp_region cx [] fun K hK => ?_
          simp [push_cast, e0]
          repeat (refine And.intro (by clear hK; intros; first | omega | (simp_all; done) | (simp_all <;> omega)) ?_)
          refine hK _ ?_; clear hK K; (repeat (first | refine awp_seq ?_ | refine awp_block ?_ | refine awp_scope ?_ | refine awp_skip ?_ | refine awp_exit ?_ | refine awp_ret ?_ | refine sq_n ?_ | refine sq_r ?_ | refine sq_x ?_ | refine bq_n ?_ | refine bq_r ?_ | refine bq_x ?_ | refine bq_y rfl ?_ | refine pq_n ?_ | refine pq_r ?_ | refine pq_x ?_))
          refine ⟨(i + 1, out), hn, by simp only; omega, ?_⟩
          refine weak_of [(0, some 0)] rfl (by simp [upT, up, upL, push_cast]) (by simp [upH, upR, upL, up, push_cast]) (by simp [namesOk, push_cast]) (by simp [olds])
        · simp at hb
      · have c2 := inside18_ok a X ha
        have c3 := inside18_ok b X hb0
        have c4 := hkp (inR a X) (inR b X)
        generalize hv : f (inR a X) (inR b X) = v at c4
        generalize inR a X = pa at c2 c4
        generalize inR b X = pb at c3 c4
        refine awp_region_draw cx mixed [(17, .p (.bool pa)), (23, .p (.bool pb)), (24, .p (.bool v))] fun K hK => ?_
        simp [push_cast, hX, hY, e0, hi1, hi2, hlti, hne, c2, c3, c4]
        repeat (refine And.intro (by clear hK; intros; first | omega | (simp_all; done) | (simp_all <;> omega)) ?_)
        refine hK _ _ (by kernel_rfl) ?_; clear hK K; (repeat (first | refine awp_seq ?_ | refine awp_block ?_ | refine awp_scope ?_ | refine awp_skip ?_ | refine awp_exit ?_ | refine awp_ret ?_ | refine sq_n ?_ | refine sq_r ?_ | refine sq_x ?_ | refine bq_n ?_ | refine bq_r ?_ | refine bq_x ?_ | refine bq_y rfl ?_ | refine pq_n ?_ | refine pq_r ?_ | refine pq_x ?_))
        refine awp_cond (b := !v) (by simp [push_cast, hne]) (fun hb => ?_) (fun hb => ?_) <;> ((repeat (first | refine awp_seq ?_ | refine awp_block ?_ | refine awp_scope ?_ | refine awp_skip ?_ | refine awp_exit ?_ | refine awp_ret ?_ | refine sq_n ?_ | refine sq_r ?_ | refine sq_x ?_ | refine bq_n ?_ | refine bq_r ?_ | refine bq_x ?_ | refine bq_y rfl ?_ | refine pq_n ?_ | refine pq_r ?_ | refine pq_x ?_)))
        · have hv2 : v = false := by simpa using hb
          rw [hv2] at hv
          have hn := hnext out (by omega) (comb_skip hcm hg hXY (.inr hv))
          refine awp_region cx [] fun K hK => ?_
          simp [push_cast, e0]
          repeat (refine And.intro (by clear hK; intros; first | omega | (simp_all; done) | (simp_all <;> omega)) ?_)
          refine hK _ ?_; clear hK K; (repeat (first | refine awp_seq ?_ | refine awp_block ?_ | refine awp_scope ?_ | refine awp_skip ?_ | refine awp_exit ?_ | refine awp_ret ?_ | refine sq_n ?_ | refine sq_r ?_ | refine sq_x ?_ | refine bq_n ?_ | refine bq_r ?_ | refine bq_x ?_ | refine bq_y rfl ?_ | refine pq_n ?_ | refine pq_r ?_ | refine pq_x ?_))
          refine ⟨(i + 1, out), hn, by simp only; omega, ?_⟩
          refine weak_of [(0, some 0)] rfl (by simp [upT, up, upL, push_cast]) (by simp [upH, upR, upL, up, push_cast]) (by simp [namesOk, push_cast]) (by simp [olds])
        · have hv2 : v = true := by simpa using hb
          rw [hv2] at hv
          have hlt2 : X < Y := by omega
          have hO16 : (out.length + 1) * 16 ≤ 140737488355328 := by omega
          refine awp_region cx [] fun K hK => ?_
          simp [push_cast]
          repeat (refine And.intro (by clear hK; intros; first | omega | (simp_all; done) | (simp_all <;> omega)) ?_)
          refine hK _ ?_; clear hK K; (repeat (first | refine awp_seq ?_ | refine awp_block ?_ | refine awp_scope ?_ | refine awp_skip ?_ | refine awp_exit ?_ | refine awp_ret ?_ | refine sq_n ?_ | refine sq_r ?_ | refine sq_x ?_ | refine bq_n ?_ | refine bq_r ?_ | refine bq_x ?_ | refine bq_y rfl ?_ | refine pq_n ?_ | refine pq_r ?_ | refine pq_x ?_))
          rcases List.eq_nil_or_concat out with rfl | ⟨o, q, rfl⟩
          · have hn := hnext _ (by simp) (comb_app hcm hg hlt2 hv (by simp))
            refine awp_region_draw cx mixed [] fun K hK => ?_
            simp [push_cast, hX, hi1]
            repeat (refine And.intro (by clear hK; intros; first | omega | (simp_all; done) | (simp_all <;> omega)) ?_)
            refine hK _ _ (by kernel_rfl) ?_; clear hK K; (repeat (first | refine awp_seq ?_ | refine awp_block ?_ | refine awp_scope ?_ | refine awp_skip ?_ | refine awp_exit ?_ | refine awp_ret ?_ | refine sq_n ?_ | refine sq_r ?_ | refine sq_x ?_ | refine bq_n ?_ | refine bq_r ?_ | refine bq_x ?_ | refine bq_y rfl ?_ | refine pq_n ?_ | refine pq_r ?_ | refine pq_x ?_))
            refine awp_cond (b := false) (by simp [push_cast]) (fun hb => ?_) (fun hb => ?_) <;> ((repeat (first | refine awp_seq ?_ | refine awp_block ?_ | refine awp_scope ?_ | refine awp_skip ?_ | refine awp_exit ?_ | refine awp_ret ?_ | refine sq_n ?_ | refine sq_r ?_ | refine sq_x ?_ | refine bq_n ?_ | refine bq_r ?_ | refine bq_x ?_ | refine bq_y rfl ?_ | refine pq_n ?_ | refine pq_r ?_ | refine pq_x ?_)))
            · simp at hb
            · refine awp_region_draw cx mixed [] fun K hK => ?_
              simp [push_cast, hX, hY, e0, hi1, hi2, hlti]
              repeat (refine And.intro (by clear hK; intros; first | omega | (simp_all; done) | (simp_all <;> omega)) ?_)
              refine hK _ _ (by kernel_rfl) ?_; clear hK K; (repeat (first | refine awp_seq ?_ | refine awp_block ?_ | refine awp_scope ?_ | refine awp_skip ?_ | refine awp_exit ?_ | refine awp_ret ?_ | refine sq_n ?_ | refine sq_r ?_ | refine sq_x ?_ | refine bq_n ?_ | refine bq_r ?_ | refine bq_x ?_ | refine bq_y rfl ?_ | refine pq_n ?_ | refine pq_r ?_ | refine pq_x ?_))
              refine awp_region cx [] fun K hK => ?_
              simp [push_cast, e0]
              repeat (refine And.intro (by clear hK; intros; first | omega | (simp_all; done) | (simp_all <;> omega)) ?_)
              refine hK _ ?_; clear hK K; (repeat (first | refine awp_seq ?_ | refine awp_block ?_ | refine awp_scope ?_ | refine awp_skip ?_ | refine awp_exit ?_ | refine awp_ret ?_ | refine sq_n ?_ | refine sq_r ?_ | refine sq_x ?_ | refine bq_n ?_ | refine bq_r ?_ | refine bq_x ?_ | refine bq_y rfl ?_ | refine pq_n ?_ | refine pq_r ?_ | refine pq_x ?_))
              refine ⟨(i + 1, [⟨X, Y⟩]), hn, by simp only; omega, ?_⟩
              refine weak_of [(0, some 63)] rfl (by simp [upT, up, upL, push_cast, Run.row]) (by simp [upH, upR, upL, up, push_cast, Run.row]) (by simp [namesOk, push_cast]) (by simp [olds])
          · rw [List.concat_eq_append] at *
            have hz : (o ++ [q])[o.length]? = some q := by simp
            have hlen : (o ++ [q]).length = o.length + 1 := by simp
            obtain ⟨qa, qb⟩ := q
            have hset : (dr ((o ++ [(⟨qa, qb⟩ : Run)]).map Run.row)).set o.length [.d (.int .i64 qa), .d (.int .i64 Y)] = dr ((o ++ [(⟨qa, Y⟩ : Run)]).map Run.row) := by
              simp [dr, List.map_set, Run.row]
            have hjoin := fun h => @comb_join f a b X Y o ⟨qa, qb⟩ hcm hg hlt2 hv h
            have happ := fun h => @comb_app f a b X Y (o ++ [⟨qa, qb⟩]) hcm hg hlt2 hv h
            simp only at hjoin
            have e1 := wrap_i64 (n := ((o.length + 1 : Nat) : Int) - 1) (by omega) (by omega)
            have e2 : (((o.length + 1 : Nat) : Int) - 1) = o.length := by omega
            rw [e2] at e1
            have e3 : (0 : Int) < (o.length : Int) + 1 := by omega
            have hjl : (o ++ [(⟨qa, Y⟩ : Run)]).length = o.length + 1 := by simp
            generalize hJ : o ++ [(⟨qa, Y⟩ : Run)] = J at *
            generalize hA : o ++ [(⟨qa, qb⟩ : Run)] = A at *
            rw [hlen]
            refine awp_region_draw cx mixed [] fun K hK => ?_
            simp [push_cast, hX, hz, hi1, e1, e2, e3, Run.row]
            repeat (refine And.intro (by clear hK; intros; first | omega | (simp_all; done) | (simp_all <;> omega)) ?_)
            refine hK _ _ (by kernel_rfl) ?_; clear hK K; (repeat (first | refine awp_seq ?_ | refine awp_block ?_ | refine awp_scope ?_ | refine awp_skip ?_ | refine awp_exit ?_ | refine awp_ret ?_ | refine sq_n ?_ | refine sq_r ?_ | refine sq_x ?_ | refine bq_n ?_ | refine bq_r ?_ | refine bq_x ?_ | refine bq_y rfl ?_ | refine pq_n ?_ | refine pq_r ?_ | refine pq_x ?_))
            refine awp_cond (b := qb == X) (by simp [push_cast, e3]) (fun hb => ?_) (fun hb => ?_) <;> ((repeat (first | refine awp_seq ?_ | refine awp_block ?_ | refine awp_scope ?_ | refine awp_skip ?_ | refine awp_exit ?_ | refine awp_ret ?_ | refine sq_n ?_ | refine sq_r ?_ | refine sq_x ?_ | refine bq_n ?_ | refine bq_r ?_ | refine bq_x ?_ | refine bq_y rfl ?_ | refine pq_n ?_ | refine pq_r ?_ | refine pq_x ?_)))
            · have hq : qb = X := by simpa using hb
              have hn := hnext J (by omega) (hjoin hq)
              refine awp_region cx [] fun K hK => ?_
              simp [push_cast, hY, hz, e0, e1, e2, e3, hi1, hi2, hlti, Run.row, hset]
              repeat (refine And.intro (by clear hK; intros; first | omega | (simp_all; done) | (simp_all <;> omega)) ?_)
              refine hK _ ?_; clear hK K; (repeat (first | refine awp_seq ?_ | refine awp_block ?_ | refine awp_scope ?_ | refine awp_skip ?_ | refine awp_exit ?_ | refine awp_ret ?_ | refine sq_n ?_ | refine sq_r ?_ | refine sq_x ?_ | refine bq_n ?_ | refine bq_r ?_ | refine bq_x ?_ | refine bq_y rfl ?_ | refine pq_n ?_ | refine pq_r ?_ | refine pq_x ?_))
              refine awp_region cx [] fun K hK => ?_
              simp [push_cast, e0]
              repeat (refine And.intro (by clear hK; intros; first | omega | (simp_all; done) | (simp_all <;> omega)) ?_)
              refine hK _ ?_; clear hK K; (repeat (first | refine awp_seq ?_ | refine awp_block ?_ | refine awp_scope ?_ | refine awp_skip ?_ | refine awp_exit ?_ | refine awp_ret ?_ | refine sq_n ?_ | refine sq_r ?_ | refine sq_x ?_ | refine bq_n ?_ | refine bq_r ?_ | refine bq_x ?_ | refine bq_y rfl ?_ | refine pq_n ?_ | refine pq_r ?_ | refine pq_x ?_))
              refine ⟨(i + 1, J), hn, by simp only; omega, ?_⟩
              refine weak_of [(0, some 0)] rfl (by simp [upT, up, upL, push_cast, Run.row, hjl]) (by simp [upH, upR, upL, up, push_cast, Run.row, hjl]) (by simp [namesOk, push_cast]) (by simp [olds])
            · have hq : ¬ qb = X := by simpa using hb
              have hn := hnext (A ++ [⟨X, Y⟩]) (by simp; omega) (happ (by
                intro r hr
                rw [hlen, Nat.add_sub_cancel, hz] at hr
                cases hr; exact hq))
              rw [← hlen]
              refine awp_region_draw cx mixed [] fun K hK => ?_
              simp [push_cast, hX, hY, e0, hi1, hi2, hlti, hO16]
              repeat (refine And.intro (by clear hK; intros; first | omega | (simp_all; done) | (simp_all <;> omega)) ?_)
              refine hK _ _ (by kernel_rfl) ?_; clear hK K; (repeat (first | refine awp_seq ?_ | refine awp_block ?_ | refine awp_scope ?_ | refine awp_skip ?_ | refine awp_exit ?_ | refine awp_ret ?_ | refine sq_n ?_ | refine sq_r ?_ | refine sq_x ?_ | refine bq_n ?_ | refine bq_r ?_ | refine bq_x ?_ | refine bq_y rfl ?_ | refine pq_n ?_ | refine pq_r ?_ | refine pq_x ?_))
              refine awp_region cx [] fun K hK => ?_
              simp [push_cast, e0]
              repeat (refine And.intro (by clear hK; intros; first | omega | (simp_all; done) | (simp_all <;> omega)) ?_)
              refine hK _ ?_; clear hK K; (repeat (first | refine awp_seq ?_ | refine awp_block ?_ | refine awp_scope ?_ | refine awp_skip ?_ | refine awp_exit ?_ | refine awp_ret ?_ | refine sq_n ?_ | refine sq_r ?_ | refine sq_x ?_ | refine bq_n ?_ | refine bq_r ?_ | refine bq_x ?_ | refine bq_y rfl ?_ | refine pq_n ?_ | refine pq_r ?_ | refine pq_x ?_))
              refine ⟨(i + 1, A ++ [⟨X, Y⟩]), hn, by simp only; omega, ?_⟩
              refine weak_of [(0, some 63)] rfl (by simp [upT, up, upL, push_cast, Run.row]) (by simp [upH, upR, upL, up, push_cast, Run.row]) (by simp [namesOk, push_cast]) (by simp [olds])
    · have hge : L.length ≤ i + 1 := by simp at hb; omega
      have hres : out = res := by
        rcases Nat.eq_zero_or_pos L.length with h | h
        · rw [ho0 h, hnil h]
        · obtain ⟨X, hX⟩ : ∃ X, L[i]? = some X := getq (hi h)
          exact hend i X out (by have := hi h; omega) hX (hat X hX)
      subst hres
      refine awp_region cx [] fun K hK => ?_
      simp [push_cast]
      repeat (refine And.intro (by clear hK; intros; first | omega | (simp_all; done) | (simp_all <;> omega)) ?_)
      refine hK _ ?_; clear hK K; (repeat (first | refine awp_seq ?_ | refine awp_block ?_ | refine awp_scope ?_ | refine awp_skip ?_ | refine awp_exit ?_ | refine awp_ret ?_ | refine sq_n ?_ | refine sq_r ?_ | refine sq_x ?_ | refine bq_n ?_ | refine bq_r ?_ | refine bq_x ?_ | refine bq_y rfl ?_ | refine pq_n ?_ | refine pq_r ?_ | refine pq_x ?_))
      have ht : List.take out.length (out.map Run.row) = out.map Run.row := List.take_of_length_le (by simp)
      simp [push_cast, ht]
end Go.Proofs.Ytmfkfgonedgjnaa
