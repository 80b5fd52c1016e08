/-
  The walks of this seat's functions and the plain laws behind them: part W1.
-/
import Derived.Test.YtmfkfgonedgjnaaQ3
import Derived.Test.YtmfkfgonedgjnaaAbsY
import Derived.Test.YtmfkfgonedgjnaaW2
set_option linter.unusedVariables false
set_option linter.unusedSimpArgs false
namespace Go.Proofs.Ytmfkfgonedgjnaa
open Go.Abs

theorem sortCell_px (l : List Cell) (hd : l.Nodup) (hon : ∀ c ∈ l, onG c = true) (hl : l.length ≤ 1000000) : PX Try.prog 52 [.hs 0 0 l.length, .d (.fn (.func 53) [])] [(0, ⟨35, 2, dr (l.map Cell.row)⟩)] [(0, 0)] [(0, ⟨35, 2, dr ((sortX l).map Cell.row)⟩)] (.tup []) := by
  have h := sortFunc_all (P := Try.prog) sortCell_lays (k := 2) (by decide) (fun w => by kernel_rfl) (fun w => by kernel_rfl) ⟨_, Try.func52, by kernel_rfl, by kernel_rfl⟩ (cg := 53) (fun args w => by kernel_rfl) cmpX_ok cfX_ord 35 (rows := l.map Cell.row) (rows' := (sortX l).map Cell.row)
    (fun r hr => by obtain ⟨c, hc, rfl⟩ := List.mem_map.1 hr; exact ⟨c, rfl, hon c hc⟩)
    (fun a ha b hb h1 h2 => by
      obtain ⟨c, hc, rfl⟩ := List.mem_map.1 ha
      obtain ⟨d, hd, rfl⟩ := List.mem_map.1 hb
      rw [cfX_anti h2 h1])
    ((sortX_perm l).map _) (sortX_rows l hd) (by simp; omega)
  simp only [List.length_map] at h
  exact h
theorem sortTrack_px (s l : List Cell) (hp : s.Perm l) (hl : l.Pairwise ltY) (hon : ∀ c ∈ l, onG c = true) (hn : l.length ≤ 1000000) : PX Try.prog 55 [.hs 0 0 (upAll s).length, .d (.fn (.func 56) [])] [(0, ⟨33, 3, dr ((upAll s).map Track.row)⟩)] [(0, 0)] [(0, ⟨33, 3, dr ((upAll l).map Track.row)⟩)] (.tup []) := by
  have hs : ∀ c ∈ s, onG c = true := fun c hc => hon c (hp.mem_iff.1 hc)
  have hlen : (upAll s).length ≤ s.length := upAll_len
  have hsl := hp.length_eq
  have h := sortFunc_all (P := Try.prog) sortTrack_lays (k := 3) (by decide) (fun w => by kernel_rfl) (fun w => by kernel_rfl) ⟨_, Try.func55, by kernel_rfl, by kernel_rfl⟩ (cg := 56) (fun args w => by kernel_rfl) cmpY_ok cfY_ord 33 (rows := (upAll s).map Track.row) (rows' := (upAll l).map Track.row)
    (fun r hr => by obtain ⟨t, ht, rfl⟩ := List.mem_map.1 hr; exact upAll_VT hs ht)
    (fun a ha b hb h1 h2 => by
      obtain ⟨c, hc, rfl⟩ := List.mem_map.1 ha
      obtain ⟨d, hd, rfl⟩ := List.mem_map.1 hb
      rw [upAll_anti hs hc hd h1 h2])
    ((upAll_perm hp.symm).map _) (upAll_rows hl hon) (by simp; omega)
  simp only [List.length_map] at h
  exact h

set_option maxHeartbeats 4000000 in
theorem lines_ok (R : List Row) (hR : smallR R) (hn : validR R = true → (regCells R).length ≤ 1000000) : PC Try.prog 16 [.agg (regRow R)] (.p (encTracks (linesOf R))) := by
  have c1 := valid_ok R hR
  have hL : linesOf R = if validR R then regTrk R ++ upAll (regSng R) else [] := rfl
  have hv0 : validR R = validR R := rfl
  generalize hv : validR R = v at c1 hL hn
  refine pc_of_awp cx (fn := Try.f16) (c := _) Try.func16 rfl rfl (Nat.le_of_ble_eq_true rfl) ?_
  rw [Try.ntmps16]; (repeat (first | refine awp_seq ?_ | refine awp_block ?_ | refine awp_scope ?_ | refine awp_skip ?_ | refine awp_exit ?_ | refine awp_ret ?_ | refine sq_n ?_ | refine sq_r ?_ | refine sq_x ?_ | refine bq_n ?_ | refine bq_r ?_ | refine bq_x ?_ | refine bq_y rfl ?_ | refine pq_n ?_ | refine pq_r ?_ | refine pq_x ?_))
  refine awp_region cx [] fun K hK => ?_
  simp [push_cast]
  repeat (refine And.intro (by clear hK; intros; first | omega | (simp_all; done) | (simp_all <;> omega)) ?_)
  refine hK _ ?_; clear hK K; (repeat (first | refine awp_seq ?_ | refine awp_block ?_ | refine awp_scope ?_ | refine awp_skip ?_ | refine awp_exit ?_ | refine awp_ret ?_ | refine sq_n ?_ | refine sq_r ?_ | refine sq_x ?_ | refine bq_n ?_ | refine bq_r ?_ | refine bq_x ?_ | refine bq_y rfl ?_ | refine pq_n ?_ | refine pq_r ?_ | refine pq_x ?_))
  refine awp_region cx [(1, .p (.bool v))] fun K hK => ?_
  simp [push_cast, c1]
  repeat (refine And.intro (by clear hK; intros; first | omega | (simp_all; done) | (simp_all <;> omega)) ?_)
  refine hK _ ?_; clear hK K; (repeat (first | refine awp_seq ?_ | refine awp_block ?_ | refine awp_scope ?_ | refine awp_skip ?_ | refine awp_exit ?_ | refine awp_ret ?_ | refine sq_n ?_ | refine sq_r ?_ | refine sq_x ?_ | refine bq_n ?_ | refine bq_r ?_ | refine bq_x ?_ | refine bq_y rfl ?_ | refine pq_n ?_ | refine pq_r ?_ | refine pq_x ?_))
  refine awp_cond (b := !v) (by simp [push_cast]) (fun hb => ?_) (fun hb => ?_) <;> ((repeat (first | refine awp_seq ?_ | refine awp_block ?_ | refine awp_scope ?_ | refine awp_skip ?_ | refine awp_exit ?_ | refine awp_ret ?_ | refine sq_n ?_ | refine sq_r ?_ | refine sq_x ?_ | refine bq_n ?_ | refine bq_r ?_ | refine bq_x ?_ | refine bq_y rfl ?_ | refine pq_n ?_ | refine pq_r ?_ | refine pq_x ?_)))
  · simp at hb
    rw [hL, hb]
    refine awp_region cx [] fun K hK => ?_
    simp [push_cast]
    repeat (refine And.intro (by clear hK; intros; first | omega | (simp_all; done) | (simp_all <;> omega)) ?_)
    refine hK _ ?_; clear hK K; (repeat (first | refine awp_seq ?_ | refine awp_block ?_ | refine awp_scope ?_ | refine awp_skip ?_ | refine awp_exit ?_ | refine awp_ret ?_ | refine sq_n ?_ | refine sq_r ?_ | refine sq_x ?_ | refine bq_n ?_ | refine bq_r ?_ | refine bq_x ?_ | refine bq_y rfl ?_ | refine pq_n ?_ | refine pq_r ?_ | refine pq_x ?_))
    simp [push_cast]
  · simp at hb
    rw [hb] at hv hL
    rw [if_pos rfl] at hL
    have hn := hn hb
    have c2 := wide_ok R hR hv hn
    have hle := reg_le hv
    have c3 := sortCell_px (regSng R) (nodup_of_ltY (sng_pw hv)) (fun c hc => cells_on hv (sng_mem hv hc)) (by omega)
    have hpw := sortX_lt (nodup_of_ltY (sng_pw hv))
    have hon : ∀ c ∈ sortX (regSng R), onG c = true := fun c hc => cells_on hv (sng_mem hv ((sortX_mem c).1 hc))
    have c4 := sortTrack_px (sortX (regSng R)) (regSng R) (sortX_perm _) (sng_pw hv) (fun c hc => cells_on hv (sng_mem hv hc)) (by omega)
    have hsl : (sortX (regSng R)).length = (regSng R).length := (sortX_perm _).length_eq
    have hul : (upAll (regSng R)).length ≤ (regSng R).length := upAll_len
    have hul2 : (upAll (sortX (regSng R))).length = (upAll (regSng R)).length := (upAll_perm (sortX_perm _)).length_eq
    generalize sortX (regSng R) = s at *
    generalize regSng R = q at *
    generalize regTrk R = T at *
    rw [hL]
    clear hL
    refine awp_region2 cx [] (pre := [_]) rfl rfl rfl rfl 1 ⟨[], [.d (.agg (regRow R))], [], [], none, [(1, ⟨33, 3, dr (T.map Track.row)⟩), (2, ⟨35, 2, dr (q.map Cell.row)⟩)], .tup [.hs 1 0 T.length, .hs 2 0 q.length]⟩ [(6, 1), (7, 2)] fun K hK => ?_
    simp [push_cast, effY, freshOk, c2]
    refine hK _ ?_; clear hK K
    (repeat (first | refine awp_seq ?_ | refine awp_block ?_ | refine awp_scope ?_ | refine awp_skip ?_ | refine awp_exit ?_ | refine awp_ret ?_ | refine sq_n ?_ | refine sq_r ?_ | refine sq_x ?_ | refine bq_n ?_ | refine bq_r ?_ | refine bq_x ?_ | refine bq_y rfl ?_ | refine pq_n ?_ | refine pq_r ?_ | refine pq_x ?_))
    have hq63 : q.length ≤ 1000000 := by omega
    refine awp_region cx [(1, .x ⟨[(0, 7)], [.hs 0 0 q.length, .d (.fn (.func 53) [])], [(0, ⟨35, 2, dr (q.map Cell.row)⟩)], [(0, 0)], none, [(0, ⟨35, 2, dr (s.map Cell.row)⟩)], .tup []⟩)] fun K hK => ?_
    simp [push_cast, c3]
    repeat (refine And.intro (by clear hK; intros; first | omega | (simp_all; done) | (simp_all <;> omega)) ?_)
    refine hK _ ?_; clear hK K; (repeat (first | refine awp_seq ?_ | refine awp_block ?_ | refine awp_scope ?_ | refine awp_skip ?_ | refine awp_exit ?_ | refine awp_ret ?_ | refine sq_n ?_ | refine sq_r ?_ | refine sq_x ?_ | refine bq_n ?_ | refine bq_r ?_ | refine bq_x ?_ | refine bq_y rfl ?_ | refine pq_n ?_ | refine pq_r ?_ | refine pq_x ?_))
    rw [← hsl]
    refine awp_freeze 7 (s.map Cell.row) rfl (by simp [push_cast]) fun K hK => ?_
    simp [push_cast, St.fz, fzT, fzH, fzO, fz, fzL, fzR, fzR_dr, fzR_app, fzR_set, fzL_map]
    refine hK _ ?_; clear hK K; (repeat (first | refine awp_seq ?_ | refine awp_block ?_ | refine awp_scope ?_ | refine awp_skip ?_ | refine awp_exit ?_ | refine awp_ret ?_ | refine sq_n ?_ | refine sq_r ?_ | refine sq_x ?_ | refine bq_n ?_ | refine bq_r ?_ | refine bq_x ?_ | refine bq_y rfl ?_ | refine pq_n ?_ | refine pq_r ?_ | refine pq_x ?_))
    refine awp_region cx [] fun K hK => ?_
    simp [push_cast]
    repeat (refine And.intro (by clear hK; intros; first | omega | (simp_all; done) | (simp_all <;> omega)) ?_)
    refine hK _ ?_; clear hK K; (repeat (first | refine awp_seq ?_ | refine awp_block ?_ | refine awp_scope ?_ | refine awp_skip ?_ | refine awp_exit ?_ | refine awp_ret ?_ | refine sq_n ?_ | refine sq_r ?_ | refine sq_x ?_ | refine bq_n ?_ | refine bq_r ?_ | refine bq_x ?_ | refine bq_y rfl ?_ | refine pq_n ?_ | refine pq_r ?_ | refine pq_x ?_))
    refine awp_region cx [] fun K hK => ?_
    simp [push_cast]
    repeat (refine And.intro (by clear hK; intros; first | omega | (simp_all; done) | (simp_all <;> omega)) ?_)
    refine hK _ ?_; clear hK K; (repeat (first | refine awp_seq ?_ | refine awp_block ?_ | refine awp_scope ?_ | refine awp_skip ?_ | refine awp_exit ?_ | refine awp_ret ?_ | refine sq_n ?_ | refine sq_r ?_ | refine sq_x ?_ | refine bq_n ?_ | refine bq_r ?_ | refine bq_x ?_ | refine bq_y rfl ?_ | refine pq_n ?_ | refine pq_r ?_ | refine pq_x ?_))
    refine awp_loop (β := Nat × List Track) (fun b => ⟨72, [(3, .hs 6 0 T.length), (4, .d (encCells s)), (5, .hs 7 0 b.2.length), (6, .d (.int .i64 b.1))], [(6, some ⟨33, 3, dr (T.map Track.row)⟩), (7, some ⟨33, 3, dr (b.2.map Track.row)⟩)], 8⟩)
      (fun b => b.1 ≤ s.length ∧ b.2 = (s.take b.1).flatMap (vT s) ∧ ∀ a, s[b.1]? = some a → vst s a = true) (fun b => s.length - b.1) (0, []) ?_ ⟨Nat.zero_le _, by simp, fun a ha => vst_first hpw ha⟩ ?_
    · refine weak_of [(6, some 6), (7, none)] rfl (by simp [upT, up, upL, push_cast]) (by simp [upH, upR, upL, up, push_cast]) (by simp [namesOk, push_cast]) (by simp [olds])
    · rintro ⟨i, U⟩ ⟨hi, hU, hst⟩
      simp only at hi hU hst
      (repeat (first | refine awp_seq ?_ | refine awp_block ?_ | refine awp_scope ?_ | refine awp_skip ?_ | refine awp_exit ?_ | refine awp_ret ?_ | refine sq_n ?_ | refine sq_r ?_ | refine sq_x ?_ | refine bq_n ?_ | refine bq_r ?_ | refine bq_x ?_ | refine bq_y rfl ?_ | refine pq_n ?_ | refine pq_r ?_ | refine pq_x ?_))
      refine awp_region cx [] fun K hK => ?_
      simp [push_cast]
      repeat (refine And.intro (by clear hK; intros; first | omega | (simp_all; done) | (simp_all <;> omega)) ?_)
      refine hK _ ?_; clear hK K; (repeat (first | refine awp_seq ?_ | refine awp_block ?_ | refine awp_scope ?_ | refine awp_skip ?_ | refine awp_exit ?_ | refine awp_ret ?_ | refine sq_n ?_ | refine sq_r ?_ | refine sq_x ?_ | refine bq_n ?_ | refine bq_r ?_ | refine bq_x ?_ | refine bq_y rfl ?_ | refine pq_n ?_ | refine pq_r ?_ | refine pq_x ?_))
      refine awp_cond (b := decide ((i : Int) < s.length)) (by simp [push_cast]) (fun hb => ?_) (fun hb => ?_) <;> ((repeat (first | refine awp_seq ?_ | refine awp_block ?_ | refine awp_scope ?_ | refine awp_skip ?_ | refine awp_exit ?_ | refine awp_ret ?_ | refine sq_n ?_ | refine sq_r ?_ | refine sq_x ?_ | refine bq_n ?_ | refine bq_r ?_ | refine bq_x ?_ | refine bq_y rfl ?_ | refine pq_n ?_ | refine pq_r ?_ | refine pq_x ?_)))
      · have hlt : i < s.length := by simpa using hb
        obtain ⟨a, ha⟩ := getq hlt
        have hv := hst a ha
        have e0 := wrap_i64 (n := (i : Int) + 1) (by omega) (by omega)
        have hUl : U.length ≤ 1000000 := by
          have : U.length ≤ s.length := by rw [hU]; exact take_flat_one (vT_len s) s i
          omega
        have hU40 : (U.length + 1) * 40 ≤ 140737488355328 := by omega
        refine awp_region cx [] fun K hK => ?_
        simp [push_cast, e0]
        repeat (refine And.intro (by clear hK; intros; first | omega | (simp_all; done) | (simp_all <;> omega)) ?_)
        refine hK _ ?_; clear hK K; (repeat (first | refine awp_seq ?_ | refine awp_block ?_ | refine awp_scope ?_ | refine awp_skip ?_ | refine awp_exit ?_ | refine awp_ret ?_ | refine sq_n ?_ | refine sq_r ?_ | refine sq_x ?_ | refine bq_n ?_ | refine bq_r ?_ | refine bq_x ?_ | refine bq_y rfl ?_ | refine pq_n ?_ | refine pq_r ?_ | refine pq_x ?_))
        refine awp_loop (β := Nat) (fun n => ⟨72, [(3, .hs 6 0 T.length), (4, .d (encCells s)), (5, .hs 7 0 U.length), (6, .d (.int .i64 i)), (7, .d (.int .i64 (i + n)))], [(6, some ⟨33, 3, dr (T.map Track.row)⟩), (7, some ⟨33, 3, dr (U.map Track.row)⟩)], 8⟩)
          (fun n => 0 < n ∧ i + n ≤ s.length ∧ Col s i n a) (fun n => s.length - i - n) 1 ?_ ⟨by omega, by omega, fun j hj => by rw [show j = 0 from by omega]; cases a; simpa using ha⟩ ?_
        · refine weak_of [(6, some 6), (7, some 7)] rfl (by simp [upT, up, upL, push_cast]) (by simp [upH, upR, upL, up, push_cast]) (by simp [namesOk, push_cast]) (by simp [olds])
        · rintro n ⟨hn0, hnl, hcol⟩
          (repeat (first | refine awp_seq ?_ | refine awp_block ?_ | refine awp_scope ?_ | refine awp_skip ?_ | refine awp_exit ?_ | refine awp_ret ?_ | refine sq_n ?_ | refine sq_r ?_ | refine sq_x ?_ | refine bq_n ?_ | refine bq_r ?_ | refine bq_x ?_ | refine bq_y rfl ?_ | refine pq_n ?_ | refine pq_r ?_ | refine pq_x ?_))
          have hp := hcol (n - 1) (by omega)
          have e1 := wrap_i64 (n := (i : Int) + n - 1) (by omega) (by omega)
          have e2 : ((i : Int) + n).toNat = i + n := by omega
          have e3 : ((i : Int) + n - 1).toNat = i + (n - 1) := by omega
          have e5 : (0 : Int) ≤ (i : Int) + n - 1 := by omega
          have e6 : (0 : Int) ≤ (i : Int) + n := by omega
          have hag := onG_bd (hon _ (List.mem_of_getElem? hp))
          simp only at hag
          have e7 := wrap_i64 (n := a.y + ((n - 1 : Nat) : Int) + 1) (by omega) (by omega)
          have e8 := wrap_i64 (n := (i : Int) + n + 1) (by omega) (by omega)
          have e9 : a.y + ((n - 1 : Nat) : Int) + 1 = a.y + n := by omega
          by_cases hs : Stop s i n a
          · apply cut_
            · intro key
              by_cases hkl : i + n < s.length
              · obtain ⟨b, hb⟩ := getq hkl
                have e4 : (i : Int) + n < s.length := by omega
                have hsb : (b.x == a.x && b.y == a.y + (n : Int)) = false := by
                  rw [Bool.eq_false_iff]
                  intro h
                  simp at h
                  exact hs b hb h
                refine awp_region_draw cx mixed [] fun K hK => ?_
                simp [push_cast, ha, hb, hp, e1, e2, e3, e4, e5, e6, e7]
                repeat (refine And.intro (by clear hK; intros; first | omega | (simp_all; done) | (simp_all <;> omega)) ?_)
                refine hK _ _ (by kernel_rfl) ?_; clear hK K; (repeat (first | refine awp_seq ?_ | refine awp_block ?_ | refine awp_scope ?_ | refine awp_skip ?_ | refine awp_exit ?_ | refine awp_ret ?_ | refine sq_n ?_ | refine sq_r ?_ | refine sq_x ?_ | refine bq_n ?_ | refine bq_r ?_ | refine bq_x ?_ | refine bq_y rfl ?_ | refine pq_n ?_ | refine pq_r ?_ | refine pq_x ?_))
                refine awp_cond (b := false) (by simp [push_cast, e9, e4, hsb]) (fun hb => ?_) (fun hb => ?_) <;> ((repeat (first | refine awp_seq ?_ | refine awp_block ?_ | refine awp_scope ?_ | refine awp_skip ?_ | refine awp_exit ?_ | refine awp_ret ?_ | refine sq_n ?_ | refine sq_r ?_ | refine sq_x ?_ | refine bq_n ?_ | refine bq_r ?_ | refine bq_x ?_ | refine bq_y rfl ?_ | refine pq_n ?_ | refine pq_r ?_ | refine pq_x ?_)))
                · simp at hb
                · refine awp_weak (s' := ⟨72, [(3, .hs 6 0 T.length), (4, .d (encCells s)), (5, .hs 7 0 U.length), (6, .d (.int .i64 i)), (7, .d (.int .i64 (i + n)))], [(6, some ⟨33, 3, dr (T.map Track.row)⟩), (7, some ⟨33, 3, dr (U.map Track.row)⟩)], 8⟩) ?_ key.h
                  refine weak_of [(6, some 6), (7, some 7)] rfl (by simp [upT, up, upL, push_cast]) (by simp [upH, upR, upL, up, push_cast]) (by simp [namesOk, push_cast]) (by simp [olds])
              · have e4 : ¬ (i : Int) + n < s.length := by omega
                have hbn : s[i + n]? = none := List.getElem?_eq_none (by omega)
                refine awp_region_draw cx mixed [] fun K hK => ?_
                simp [push_cast, ha, hp, hbn, e1, e2, e3, e4, e5, e6, e7]
                repeat (refine And.intro (by clear hK; intros; first | omega | (simp_all; done) | (simp_all <;> omega)) ?_)
                refine hK _ _ (by kernel_rfl) ?_; clear hK K; (repeat (first | refine awp_seq ?_ | refine awp_block ?_ | refine awp_scope ?_ | refine awp_skip ?_ | refine awp_exit ?_ | refine awp_ret ?_ | refine sq_n ?_ | refine sq_r ?_ | refine sq_x ?_ | refine bq_n ?_ | refine bq_r ?_ | refine bq_x ?_ | refine bq_y rfl ?_ | refine pq_n ?_ | refine pq_r ?_ | refine pq_x ?_))
                refine awp_cond (b := false) (by simp [push_cast, e4]) (fun hb => ?_) (fun hb => ?_) <;> ((repeat (first | refine awp_seq ?_ | refine awp_block ?_ | refine awp_scope ?_ | refine awp_skip ?_ | refine awp_exit ?_ | refine awp_ret ?_ | refine sq_n ?_ | refine sq_r ?_ | refine sq_x ?_ | refine bq_n ?_ | refine bq_r ?_ | refine bq_x ?_ | refine bq_y rfl ?_ | refine pq_n ?_ | refine pq_r ?_ | refine pq_x ?_)))
                · simp at hb
                · refine awp_weak (s' := ⟨72, [(3, .hs 6 0 T.length), (4, .d (encCells s)), (5, .hs 7 0 U.length), (6, .d (.int .i64 i)), (7, .d (.int .i64 (i + n)))], [(6, some ⟨33, 3, dr (T.map Track.row)⟩), (7, some ⟨33, 3, dr (U.map Track.row)⟩)], 8⟩) ?_ key.h
                  refine weak_of [(6, some 6), (7, some 7)] rfl (by simp [upT, up, upL, push_cast]) (by simp [upH, upR, upL, up, push_cast]) (by simp [namesOk, push_cast]) (by simp [olds])
            · have hpc := col_piece hpw hon hn0 hcol hs hv
              rw [← hU] at hpc
              have hpl : ((s.drop i).take n).length ≤ 1000000 := by simp; omega
              have c5 : PC Try.prog 54 [encCells ((s.drop i).take n)] (.f (.agg (trk ((s.drop i).take n)).row)) := path_ok _ hpl
              have hm : List.drop i (List.take (i + n) (s.map Cell.row)) = ((s.drop i).take n).map Cell.row := by
                rw [List.map_take, List.map_drop, List.drop_take]; simp
              have hm2 : ∀ f : Cell → List D, List.take n (List.drop i (List.map f s)) = ((s.drop i).take n).map f := fun f => by rw [List.map_take, List.map_drop]
              have hnext : ∀ b, s[i + n]? = some b → vst s b = true := fun b hb => col_next hpw hn0 hcol hs hb
              generalize hPd : (s.drop i).take n = Pc at *
              have e4 : (i : Int) ≤ (i : Int) + n := by omega
              (repeat (first | refine awp_seq ?_ | refine awp_block ?_ | refine awp_scope ?_ | refine awp_skip ?_ | refine awp_exit ?_ | refine awp_ret ?_ | refine sq_n ?_ | refine sq_r ?_ | refine sq_x ?_ | refine bq_n ?_ | refine bq_r ?_ | refine bq_x ?_ | refine bq_y rfl ?_ | refine pq_n ?_ | refine pq_r ?_ | refine pq_x ?_))
              refine awp_region cx [(5, .f (.agg (trk Pc).row))] fun K hK => ?_
              simp [push_cast, c5, e2, e4, e6, hm, hnl, hU40]
              repeat (refine And.intro (by clear hK; intros; first | omega | (simp_all; done) | (simp_all <;> omega)) ?_)
              refine hK _ ?_; clear hK K; (repeat (first | refine awp_seq ?_ | refine awp_block ?_ | refine awp_scope ?_ | refine awp_skip ?_ | refine awp_exit ?_ | refine awp_ret ?_ | refine sq_n ?_ | refine sq_r ?_ | refine sq_x ?_ | refine bq_n ?_ | refine bq_r ?_ | refine bq_x ?_ | refine bq_y rfl ?_ | refine pq_n ?_ | refine pq_r ?_ | refine pq_x ?_))
              refine awp_region cx [] fun K hK => ?_
              simp [push_cast]
              repeat (refine And.intro (by clear hK; intros; first | omega | (simp_all; done) | (simp_all <;> omega)) ?_)
              refine hK _ ?_; clear hK K; (repeat (first | refine awp_seq ?_ | refine awp_block ?_ | refine awp_scope ?_ | refine awp_skip ?_ | refine awp_exit ?_ | refine awp_ret ?_ | refine sq_n ?_ | refine sq_r ?_ | refine sq_x ?_ | refine bq_n ?_ | refine bq_r ?_ | refine bq_x ?_ | refine bq_y rfl ?_ | refine pq_n ?_ | refine pq_r ?_ | refine pq_x ?_))
              refine ⟨(i + n, U ++ [trk Pc]), ⟨hnl, hpc.symm, hnext⟩, by simp only; omega, ?_⟩
              refine weak_of [(6, some 6), (7, some 15)] rfl (by simp [upT, up, upL, push_cast, Track.row]) (by simp [upH, upR, upL, up, push_cast, Track.row]) (by simp [namesOk, push_cast]) (by simp [olds])
          · have : ∃ b, s[i + n]? = some b ∧ b.x = a.x ∧ b.y = a.y + n := by
              apply Classical.byContradiction
              intro h
              exact hs fun b hb hx => h ⟨b, hb, hx⟩
            obtain ⟨b, hb, hbx, hby⟩ := this
            have hkl := (List.getElem?_eq_some_iff.1 hb).1
            have e4 : (i : Int) + n < s.length := by omega
            obtain ⟨bx, bY⟩ := b
            simp only at hbx hby
            subst hbx hby
            refine awp_region_draw cx mixed [] fun K hK => ?_
            simp [push_cast, ha, hb, hp, e1, e2, e3, e4, e5, e6, e7]
            repeat (refine And.intro (by clear hK; intros; first | omega | (simp_all; done) | (simp_all <;> omega)) ?_)
            refine hK _ _ (by kernel_rfl) ?_; clear hK K; (repeat (first | refine awp_seq ?_ | refine awp_block ?_ | refine awp_scope ?_ | refine awp_skip ?_ | refine awp_exit ?_ | refine awp_ret ?_ | refine sq_n ?_ | refine sq_r ?_ | refine sq_x ?_ | refine bq_n ?_ | refine bq_r ?_ | refine bq_x ?_ | refine bq_y rfl ?_ | refine pq_n ?_ | refine pq_r ?_ | refine pq_x ?_))
            refine awp_cond (b := true) (by simp [push_cast, e9, e4]) (fun hb => ?_) (fun hb => ?_) <;> ((repeat (first | refine awp_seq ?_ | refine awp_block ?_ | refine awp_scope ?_ | refine awp_skip ?_ | refine awp_exit ?_ | refine awp_ret ?_ | refine sq_n ?_ | refine sq_r ?_ | refine sq_x ?_ | refine bq_n ?_ | refine bq_r ?_ | refine bq_x ?_ | refine bq_y rfl ?_ | refine pq_n ?_ | refine pq_r ?_ | refine pq_x ?_)))
            · refine awp_region cx [] fun K hK => ?_
              simp [push_cast, e8]
              repeat (refine And.intro (by clear hK; intros; first | omega | (simp_all; done) | (simp_all <;> omega)) ?_)
              refine hK _ ?_; clear hK K; (repeat (first | refine awp_seq ?_ | refine awp_block ?_ | refine awp_scope ?_ | refine awp_skip ?_ | refine awp_exit ?_ | refine awp_ret ?_ | refine sq_n ?_ | refine sq_r ?_ | refine sq_x ?_ | refine bq_n ?_ | refine bq_r ?_ | refine bq_x ?_ | refine bq_y rfl ?_ | refine pq_n ?_ | refine pq_r ?_ | refine pq_x ?_))
              refine ⟨n + 1, ⟨by omega, by omega, fun j hj => ?_⟩, by omega, ?_⟩
              · by_cases hjn : j = n
                · subst hjn; exact hb
                · exact hcol j (by omega)
              · refine weak_of [(6, some 6), (7, some 7)] rfl (by simp [upT, up, upL, push_cast, Int.add_assoc]) (by simp [upH, upR, upL, up, push_cast, Int.add_assoc]) (by simp [namesOk, push_cast]) (by simp [olds])
            · simp at hb
      · have hin : i = s.length := by simp at hb; omega
        subst hin
        rw [List.take_length] at hU
        have hU' : U = upAll s := hU
        subst hU'
        clear hU hst
        have hTU : (T.length + (upAll q).length) * 40 ≤ 140737488355328 := by omega
        refine awp_region cx [(1, .x ⟨[(0, 7)], [.hs 0 0 (upAll s).length, .d (.fn (.func 56) [])], [(0, ⟨33, 3, dr ((upAll s).map Track.row)⟩)], [(0, 0)], none, [(0, ⟨33, 3, dr ((upAll q).map Track.row)⟩)], .tup []⟩)] fun K hK => ?_
        simp [push_cast, c4]
        repeat (refine And.intro (by clear hK; intros; first | omega | (simp_all; done) | (simp_all <;> omega)) ?_)
        refine hK _ ?_; clear hK K; (repeat (first | refine awp_seq ?_ | refine awp_block ?_ | refine awp_scope ?_ | refine awp_skip ?_ | refine awp_exit ?_ | refine awp_ret ?_ | refine sq_n ?_ | refine sq_r ?_ | refine sq_x ?_ | refine bq_n ?_ | refine bq_r ?_ | refine bq_x ?_ | refine bq_y rfl ?_ | refine pq_n ?_ | refine pq_r ?_ | refine pq_x ?_))
        rw [hul2]
        generalize upAll q = V at *
        refine awp_region cx [] fun K hK => ?_
        simp [push_cast, hTU]
        repeat (refine And.intro (by clear hK; intros; first | omega | (simp_all; done) | (simp_all <;> omega)) ?_)
        refine hK _ ?_; clear hK K; (repeat (first | refine awp_seq ?_ | refine awp_block ?_ | refine awp_scope ?_ | refine awp_skip ?_ | refine awp_exit ?_ | refine awp_ret ?_ | refine sq_n ?_ | refine sq_r ?_ | refine sq_x ?_ | refine bq_n ?_ | refine bq_r ?_ | refine bq_x ?_ | refine bq_y rfl ?_ | refine pq_n ?_ | refine pq_r ?_ | refine pq_x ?_))
        have ht : List.take (T.length + V.length) (T.map Track.row ++ V.map Track.row) = T.map Track.row ++ V.map Track.row := List.take_of_length_le (by simp)
        simp [push_cast, ht]
end Go.Proofs.Ytmfkfgonedgjnaa
