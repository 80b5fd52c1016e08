/-
  Texts of this seat put together: T6, U1, X9, B1, P8, P9, P10, P11, P13, P14, P15.
-/
import Derived.Test.YtlfbjflfbjkbeaaGreatI7
import Derived.Test.YtlfbjflfbjkbeaaGreatI5
import Derived.Test.YtlfbjflfbjkbeaaGreatI6
set_option linter.unusedVariables false
set_option linter.unusedSimpArgs false
set_option maxRecDepth 100000
namespace Go.Proofs.YtlfbjflfbjkbeaaGreat
open Go.Abs

def cfD : List D → List D → Int
  | [.int _ ax, .int _ ay], [.int _ bx, .int _ by'] => orI (cmpI ay by') (cmpI ax bx)
  | _, _ => 0
theorem orI_lt (a b c d : Int) : orI (cmpI a b) (cmpI c d) < 0 ↔ a < b ∨ a = b ∧ c < d := by
  unfold orI cmpI
  split <;> (try split) <;> (try split) <;> (try split) <;> omega
theorem cfD_bef (a b : Cell) : cfD a.row b.row < 0 ↔ bef a b = true := by
  obtain ⟨ax, ay⟩ := a
  obtain ⟨bx, b'⟩ := b
  simp only [cfD, Cell.row, orI_lt, bef]
  simp
theorem cfD_ok : CmpOk Tryz.prog 74 VC cfD := by
  refine cmp_of_pc ?_
  rintro _ _ ⟨a, rfl, _⟩ ⟨b, rfl, _⟩
  have := ofCmp_ok a b
  exact this
theorem cfD_ord : CmpOrd VC cfD where
  irrefl := by rintro _ ⟨a, rfl, _⟩; rw [cfD_bef]; simp [bef]
  trans := by
    rintro _ _ _ ⟨a, rfl, _⟩ ⟨b, rfl, _⟩ ⟨c, rfl, _⟩
    rw [cfD_bef, cfD_bef, cfD_bef]
    simp [bef]; omega
  ntrans := by
    rintro _ _ _ ⟨a, rfl, _⟩ ⟨b, rfl, _⟩ ⟨c, rfl, _⟩
    rw [cfD_bef, cfD_bef, cfD_bef]
    simp [bef]; omega
theorem sortO_px (l : List Cell) (hon : ∀ c ∈ l, onG c = true) (hl : l.length ≤ 1000000) : PX Tryz.prog 73 [.hs 0 0 l.length, .d (.fn (.func 74) [])] [(0, ⟨57, 2, dr (l.map Cell.row)⟩)] [(0, 0)] [(0, ⟨57, 2, dr ((sortY l).map Cell.row)⟩)] (.tup []) := by
  have h := sortFunc_all (P := Tryz.prog) sortCell_lays (k := 2) (by decide) (fun w => by kernel_rfl) (fun w => by kernel_rfl) ⟨_, Tryz.func73, by kernel_rfl, by kernel_rfl⟩ (cg := 74) (fun args w => by kernel_rfl) cfD_ok cfD_ord 57 (rows := l.map Cell.row) (rows' := (sortY l).map Cell.row)
    (fun r hr => by obtain ⟨c, hc, rfl⟩ := List.mem_map.1 hr; exact ⟨c, rfl, hon c hc⟩)
    (fun a ha b hb h1 h2 => by
      obtain ⟨c, hc, rfl⟩ := List.mem_map.1 ha
      obtain ⟨d, hd, rfl⟩ := List.mem_map.1 hb
      rw [cfD_bef] at h1 h2
      have e : c = d := leY_anti (bef_leY (by simpa using h1)) (bef_leY (by simpa using h2))
      rw [e])
    ((sortY_perm l).map _) (by
      rw [List.pairwise_map]
      refine (sortY_le l).imp fun {a b} h => ?_
      rw [cfD_bef]
      simp [bef, leY] at *; omega) (by simp; omega)
  simp only [List.length_map] at h
  exact h

def ofTl : Option (Int × List Run) → List (List AV)
  | none => []
  | some (y, L) => [[.d (.int .i64 y), .hs 3 0 L.length]]
def ofRl : Option (Int × List Run) → List Run
  | none => []
  | some (_, L) => L
def ofX (P : List Row) : Option (Int × List Run) → List Row
  | none => P
  | some (y, L) => P ++ [⟨y, L⟩]

set_option maxHeartbeats 4000000 in
theorem of_ok (l : List Cell) (hl : l.length ≤ 1000000) : PC Tryz.prog 62 [encCells l] (.p (ofD l)) := by
  have hD : ofD l = .tup [.agg (regRow (ofR l)), .int .i64 (ofE l)] := rfl
  rw [hD]
  refine pc_of_awp cx (fn := Tryz.f62) (c := _) Tryz.func62 rfl rfl (Nat.le_of_ble_eq_true rfl) ?_
  rw [Tryz.ntmps62]; refine Nav.imp ?_
  refine awp_region cx [] fun K hK => ?_
  simp [push_cast]
  repeat (refine And.intro (by clear hK; intros; first | omega | (simp_all; done) | (simp_all <;> omega)) ?_)
  refine hK _ ?_; clear hK K; refine Nav.imp ?_
  refine awp_region cx [] fun K hK => ?_
  simp [push_cast]
  repeat (refine And.intro (by clear hK; intros; first | omega | (simp_all; done) | (simp_all <;> omega)) ?_)
  refine hK _ ?_; clear hK K; refine Nav.imp ?_
  refine awp_loop (β := Nat) (fun k => ⟨124, [(0, .d (encCells l)), (2, .ptr 0 0 0), (3, .d (.int .i64 0)), (13, .d (encCells l)), (14, .d (.int .i64 l.length)), (15, .d (.int .i64 k))], [(0, some ⟨48, 1, [[.nl]]⟩)], 1⟩) (fun k => k ≤ l.length ∧ ∀ c ∈ l.take k, onG c = true) (fun k => l.length - k) 0 ?_ ⟨Nat.zero_le _, by simp⟩ ?_
  · refine weak_of [(0, some 0)] rfl (by simp [upT, up, upL, push_cast]) (by simp [upH, upR, upL, up, push_cast]) (by simp [namesOk, push_cast]) (by simp [olds])
  · rintro k ⟨hk, hon⟩
    refine Nav.imp ?_
    refine awp_region cx [] fun K hK => ?_
    simp [push_cast]
    repeat (refine And.intro (by clear hK; intros; first | omega | (simp_all; done) | (simp_all <;> omega)) ?_)
    refine hK _ ?_; clear hK K; refine Nav.imp ?_
    refine awp_cond (b := decide ((k : Int) < l.length)) (by simp [push_cast]) (fun hb => ?_) (fun hb => ?_) <;> (refine Nav.imp ?_)
    · have hlt : k < l.length := by simpa using hb
      obtain ⟨c, hc⟩ := getq hlt
      have e0 := wrap_i64 (n := (k : Int) + 1) (by omega) (by omega)
      have c1 := ok_ok c.x
      have c2 := ok_ok c.y
      have hv : onG c = (okB c.x && okB c.y) := by simp [onG, okB, Bool.and_assoc]
      have hbad : onG c = false → ofR l = [] ∧ ofE l = 8 := fun h => by
        have hall : l.all onG = false := by
          rw [Bool.eq_false_iff]
          intro h'
          have := List.all_eq_true.1 h' c (List.mem_of_getElem? hc)
          rw [h] at this; cases this
        exact ⟨by simp [ofR, hall], by simp [ofE, hall]⟩
      obtain ⟨x, y⟩ := c
      simp only at c1 c2 hv
      generalize okB x = p at *
      generalize okB y = q at *
      refine awp_region cx [] fun K hK => ?_
      simp [push_cast, hc]
      repeat (refine And.intro (by clear hK; intros; first | omega | (simp_all; done) | (simp_all <;> omega)) ?_)
      refine hK _ ?_; clear hK K; refine Nav.imp ?_
      cases p with
      | false =>
        obtain ⟨h1, h2⟩ := hbad (by rw [hv]; rfl)
        rw [h1, h2]
        refine awp_region cx [(2, .p (.bool false)), (7, .skip)] fun K hK => ?_
        simp [push_cast, c1]
        repeat (refine And.intro (by clear hK; intros; first | omega | (simp_all; done) | (simp_all <;> omega)) ?_)
        refine hK _ ?_; clear hK K; refine Nav.imp ?_
        refine awp_cond (b := true) (by simp [push_cast]) (fun hb => ?_) (fun hb => ?_) <;> (refine Nav.imp ?_)
        · refine awp_region cx [] fun K hK => ?_
          simp [push_cast]
          repeat (refine And.intro (by clear hK; intros; first | omega | (simp_all; done) | (simp_all <;> omega)) ?_)
          refine hK _ ?_; clear hK K; refine Nav.imp ?_
          simp [push_cast]
        · simp at hb
      | true =>
        refine awp_region cx [(2, .p (.bool true)), (7, .p (.bool q))] fun K hK => ?_
        simp [push_cast, c1, c2]
        repeat (refine And.intro (by clear hK; intros; first | omega | (simp_all; done) | (simp_all <;> omega)) ?_)
        refine hK _ ?_; clear hK K; refine Nav.imp ?_
        refine awp_cond (b := !q) (by simp [push_cast]) (fun hb => ?_) (fun hb => ?_) <;> (refine Nav.imp ?_)
        · simp at hb
          obtain ⟨h1, h2⟩ := hbad (by rw [hv, hb]; rfl)
          rw [h1, h2]
          refine awp_region cx [] fun K hK => ?_
          simp [push_cast]
          repeat (refine And.intro (by clear hK; intros; first | omega | (simp_all; done) | (simp_all <;> omega)) ?_)
          refine hK _ ?_; clear hK K; refine Nav.imp ?_
          simp [push_cast]
        · simp at hb
          refine awp_region cx [] fun K hK => ?_
          simp [push_cast, e0]
          repeat (refine And.intro (by clear hK; intros; first | omega | (simp_all; done) | (simp_all <;> omega)) ?_)
          refine hK _ ?_; clear hK K; refine Nav.imp ?_
          refine ⟨k + 1, ⟨hlt, fun d hd => ?_⟩, by omega, ?_⟩
          · rw [take_get hc] at hd
            rcases List.mem_append.1 hd with hd | hd
            · exact hon d hd
            · simp at hd; subst hd; rw [hv, hb]; rfl
          · refine weak_of [(0, some 0)] rfl (by simp [upT, up, upL, push_cast]) (by simp [upH, upR, upL, up, push_cast]) (by simp [namesOk, push_cast]) (by simp [olds])
    · have hge : k = l.length := by simp at hb; omega
      subst hge
      rw [List.take_length] at hon
      have hall : l.all onG = true := List.all_eq_true.2 hon
      have h1 : ofR l = build (sortY l) := by simp [ofR, hall]
      have h2 : ofE l = 0 := by simp [ofE, hall]
      have c1 := clone_ok l hl
      have c2 := sortO_px l hon hl
      have hslen : (sortY l).length = l.length := (sortY_perm l).length_eq
      have hson : ∀ c ∈ sortY l, onG c = true := fun c hc => hon c ((sortY_perm l).mem_iff.1 hc)
      rw [h1, h2]
      clear h1 h2 hb hall
      generalize sortY l = s at *
      refine awp_region cx [(1, .o 57 2 (l.map Cell.row))] fun K hK => ?_
      simp [push_cast, c1]
      repeat (refine And.intro (by clear hK; intros; first | omega | (simp_all; done) | (simp_all <;> omega)) ?_)
      refine hK _ ?_; clear hK K; refine Nav.imp ?_
      refine awp_region cx [(1, .x ⟨[(0, 3)], [.hs 0 0 l.length, .d (.fn (.func 74) [])], [(0, ⟨57, 2, dr (l.map Cell.row)⟩)], [(0, 0)], none, [(0, ⟨57, 2, dr (s.map Cell.row)⟩)], .tup []⟩)] fun K hK => ?_
      simp [push_cast, c2]
      repeat (refine And.intro (by clear hK; intros; first | omega | (simp_all; done) | (simp_all <;> omega)) ?_)
      refine hK _ ?_; clear hK K; refine Nav.imp ?_
      rw [← hslen]
      have hsl : s.length ≤ 1000000 := by omega
      refine awp_freeze 3 (s.map Cell.row) rfl (by simp [push_cast]) fun K hK => ?_
      simp [push_cast, St.fz, fzT, fzH, fzO, fz, fzL, fzR, fzR_dr, fzR_app, fzR_set, fzL_map]
      refine hK _ ?_; clear hK K; refine Nav.imp ?_
      refine awp_region cx [] fun K hK => ?_
      simp [push_cast]
      repeat (refine And.intro (by clear hK; intros; first | omega | (simp_all; done) | (simp_all <;> omega)) ?_)
      refine hK _ ?_; clear hK K; refine Nav.imp ?_
      refine awp_region cx [] fun K hK => ?_
      simp [push_cast]
      repeat (refine And.intro (by clear hK; intros; first | omega | (simp_all; done) | (simp_all <;> omega)) ?_)
      refine hK _ ?_; clear hK K; refine Nav.imp ?_
      refine awp_loop (β := Nat × List Row × Option (Int × List Run)) (fun b => ⟨124, [(2, .ptr 0 0 0), (3, .d (.int .i64 0)), (7, .ptr 1 0 0), (35, .d (encCells s)), (36, .d (.int .i64 s.length)), (37, .d (.int .i64 b.1))], [(0, some ⟨48, 1, [[.nl]]⟩), (1, some ⟨48, 1, [[.hs 2 0 (b.2.1.length + (ofTl b.2.2).length)]]⟩), (2, some ⟨51, 2, dr (b.2.1.map Row.row) ++ ofTl b.2.2⟩), (3, some ⟨70, 2, dr ((ofRl b.2.2).map Run.row)⟩)], 4⟩)
        (fun b => b.1 ≤ s.length ∧ ofX b.2.1 b.2.2 = build (s.take b.1) ∧ (b.2.2 = none → b.2.1 = []) ∧ (∀ y L, b.2.2 = some (y, L) → L ≠ [])) (fun b => s.length - b.1) (0, [], none) ?_ ⟨Nat.zero_le _, by simp [ofX, build], fun _ => rfl, fun y L h => by cases h⟩ ?_
      · refine weak_of [(0, some 0), (1, some 7), (2, none), (3, none)] rfl (by simp [upT, up, upL, push_cast, ofTl, ofRl]) (by simp [upH, upR, upL, up, push_cast, ofTl, ofRl]) (by simp [namesOk, push_cast]) (by simp [olds])
      · rintro ⟨k, P, o⟩ ⟨hk, hX, hP0, hL0⟩
        simp only at hk hX hP0 hL0
        refine Nav.imp ?_
        refine awp_region cx [] fun K hK => ?_
        simp [push_cast, ofTl, ofRl]
        repeat (refine And.intro (by clear hK; intros; first | omega | (simp_all; done) | (simp_all <;> omega)) ?_)
        refine hK _ ?_; clear hK K; refine Nav.imp ?_
        refine awp_cond (b := decide ((k : Int) < s.length)) (by simp [push_cast]) (fun hb => ?_) (fun hb => ?_) <;> (refine Nav.imp ?_)
        · have hlt : k < s.length := by simpa using hb
          obtain ⟨c, hc⟩ := getq hlt
          have e0 := wrap_i64 (n := (k : Int) + 1) (by omega) (by omega)
          have hcg := onG_bd (hson c (List.mem_of_getElem? hc))
          have hnx : build (s.take (k + 1)) = addC (ofX P o) c := by rw [build_take hc, hX]
          have hsm := build_small (s.take k)
          rw [← hX] at hsm
          have hXl : (ofX P o).length ≤ 1000000 := by have := hsm.1; simp at this; omega
          have hXr : ∀ w ∈ ofX P o, w.runs.length ≤ 1000000 := fun w hw => by have := hsm.2 w hw; simp at this; omega
          clear hX hsm
          obtain ⟨x, y⟩ := c
          simp only at hcg
          have ex := wrap_i64 (n := x + 1) (by omega) (by omega)
          rcases o with _ | ⟨wy, L⟩
          · have hP := hP0 rfl
            subst hP
            simp only [ofX, addC_nil] at hnx
            refine awp_region cx [] fun K hK => ?_
            simp [push_cast, hc, ofTl, ofRl]
            repeat (refine And.intro (by clear hK; intros; first | omega | (simp_all; done) | (simp_all <;> omega)) ?_)
            refine hK _ ?_; clear hK K; refine Nav.imp ?_
            refine awp_region cx [] fun K hK => ?_
            simp [push_cast]
            repeat (refine And.intro (by clear hK; intros; first | omega | (simp_all; done) | (simp_all <;> omega)) ?_)
            refine hK _ ?_; clear hK K; refine Nav.imp ?_
            refine awp_region_draw cx mixed [] fun K hK => ?_
            simp [push_cast]
            repeat (refine And.intro (by clear hK; intros; first | omega | (simp_all; done) | (simp_all <;> omega)) ?_)
            refine hK _ _ (by kernel_rfl) ?_; clear hK K; refine Nav.imp ?_
            refine awp_cond (b := true) (by simp [push_cast]) (fun hb => ?_) (fun hb => ?_) <;> (refine Nav.imp ?_)
            · refine awp_region cx [] fun K hK => ?_
              simp [push_cast, ex]
              repeat (refine And.intro (by clear hK; intros; first | omega | (simp_all; done) | (simp_all <;> omega)) ?_)
              refine hK _ ?_; clear hK K; refine Nav.imp ?_
              refine awp_region cx [] fun K hK => ?_
              simp [push_cast, e0]
              repeat (refine And.intro (by clear hK; intros; first | omega | (simp_all; done) | (simp_all <;> omega)) ?_)
              refine hK _ ?_; clear hK K; refine Nav.imp ?_
              refine ⟨(k + 1, [], some (y, [⟨x, x + 1⟩])), ⟨hlt, hnx.symm, fun h => (by cases h), fun y L h => (by cases h; simp)⟩, by simp only; omega, ?_⟩
              refine weak_of [(0, some 0), (1, some 1), (2, some 40), (3, some 37)] rfl (by simp [upT, up, upL, push_cast, Row.row, Run.row, ofTl, ofRl]) (by simp [upH, upR, upL, up, push_cast, Row.row, Run.row, ofTl, ofRl]) (by simp [namesOk, push_cast]) (by simp [olds])
            · simp at hb
          · have hLne := hL0 wy L rfl
            simp only [ofX] at hnx hXl hXr
            rw [addC_end] at hnx
            have hLl := hXr ⟨wy, L⟩ (by simp)
            simp only at hnx hLl
            simp at hXl
            have hP32 : (P.length + 1 + 1) * 32 ≤ 140737488355328 := by omega
            have hL16 : (L.length + 1) * 16 ≤ 140737488355328 := by omega
            have hget : (dr (P.map Row.row) ++ [[AV.d (.int .i64 wy), AV.hs 3 0 L.length]])[P.length]? = some [AV.d (.int .i64 wy), AV.hs 3 0 L.length] := by
              rw [List.getElem?_append_right (by simp [dr])]; simp [dr]
            have hset : ∀ v, (dr (P.map Row.row) ++ [[AV.d (.int .i64 wy), AV.hs 3 0 L.length]]).set P.length v = dr (P.map Row.row) ++ [v] := fun v => by
              rw [List.set_append_right _ _ (by simp [dr])]; simp [dr]
            obtain ⟨A, hA⟩ : ∃ A, A = P ++ [(⟨wy, L⟩ : Row)] := ⟨_, rfl⟩
            have hfold : dr (P.map Row.row) ++ [[AV.d (.int .i64 wy), AV.d (.sl (L.map Run.row))]] = dr (A.map Row.row) := by rw [hA]; simp [dr, Row.row]
            have hAl : P.length + 1 = A.length := by rw [hA]; simp
            have e4 : ((P.length : Int) + 1 == 0) = false := by simp; omega
            have e6 := wrap_i64 (n := (P.length : Int)) (by omega) (by omega)
            refine awp_region cx [] fun K hK => ?_
            simp [push_cast, hc, ofTl, ofRl]
            repeat (refine And.intro (by clear hK; intros; first | omega | (simp_all; done) | (simp_all <;> omega)) ?_)
            refine hK _ ?_; clear hK K; refine Nav.imp ?_
            refine awp_region cx [] fun K hK => ?_
            simp [push_cast]
            repeat (refine And.intro (by clear hK; intros; first | omega | (simp_all; done) | (simp_all <;> omega)) ?_)
            refine hK _ ?_; clear hK K; refine Nav.imp ?_
            refine awp_region_draw cx mixed [] fun K hK => ?_
            simp [push_cast, hget, e4, e6]
            repeat (refine And.intro (by clear hK; intros; first | omega | (simp_all; done) | (simp_all <;> omega)) ?_)
            refine hK _ _ (by kernel_rfl) ?_; clear hK K; refine Nav.imp ?_
            refine awp_cond (b := wy != y) (by simp [push_cast, e4]) (fun hb => ?_) (fun hb => ?_) <;> (refine Nav.imp ?_)
            · have hb : ¬ wy = y := by simpa using hb
              rw [if_neg hb, ← hA] at hnx
              refine awp_freeze 3 (L.map Run.row) rfl (by simp [push_cast, hfold]) fun K hK => ?_
              simp [push_cast, St.fz, fzT, fzH, fzO, fz, fzL, fzR, fzR_dr, fzR_app, fzR_set, fzL_map, hfold]
              refine hK _ ?_; clear hK K; refine Nav.imp ?_
              rw [hAl] at hP32 ⊢
              clear hA hfold hget hset
              refine awp_region cx [] fun K hK => ?_
              simp [push_cast, ex, hP32]
              repeat (refine And.intro (by clear hK; intros; first | omega | (simp_all; done) | (simp_all <;> omega)) ?_)
              refine hK _ ?_; clear hK K; refine Nav.imp ?_
              refine awp_region cx [] fun K hK => ?_
              simp [push_cast, e0]
              repeat (refine And.intro (by clear hK; intros; first | omega | (simp_all; done) | (simp_all <;> omega)) ?_)
              refine hK _ ?_; clear hK K; refine Nav.imp ?_
              refine ⟨(k + 1, A, some (y, [⟨x, x + 1⟩])), ⟨hlt, hnx.symm, fun h => (by cases h), fun y L h => (by cases h; simp)⟩, by simp only; omega, ?_⟩
              refine weak_of [(0, some 0), (1, some 1), (2, some 40), (3, some 37)] rfl (by simp [upT, up, upL, push_cast, Row.row, Run.row, ofTl, ofRl]) (by simp [upH, upR, upL, up, push_cast, Row.row, Run.row, ofTl, ofRl]) (by simp [namesOk, push_cast]) (by simp [olds])
            · have hb : wy = y := by simpa using hb
              subst hb
              rw [if_pos rfl] at hnx
              obtain ⟨L', r, rfl⟩ : ∃ L' r, L = L' ++ [r] := by
                rcases List.eq_nil_or_concat L with e | ⟨L', r, e⟩
                · exact absurd e hLne
                · exact ⟨L', r, by rw [e, List.concat_eq_append]⟩
              have hadd := addRun_end L' r x
              obtain ⟨ra, rb⟩ := r
              simp only at hadd
              have hz : (L' ++ [(⟨ra, rb⟩ : Run)])[L'.length]? = some ⟨ra, rb⟩ := by simp
              have hlen : (L' ++ [(⟨ra, rb⟩ : Run)]).length = L'.length + 1 := by simp
              have hset2 : ∀ m : Int, (dr ((L' ++ [(⟨ra, rb⟩ : Run)]).map Run.row)).set L'.length [AV.d (.int .i64 ra), AV.d (.int .i64 m)] = dr ((L' ++ [(⟨ra, m⟩ : Run)]).map Run.row) := fun m => by
                simp [dr, Run.row]
              have hlen2 : ∀ m : Int, (L' ++ [(⟨ra, m⟩ : Run)]).length = (L' ++ [(⟨ra, rb⟩ : Run)]).length := fun m => by simp
              generalize hB : L' ++ [(⟨ra, rb⟩ : Run)] = B at *
              have e7 := wrap_i64 (n := (B.length : Int) - 1) (by omega) (by omega)
              have e8 : ((B.length : Int) - 1).toNat = L'.length := by omega
              have e9 : (0 : Int) ≤ (B.length : Int) - 1 := by omega
              refine awp_region cx [] fun K hK => ?_
              simp [push_cast, hget, e6]
              repeat (refine And.intro (by clear hK; intros; first | omega | (simp_all; done) | (simp_all <;> omega)) ?_)
              refine hK _ ?_; clear hK K; refine Nav.imp ?_
              refine awp_region_draw cx mixed [] fun K hK => ?_
              simp [push_cast, hget, hz, e7, e8, e9]
              repeat (refine And.intro (by clear hK; intros; first | omega | (simp_all; done) | (simp_all <;> omega)) ?_)
              refine hK _ _ (by kernel_rfl) ?_; clear hK K; refine Nav.imp ?_
              refine awp_region_draw cx mixed [] fun K hK => ?_
              simp [push_cast, hget, hz, Run.row]
              repeat (refine And.intro (by clear hK; intros; first | omega | (simp_all; done) | (simp_all <;> omega)) ?_)
              refine hK _ _ (by kernel_rfl) ?_; clear hK K; refine Nav.imp ?_
              refine awp_cond (b := decide (rb < x)) (by simp [push_cast]) (fun hb => ?_) (fun hb => ?_) <;> (refine Nav.imp ?_)
              · have hb : rb < x := by simpa using hb
                rw [if_pos hb] at hadd
                rw [hadd] at hnx
                refine awp_region_draw cx mixed [] fun K hK => ?_
                simp [push_cast, hget, ex, hL16, hset]
                repeat (refine And.intro (by clear hK; intros; first | omega | (simp_all; done) | (simp_all <;> omega)) ?_)
                refine hK _ _ (by kernel_rfl) ?_; clear hK K; refine Nav.imp ?_
                refine awp_region cx [] fun K hK => ?_
                simp [push_cast, e0]
                repeat (refine And.intro (by clear hK; intros; first | omega | (simp_all; done) | (simp_all <;> omega)) ?_)
                refine hK _ ?_; clear hK K; refine Nav.imp ?_
                refine ⟨(k + 1, P, some (wy, B ++ [(⟨x, x + 1⟩ : Run)])), ⟨hlt, hnx.symm, fun h => (by cases h), fun y L h => (by cases h; simp)⟩, by simp only; omega, ?_⟩
                refine weak_of [(0, some 0), (1, some 1), (2, some 2), (3, some 64)] rfl (by simp [upT, up, upL, push_cast, Row.row, Run.row, ofTl, ofRl]) (by simp [upH, upR, upL, up, push_cast, Row.row, Run.row, ofTl, ofRl]) (by simp [namesOk, push_cast]) (by simp [olds])
              · have hb : ¬ rb < x := by simpa using hb
                rw [if_neg hb] at hadd
                rw [hadd] at hnx
                have hne2 : L' ++ [(⟨ra, max rb (x + 1)⟩ : Run)] ≠ [] := by simp
                have hset2 := hset2 (max rb (x + 1))
                have hlen2 := hlen2 (max rb (x + 1))
                generalize L' ++ [(⟨ra, max rb (x + 1)⟩ : Run)] = C at *
                refine awp_region_draw cx mixed [] fun K hK => ?_
                simp [push_cast, hget, hz, ex, hset2, Run.row]
                repeat (refine And.intro (by clear hK; intros; first | omega | (simp_all; done) | (simp_all <;> omega)) ?_)
                refine hK _ _ (by kernel_rfl) ?_; clear hK K; refine Nav.imp ?_
                refine awp_region cx [] fun K hK => ?_
                simp [push_cast, e0]
                repeat (refine And.intro (by clear hK; intros; first | omega | (simp_all; done) | (simp_all <;> omega)) ?_)
                refine hK _ ?_; clear hK K; refine Nav.imp ?_
                rw [← hlen2]
                refine ⟨(k + 1, P, some (wy, C)), ⟨hlt, hnx.symm, fun h => (by cases h), fun y L h => (by cases h; exact hne2)⟩, by simp only; omega, ?_⟩
                refine weak_of [(0, some 0), (1, some 1), (2, some 2), (3, some 3)] rfl (by simp [upT, up, upL, push_cast, Row.row, Run.row, ofTl, ofRl]) (by simp [upH, upR, upL, up, push_cast, Row.row, Run.row, ofTl, ofRl]) (by simp [namesOk, push_cast]) (by simp [olds])
        · have hge : k = s.length := by simp at hb; omega
          subst hge
          rw [List.take_length] at hX
          rw [← hX]
          rcases o with _ | ⟨wy, L⟩
          · have hP := hP0 rfl
            subst hP
            simp only [ofX, ofTl, ofRl]
            refine awp_freeze 2 ([] : List (List D)) rfl (by simp [push_cast]) fun K hK => ?_
            simp [push_cast, St.fz, fzT, fzH, fzO, fz, fzL, fzR, fzR_dr, fzR_app, fzR_set, fzL_map]
            refine hK _ ?_; clear hK K; refine Nav.imp ?_
            refine awp_region cx [] fun K hK => ?_
            simp [push_cast]
            repeat (refine And.intro (by clear hK; intros; first | omega | (simp_all; done) | (simp_all <;> omega)) ?_)
            refine hK _ ?_; clear hK K; refine Nav.imp ?_
            simp [push_cast]
          · simp only [ofX, ofTl, ofRl]
            obtain ⟨A, hA⟩ : ∃ A, A = P ++ [(⟨wy, L⟩ : Row)] := ⟨_, rfl⟩
            have hfold : dr (P.map Row.row) ++ [[AV.d (.int .i64 wy), AV.d (.sl (L.map Run.row))]] = dr (A.map Row.row) := by rw [hA]; simp [dr, Row.row]
            have hAl : P.length + 1 = A.length := by rw [hA]; simp
            rw [← hA]
            refine awp_freeze 3 (L.map Run.row) rfl (by simp [push_cast, hfold]) fun K hK => ?_
            simp [push_cast, St.fz, fzT, fzH, fzO, fz, fzL, fzR, fzR_dr, fzR_app, fzR_set, fzL_map, hfold]
            refine hK _ ?_; clear hK K; refine Nav.imp ?_
            rw [hAl]
            clear hA hfold
            refine awp_freeze 2 (A.map Row.row) rfl (by simp [push_cast, Row.row]) fun K hK => ?_
            simp [push_cast, St.fz, fzT, fzH, fzO, fz, fzL, fzR, fzR_dr, fzR_app, fzR_set, fzL_map, Row.row]
            refine hK _ ?_; clear hK K; refine Nav.imp ?_
            refine awp_region cx [] fun K hK => ?_
            simp [push_cast]
            repeat (refine And.intro (by clear hK; intros; first | omega | (simp_all; done) | (simp_all <;> omega)) ?_)
            refine hK _ ?_; clear hK K; refine Nav.imp ?_
            simp [push_cast]
end Go.Proofs.YtlfbjflfbjkbeaaGreat

namespace Go.Proofs.YtlfbjflfbjkbeaaGreat
open Go.Abs

def lenN (l : List Run) : Nat := (l.flatMap (runCells 0)).length
def countR (R : List Row) : Nat := if validR R then (regCells R).length else 0
def smallB (R : List Row) : Bool := decide (R.length ≤ 40) && R.all (fun w => decide (w.runs.length ≤ 40)) && decide (countR R ≤ 600)
end Go.Proofs.YtlfbjflfbjkbeaaGreat

namespace Go.Proofs.YtlfbjflfbjkbeaaGreat
open Go.Abs

section
variable {a b : List Row} (ha : validR a = true) (hb : validR b = true) (c : Cell)
include ha hb
theorem opU_iff : c ∈ regCells (opR fU a b) ↔ c ∈ regCells a ∨ c ∈ regCells b := by
  have h := (opR_facts (f := fU) rfl ha hb).2 c
  have e : ∀ x y, fU x y = (x || y) := fun _ _ => rfl
  rw [e] at h
  rw [← decide_eq_true_iff (p := c ∈ regCells (opR fU a b)), h]
  simp
end
end Go.Proofs.YtlfbjflfbjkbeaaGreat

namespace Go.Proofs.YtlfbjflfbjkbeaaGreat
open Go.Abs

theorem one_valid {c : Cell} (h : onG c = true) : validR [⟨c.y, [⟨c.x, c.x + 1⟩]⟩] = true ∧ ∀ d, d ∈ regCells [⟨c.y, [⟨c.x, c.x + 1⟩]⟩] ↔ d = c := by
  obtain ⟨x, y⟩ := c
  have hg := onG_bd h
  simp only at hg
  constructor
  · simp [validR, rowAt, okB, fine, fnAt, List.range_succ]
    omega
  · rintro ⟨a, b⟩
    rw [mem_regCells]
    simp
    omega
theorem set_region : ∀ {l : List Cell}, (∀ c ∈ l, onG c = true) → ∃ R, validR R = true ∧ ∀ c, c ∈ regCells R ↔ c ∈ l
  | [], _ => ⟨[], rfl, fun c => by simp [regCells]⟩
  | c :: l, h => by
    obtain ⟨R, h1, h2⟩ := set_region (l := l) fun d hd => h d (by simp [hd])
    obtain ⟨h3, h4⟩ := one_valid (h c (by simp))
    refine ⟨opR fU [⟨c.y, [⟨c.x, c.x + 1⟩]⟩] R, (opR_facts rfl h3 h1).1, fun d => ?_⟩
    rw [opU_iff h3 h1, h4, h2, List.mem_cons]
theorem of_set {l : List Cell} (hn : l.Nodup) (hon : ∀ c ∈ l, onG c = true) : validR (ofR l) = true ∧ (∀ c, c ∈ regCells (ofR l) ↔ c ∈ l) ∧ (regCells (ofR l)).length = l.length := by
  obtain ⟨R, h1, h2⟩ := set_region hon
  have hp : l.Perm (regCells R) := (List.perm_ext_iff_of_nodup hn (nodup_of_ltY (cells_pw h1))).2 fun c => (h2 c).symm
  have e : ofR l = R := by
    unfold ofR
    rw [if_pos (List.all_eq_true.2 hon), sortY_cells h1 hp, build_cells h1]
  rw [e]
  exact ⟨h1, h2, hp.length_eq.symm⟩
def xc (c : Cell) : Cell := ⟨c.y, c.x⟩
def turnR (R : List Row) : List Row := ofR ((regCells R).map xc)
def anch (H : List Row) (y : Int) (q : Run) : Bool := decide ((⟨q.a - 1, y⟩ : Cell) ∈ regCells H) && decide ((⟨q.b, y⟩ : Cell) ∈ regCells H)
def spanRun (H : List Row) (y : Int) (q : Run) : List (List Cell) := if anch H y q then [runCells y q] else []
def spanRow (H : List Row) (w : Row) : List (List Cell) := w.runs.flatMap (spanRun H w.y)
def spanR (D H : List Row) : List (List Cell) := D.flatMap (spanRow H)
def spansL (r b : List Row) : List (List Cell) := spanR (opR fD r b) (opR fI r b)
def spansU (r b : List Row) (up : Bool) : List (List Cell) := if up then (spansL (turnR r) (turnR b)).map (·.map xc) else spansL r b
def coverR (L : List (List Cell)) : List Row := ofR L.flatten

end Go.Proofs.YtlfbjflfbjkbeaaGreat

namespace Go.Proofs.YtlfbjflfbjkbeaaGreat
open Go.Abs

theorem den_dr (l : List (List D)) : List.map (fun r => List.map den r) (dr l) = dr l := by
  induction l with
  | nil => rfl
  | cons r l ih =>
    rw [dr_cons, List.map_cons, ih, List.map_map]
    congr 1
theorem weak_den {s : St} (id : Nat) {o : Ob} (ho : s.obj id = some o) (hom : Nat.beq o.m mapM = false) : Weak s { s with hp := (id, some ⟨o.elem, o.m, o.rows.map (fun r => r.map den)⟩) :: s.hp } := by
  refine (fun g a w hr => ⟨g, ⟨hr.defers, hr.size, hr.tmp, hr.used, ⟨fun x o' hx => ?_, fun x hx => ?_, hr.heap.live, hr.heap.inj, hr.heap.ro⟩⟩, Step.refl g w⟩)
  · simp only [St.obj, find] at hx
    split at hx
    · rename_i e
      subst e
      cases hx
      obtain ⟨L, hL, hok⟩ := hr.heap.own id o ho
      refine ⟨L, hL, hok.m, hok.pos, by simpa using hok.len, fun hv => by simp [hok.virt hv], fun hv => ?_, fun hv => by have := (hok.ents hv).1; rw [← hok.m, this] at hom; cases hom⟩
      obtain ⟨cur, c1, c2, c3, c5⟩ := hok.cells hv
      refine ⟨cur, c1, c2, c3, fun i row hi => ?_⟩
      simp only [List.getElem?_map, Option.map_eq_some_iff] at hi
      obtain ⟨r0, hr0, rfl⟩ := hi
      obtain ⟨d1, d2⟩ := c5 i r0 hr0
      refine ⟨by simpa using d1, fun j av hj => ?_⟩
      simp only [List.getElem?_map, Option.map_eq_some_iff] at hj
      obtain ⟨a0, ha0, rfl⟩ := hj
      obtain ⟨v, q1, q2, q3⟩ := d2 j a0 ha0
      exact ⟨v, q1, q2, den_rep q3⟩
    · exact hr.heap.own x o' hx
  · simp only [St.obj, find] at hx
    split at hx
    · cases hx
    · exact hr.heap.gone x hx
abbrev Bench.wav (b : Bench) (c : Cell) (l : Int) (x : AV) : List AV := [.d (.int .i64 b.real.p), .d (.int .i64 b.real.q), .d (.int .i64 b.real.r), .d (.int .i64 b.real.s), .d (.int .i64 b.t0), .d (.int .i64 b.t1), .d (.int .i64 b.pw0), .d (.int .i64 b.ls0), .d (.int .i64 b.ms0), .d (.int .i64 b.am0), .d (.int .i64 b.pw1), .d (.int .i64 b.ls1), .d (.int .i64 b.ms1), .d (.int .i64 b.am1), .d (.int .i64 b.filament), .d (.int .i64 b.drawn), .d (.int .i64 b.dry), x, .d (.int .i64 b.hits), .d (.bool b.door), .d (.bool b.k0), .d (.bool b.k1), .d (.int .i64 c.x), .d (.int .i64 c.y), .d (.int .i64 l)]
theorem grid_ok (c : Cell) : PC Tryz.prog 61 [.agg c.row] (.p (.bool (onG c))) := by
  refine pc_of_awp cx (fn := Tryz.f61) (c := _) Tryz.func61 rfl rfl (Nat.le_of_ble_eq_true rfl) ?_
  rw [Tryz.ntmps61]; refine Nav.imp ?_
  refine awp_region cx [] fun K hK => ?_
  simp [push_cast]
  repeat (refine And.intro (by clear hK; intros; first | omega | (simp_all; done) | (simp_all <;> omega)) ?_)
  refine hK _ ?_; clear hK K; refine Nav.imp ?_
  refine awp_region cx [] fun K hK => ?_
  simp [push_cast]
  repeat (refine And.intro (by clear hK; intros; first | omega | (simp_all; done) | (simp_all <;> omega)) ?_)
  refine hK _ ?_; clear hK K; refine Nav.imp ?_
  simp [push_cast, onG]
def layL (L : List (List Row)) (n : Nat) (c : Cell) : List (List Row) := (L ++ List.replicate (n + 1 - L.length) []).set n (opR fU ((L ++ List.replicate (n + 1 - L.length) []).getD n []) (ofR [c]))
def layOk (l : Int) (c : Cell) : Bool := decide (0 ≤ l) && decide (l < 256) && onG c
def layF (L : List (List Row)) (l : Int) (c : Cell) : List (List Row) := if layOk l c then layL L l.toNat c else L
theorem layL_len {L : List (List Row)} {n : Nat} {c : Cell} : (layL L n c).length = if L.length ≤ n then n + 1 else L.length := by
  unfold layL
  simp only [List.length_set, List.length_append, List.length_replicate]
  split <;> omega
set_option maxHeartbeats 4000000 in
theorem lay_px (b : Bench) (c : Cell) (l : Int) (L : List (List Row)) (hL : ∀ R ∈ L, validR R = true) (hl : L.length ≤ 256) :
    PX Tryz.prog 42 [.ptr 0 0 0] [(0, ⟨59, 25, [b.wav c l (.hs 1 0 L.length)]⟩), (1, ⟨48, 1, dr (L.map regRow)⟩)] [(0, 0)] [(0, ⟨59, 25, [b.wav c l (.hs 1 0 (layF L l c).length)]⟩), (1, ⟨48, 1, dr ((layF L l c).map regRow)⟩)] (.tup []) := by
  have c1 := grid_ok c
  have hok : layOk l c = (!(decide (l < 0) || decide (256 ≤ l) || !onG c)) := by
    unfold layOk
    have h1 : decide (0 ≤ l) = !decide (l < 0) := by rw [Bool.eq_iff_iff]; simp
    have h2 : decide (l < 256) = !decide (256 ≤ l) := by rw [Bool.eq_iff_iff]; simp
    rw [h1, h2]; simp
  have hF : layF L l c = if layOk l c then layL L l.toNat c else L := rfl
  generalize hg : onG c = og at *
  generalize layF L l c = F at *
  refine px_of_awp cx (fn := Tryz.f42) (c := _) 2 Tryz.func42 rfl rfl (Nat.le_of_ble_eq_true rfl) rfl rfl fun Ls => ?_
  rw [Tryz.ntmps42]; refine Nav.imp ?_
  refine awp_region cx [(17, .p (.bool og))] fun K hK => ?_
  simp [push_cast, c1, Cell.row]
  repeat (refine And.intro (by clear hK; intros; first | omega | (simp_all; done) | (simp_all <;> omega)) ?_)
  refine hK _ ?_; clear hK K; refine Nav.imp ?_
  refine awp_cond (b := !layOk l c) (by simp [push_cast, hok]) (fun hb => ?_) (fun hb => ?_) <;> (refine Nav.imp ?_)
  · have hf : layOk l c = false := by simpa using hb
    rw [hf, if_neg (by simp)] at hF
    subst hF
    first | refine rx_r [(0, 0), (1, 1)] ?_ | refine rx_n [(0, 0), (1, 1)] ?_
    simp [push_cast]
    try decide
  · have hf : layOk l c = true := by simpa using hb
    rw [hf, if_pos rfl] at hF
    have hf2 := hf
    rw [hok] at hf2
    have hl0 : 0 ≤ l ∧ l < 256 ∧ og = true := by
      simp at hf2; exact ⟨by omega, by omega, hf2.2⟩
    clear hok
    obtain ⟨n, rfl⟩ : ∃ n : Nat, l = n := ⟨l.toNat, by omega⟩
    rw [show ((n : Int)).toNat = n by omega] at hF
    refine awp_loop (β := List (List Row) × Nat) (fun s => ⟨79, [(0, .ptr 0 0 0), (79, .pin 0 (Ls 0))], [(0, some ⟨59, 25, [b.wav c n (.hs 1 0 s.1.length)]⟩), (1, some ⟨48, 1, dr (s.1.map regRow)⟩)], 2⟩) (fun s => s.1 = L ++ List.replicate s.2 [] ∧ (s.2 = 0 ∨ s.1.length ≤ n + 1)) (fun s => n + 1 - s.1.length) (L, 0) ?_ ⟨by simp, .inl rfl⟩ ?_
    · refine weak_of [(0, some 0), (1, some 1)] rfl (by simp [upT, up, upL, push_cast]) (by simp [upH, upR, upL, up, push_cast]) (by simp [namesOk, push_cast]) (by simp [olds])
    · rintro ⟨M, k⟩ ⟨hM, hk⟩
      simp only at hM hk
      have hMl : M.length ≤ 257 := by
        rcases hk with h | h
        · subst h; rw [hM]; simp; omega
        · omega
      refine Nav.imp ?_
      refine awp_region_draw cx mixed [] fun K hK => ?_
      simp [push_cast]
      repeat (refine And.intro (by clear hK; intros; first | omega | (simp_all; done) | (simp_all <;> omega)) ?_)
      refine hK _ _ (by kernel_rfl) ?_; clear hK K; refine Nav.imp ?_
      refine awp_cond (b := decide (M.length ≤ n)) (by simp [push_cast]) (fun hb => ?_) (fun hb => ?_) <;> (refine Nav.imp ?_)
      · have hlt : M.length ≤ n := by simpa using hb
        have h24 : (M.length + 1) * 24 ≤ 140737488355328 := by omega
        refine awp_region cx [] fun K hK => ?_
        simp [push_cast, h24]
        repeat (refine And.intro (by clear hK; intros; first | omega | (simp_all; done) | (simp_all <;> omega)) ?_)
        refine hK _ ?_; clear hK K; refine Nav.imp ?_
        refine ⟨(M ++ [[]], k + 1), ⟨by simp only; rw [hM, List.append_assoc, ← List.replicate_succ'], .inr (by simp; omega)⟩, by simp; omega, ?_⟩
        refine Weak.trans (weak_den 21 rfl rfl) ?_
        simp [push_cast, den, den_dr]
        refine weak_of [(0, some 0), (1, some 21)] rfl (by simp [upT, up, upL, push_cast]) (by simp [upH, upR, upL, up, push_cast]) (by simp [namesOk, push_cast]) (by simp [olds])
      · have hge : ¬ M.length ≤ n := by simpa using hb
        have c2 := of_ok [c] (by simp)
        have hD : ofD [c] = .tup [.agg (regRow (ofR [c])), .int .i64 0] := by simp [ofE, hg, hl0.2.2]
        rw [hD] at c2
        obtain ⟨Q, hQ⟩ := getq (show n < M.length by omega)
        have hQv : validR Q = true := by
          rw [hM] at hQ
          rw [List.getElem?_append] at hQ
          split at hQ
          · exact hL Q (List.mem_of_getElem? hQ)
          · have := List.mem_of_getElem? hQ
            rw [List.mem_replicate] at this
            rw [this.2]; rfl
        have hOv : validR (ofR [c]) = true := (of_set (l := [c]) (by simp) (by simp [hg, hl0.2.2])).1
        have c3 := unionR_ok Q (ofR [c]) (small_valid hQv) (small_valid hOv)
        have hFM : F = M.set n (opR fU Q (ofR [c])) := by
          rw [hF]; unfold layL
          have hp : L ++ List.replicate (n + 1 - L.length) [] = M := by
            rw [hM]
            congr 2
            rcases hk with h | h
            · subst h
              rw [hM] at hge
              simp at hge
              omega
            · rw [hM] at h hge
              simp at h hge
              omega
          rw [hp]
          congr 2
          rw [List.getD_eq_getElem?_getD, hQ]; rfl
        have hFl : F.length = M.length := by rw [hFM]; simp
        generalize ofR [c] = O at *
        generalize opR fU Q O = U at *
        refine awp_region cx [(4, .f (encCells [c])), (5, .p (.tup [.agg (regRow O), .int .i64 0]))] fun K hK => ?_
        simp [push_cast, c2, Cell.row]
        repeat (refine And.intro (by clear hK; intros; first | omega | (simp_all; done) | (simp_all <;> omega)) ?_)
        refine hK _ ?_; clear hK K; refine Nav.imp ?_
        refine awp_region_draw cx mixed [(21, .p (.agg (regRow U)))] fun K hK => ?_
        simp [push_cast, hQ, c3]
        repeat (refine And.intro (by clear hK; intros; first | omega | (simp_all; done) | (simp_all <;> omega)) ?_)
        refine hK _ _ (by kernel_rfl) ?_; clear hK K; refine Nav.imp ?_
        have hFr : dr (F.map regRow) = (dr (M.map regRow)).set n [AV.d (encRows U)] := by
          rw [hFM, List.map_set, dr_set]; rfl
        rw [← hFr]
        clear hFr
        first | refine rx_r [(0, 0), (1, 1)] ?_ | refine rx_n [(0, 0), (1, 1)] ?_
        simp [push_cast, hFl]
        try decide
end Go.Proofs.YtlfbjflfbjkbeaaGreat

namespace Go.Proofs.YtlfbjflfbjkbeaaGreat
open Go.Abs

def extB (b : Bench) (c : Cell) (l : Int) (by_ : Int) : Bench :=
  if by_ < 0 then { b with drawn := b.drawn + 1 } else if by_ = 0 then b else if 0 < b.drawn then { b with drawn := b.drawn - 1 } else if 0 < b.filament then { b with filament := b.filament - 1, lays := layF b.lays l c } else { b with dry := b.dry + 1 }
def cntB (n : Int) : Bool := decide (0 ≤ n) && decide (n ≤ 1099511627776)
set_option maxHeartbeats 4000000 in
theorem extrude_px (b : Bench) (c : Cell) (l : Int) (by_ : Int) (hL : ∀ R ∈ b.lays, validR R = true) (hl : b.lays.length ≤ 256) (h1 : cntB b.filament = true) (h2 : cntB b.drawn = true) (h3 : cntB b.dry = true) :
    PX Tryz.prog 20 [.ptr 0 0 0, .d (.int .i64 by_)] [(0, ⟨59, 25, [b.wav c l (.hs 1 0 b.lays.length)]⟩), (1, ⟨48, 1, dr (b.lays.map regRow)⟩)] [(0, 0)] [(0, ⟨59, 25, [(extB b c l by_).wav c l (.hs 1 0 (extB b c l by_).lays.length)]⟩), (1, ⟨48, 1, dr ((extB b c l by_).lays.map regRow)⟩)] (.tup []) := by
  simp [cntB] at h1 h2 h3
  have hE : extB b c l by_ = if by_ < 0 then { b with drawn := b.drawn + 1 } else if by_ = 0 then b else if 0 < b.drawn then { b with drawn := b.drawn - 1 } else if 0 < b.filament then { b with filament := b.filament - 1, lays := layF b.lays l c } else { b with dry := b.dry + 1 } := rfl
  generalize extB b c l by_ = B at *
  have w1 := wrap_i64 (n := b.drawn + 1) (by omega) (by omega)
  have w2 := wrap_i64 (n := b.drawn - 1) (by omega) (by omega)
  have w3 := wrap_i64 (n := b.filament - 1) (by omega) (by omega)
  have w4 := wrap_i64 (n := b.dry + 1) (by omega) (by omega)
  by_cases q1 : by_ < 0
  · rw [if_pos q1] at hE
    subst hE
    refine px_of_awp cx (fn := Tryz.f20) (c := _) 2 Tryz.func20 rfl rfl (Nat.le_of_ble_eq_true rfl) rfl rfl fun Ls => ?_
    rw [Tryz.ntmps20]; refine Nav.imp ?_
    refine awp_region cx [] fun K hK => ?_
    simp [push_cast]
    repeat (refine And.intro (by clear hK; intros; first | omega | (simp_all; done) | (simp_all <;> omega)) ?_)
    refine hK _ ?_; clear hK K; refine Nav.imp ?_
    refine awp_cond (b := true) (by simp [push_cast, q1]) (fun hb => ?_) (fun hb => ?_) <;> (refine Nav.imp ?_)
    · refine awp_region cx [] fun K hK => ?_
      simp [push_cast, w1]
      repeat (refine And.intro (by clear hK; intros; first | omega | (simp_all; done) | (simp_all <;> omega)) ?_)
      refine hK _ ?_; clear hK K; refine Nav.imp ?_
      first | refine rx_r [(0, 0), (1, 1)] ?_ | refine rx_n [(0, 0), (1, 1)] ?_
      simp [push_cast]
      try decide
    · simp at hb
  rw [if_neg q1] at hE
  by_cases q2 : by_ = 0
  · rw [if_pos q2] at hE
    subst hE
    subst q2
    refine px_of_awp cx (fn := Tryz.f20) (c := _) 2 Tryz.func20 rfl rfl (Nat.le_of_ble_eq_true rfl) rfl rfl fun Ls => ?_
    rw [Tryz.ntmps20]; refine Nav.imp ?_
    refine awp_region cx [] fun K hK => ?_
    simp [push_cast]
    repeat (refine And.intro (by clear hK; intros; first | omega | (simp_all; done) | (simp_all <;> omega)) ?_)
    refine hK _ ?_; clear hK K; refine Nav.imp ?_
    refine awp_cond (b := false) (by simp [push_cast]) (fun hb => ?_) (fun hb => ?_) <;> (refine Nav.imp ?_)
    · simp at hb
    · refine awp_region cx [] fun K hK => ?_
      simp [push_cast]
      repeat (refine And.intro (by clear hK; intros; first | omega | (simp_all; done) | (simp_all <;> omega)) ?_)
      refine hK _ ?_; clear hK K; refine Nav.imp ?_
      refine awp_cond (b := true) (by simp [push_cast]) (fun hb => ?_) (fun hb => ?_) <;> (refine Nav.imp ?_)
      · first | refine rx_r [(0, 0), (1, 1)] ?_ | refine rx_n [(0, 0), (1, 1)] ?_
        simp [push_cast]
        try decide
      · simp at hb
  rw [if_neg q2] at hE
  have q2' : (by_ == 0) = false := by simp; exact q2
  by_cases q3 : 0 < b.drawn
  · rw [if_pos q3] at hE
    subst hE
    refine px_of_awp cx (fn := Tryz.f20) (c := _) 2 Tryz.func20 rfl rfl (Nat.le_of_ble_eq_true rfl) rfl rfl fun Ls => ?_
    rw [Tryz.ntmps20]; refine Nav.imp ?_
    refine awp_region cx [] fun K hK => ?_
    simp [push_cast]
    repeat (refine And.intro (by clear hK; intros; first | omega | (simp_all; done) | (simp_all <;> omega)) ?_)
    refine hK _ ?_; clear hK K; refine Nav.imp ?_
    refine awp_cond (b := false) (by simp [push_cast, q1]) (fun hb => ?_) (fun hb => ?_) <;> (refine Nav.imp ?_)
    · simp at hb
    · refine awp_region cx [] fun K hK => ?_
      simp [push_cast]
      repeat (refine And.intro (by clear hK; intros; first | omega | (simp_all; done) | (simp_all <;> omega)) ?_)
      refine hK _ ?_; clear hK K; refine Nav.imp ?_
      refine awp_cond (b := false) (by simp [push_cast, q2']) (fun hb => ?_) (fun hb => ?_) <;> (refine Nav.imp ?_)
      · simp at hb
      · refine awp_region cx [] fun K hK => ?_
        simp [push_cast]
        repeat (refine And.intro (by clear hK; intros; first | omega | (simp_all; done) | (simp_all <;> omega)) ?_)
        refine hK _ ?_; clear hK K; refine Nav.imp ?_
        refine awp_cond (b := true) (by simp [push_cast, q3]) (fun hb => ?_) (fun hb => ?_) <;> (refine Nav.imp ?_)
        · refine awp_region cx [] fun K hK => ?_
          simp [push_cast, w2]
          repeat (refine And.intro (by clear hK; intros; first | omega | (simp_all; done) | (simp_all <;> omega)) ?_)
          refine hK _ ?_; clear hK K; refine Nav.imp ?_
          first | refine rx_r [(0, 0), (1, 1)] ?_ | refine rx_n [(0, 0), (1, 1)] ?_
          simp [push_cast]
          try decide
        · simp at hb
  rw [if_neg q3] at hE
  by_cases q4 : 0 < b.filament
  · rw [if_pos q4] at hE
    have c1 := lay_px { b with filament := b.filament - 1 } c l b.lays hL hl
    subst hE
    generalize layF b.lays l c = F at *
    refine px_of_awp cx (fn := Tryz.f20) (c := _) 2 Tryz.func20 rfl rfl (Nat.le_of_ble_eq_true rfl) rfl rfl fun Ls => ?_
    rw [Tryz.ntmps20]; refine Nav.imp ?_
    refine awp_region cx [] fun K hK => ?_
    simp [push_cast]
    repeat (refine And.intro (by clear hK; intros; first | omega | (simp_all; done) | (simp_all <;> omega)) ?_)
    refine hK _ ?_; clear hK K; refine Nav.imp ?_
    refine awp_cond (b := false) (by simp [push_cast, q1]) (fun hb => ?_) (fun hb => ?_) <;> (refine Nav.imp ?_)
    · simp at hb
    · refine awp_region cx [] fun K hK => ?_
      simp [push_cast]
      repeat (refine And.intro (by clear hK; intros; first | omega | (simp_all; done) | (simp_all <;> omega)) ?_)
      refine hK _ ?_; clear hK K; refine Nav.imp ?_
      refine awp_cond (b := false) (by simp [push_cast, q2']) (fun hb => ?_) (fun hb => ?_) <;> (refine Nav.imp ?_)
      · simp at hb
      · refine awp_region cx [] fun K hK => ?_
        simp [push_cast]
        repeat (refine And.intro (by clear hK; intros; first | omega | (simp_all; done) | (simp_all <;> omega)) ?_)
        refine hK _ ?_; clear hK K; refine Nav.imp ?_
        refine awp_cond (b := false) (by simp [push_cast, q3]) (fun hb => ?_) (fun hb => ?_) <;> (refine Nav.imp ?_)
        · simp at hb
        · refine awp_region cx [] fun K hK => ?_
          simp [push_cast]
          repeat (refine And.intro (by clear hK; intros; first | omega | (simp_all; done) | (simp_all <;> omega)) ?_)
          refine hK _ ?_; clear hK K; refine Nav.imp ?_
          refine awp_cond (b := true) (by simp [push_cast, q4]) (fun hb => ?_) (fun hb => ?_) <;> (refine Nav.imp ?_)
          · refine awp_region cx [] fun K hK => ?_
            simp [push_cast, w3]
            repeat (refine And.intro (by clear hK; intros; first | omega | (simp_all; done) | (simp_all <;> omega)) ?_)
            refine hK _ ?_; clear hK K; refine Nav.imp ?_
            refine awp_region cx [(1, .x ⟨[(0, 0), (1, 1)], [.ptr 0 0 0], [(0, ⟨59, 25, [Bench.wav { b with filament := b.filament - 1 } c l (.hs 1 0 b.lays.length)]⟩), (1, ⟨48, 1, dr (b.lays.map regRow)⟩)], [(0, 0)], some 1, [(0, ⟨59, 25, [Bench.wav { b with filament := b.filament - 1 } c l (.hs 1 0 F.length)]⟩), (1, ⟨48, 1, dr (F.map regRow)⟩)], .tup []⟩)] fun K hK => ?_
            simp [push_cast, c1]
            repeat (refine And.intro (by clear hK; intros; first | omega | (simp_all; done) | (simp_all <;> omega)) ?_)
            refine hK _ ?_; clear hK K; refine Nav.imp ?_
            first | refine rx_r [(0, 0), (1, 33)] ?_ | refine rx_n [(0, 0), (1, 33)] ?_
            simp [push_cast]
            try decide
          · simp at hb
  rw [if_neg q4] at hE
  subst hE
  refine px_of_awp cx (fn := Tryz.f20) (c := _) 2 Tryz.func20 rfl rfl (Nat.le_of_ble_eq_true rfl) rfl rfl fun Ls => ?_
  rw [Tryz.ntmps20]; refine Nav.imp ?_
  refine awp_region cx [] fun K hK => ?_
  simp [push_cast]
  repeat (refine And.intro (by clear hK; intros; first | omega | (simp_all; done) | (simp_all <;> omega)) ?_)
  refine hK _ ?_; clear hK K; refine Nav.imp ?_
  refine awp_cond (b := false) (by simp [push_cast, q1]) (fun hb => ?_) (fun hb => ?_) <;> (refine Nav.imp ?_)
  · simp at hb
  · refine awp_region cx [] fun K hK => ?_
    simp [push_cast]
    repeat (refine And.intro (by clear hK; intros; first | omega | (simp_all; done) | (simp_all <;> omega)) ?_)
    refine hK _ ?_; clear hK K; refine Nav.imp ?_
    refine awp_cond (b := false) (by simp [push_cast, q2']) (fun hb => ?_) (fun hb => ?_) <;> (refine Nav.imp ?_)
    · simp at hb
    · refine awp_region cx [] fun K hK => ?_
      simp [push_cast]
      repeat (refine And.intro (by clear hK; intros; first | omega | (simp_all; done) | (simp_all <;> omega)) ?_)
      refine hK _ ?_; clear hK K; refine Nav.imp ?_
      refine awp_cond (b := false) (by simp [push_cast, q3]) (fun hb => ?_) (fun hb => ?_) <;> (refine Nav.imp ?_)
      · simp at hb
      · refine awp_region cx [] fun K hK => ?_
        simp [push_cast]
        repeat (refine And.intro (by clear hK; intros; first | omega | (simp_all; done) | (simp_all <;> omega)) ?_)
        refine hK _ ?_; clear hK K; refine Nav.imp ?_
        refine awp_cond (b := false) (by simp [push_cast, q4]) (fun hb => ?_) (fun hb => ?_) <;> (refine Nav.imp ?_)
        · simp at hb
        · refine awp_region cx [] fun K hK => ?_
          simp [push_cast, w4]
          repeat (refine And.intro (by clear hK; intros; first | omega | (simp_all; done) | (simp_all <;> omega)) ?_)
          refine hK _ ?_; clear hK K; refine Nav.imp ?_
          first | refine rx_r [(0, 0), (1, 1)] ?_ | refine rx_n [(0, 0), (1, 1)] ?_
          simp [push_cast]
          try decide

def aboveB (L : List (List Row)) (s : Nat) (c : Cell) : Bool := (L.drop s).any fun R => conB R c
def hitF (b : Bench) (c : Cell) (l by_ : Int) : Bench := if by_ = 0 then b else if aboveB b.lays (l + 1).toNat c then { b with hits := b.hits + 1 } else b
set_option maxHeartbeats 4000000 in
theorem hit_px (b : Bench) (c : Cell) (l : Int) (by_ : Int) (hl0 : -1 ≤ l ∧ l ≤ 4611686018427387905) (hL : ∀ R ∈ b.lays, smallR R) (hl : b.lays.length ≤ 256) (h1 : cntB b.hits = true) :
    PX Tryz.prog 21 [.ptr 0 0 0, .d (.int .i64 by_)] [(0, ⟨59, 25, [b.wav c l (.hs 1 0 b.lays.length)]⟩), (1, ⟨48, 1, dr (b.lays.map regRow)⟩)] [(0, 0)] [(0, ⟨59, 25, [(hitF b c l by_).wav c l (.hs 1 0 (hitF b c l by_).lays.length)]⟩), (1, ⟨48, 1, dr ((hitF b c l by_).lays.map regRow)⟩)] (.tup []) := by
  simp [cntB] at h1
  have hE : hitF b c l by_ = if by_ = 0 then b else if aboveB b.lays (l + 1).toNat c then { b with hits := b.hits + 1 } else b := rfl
  generalize hitF b c l by_ = B at *
  have w1 := wrap_i64 (n := b.hits + 1) (by omega) (by omega)
  have w2 := wrap_i64 (n := l + 1) (by omega) (by omega)
  by_cases q : by_ = 0
  · rw [if_pos q] at hE
    subst hE
    subst q
    refine px_of_awp cx (fn := Tryz.f21) (c := _) 2 Tryz.func21 rfl rfl (Nat.le_of_ble_eq_true rfl) rfl rfl fun Ls => ?_
    rw [Tryz.ntmps21]; refine Nav.imp ?_
    refine awp_region cx [] fun K hK => ?_
    simp [push_cast]
    repeat (refine And.intro (by clear hK; intros; first | omega | (simp_all; done) | (simp_all <;> omega)) ?_)
    refine hK _ ?_; clear hK K; refine Nav.imp ?_
    refine awp_cond (b := true) (by simp [push_cast]) (fun hb => ?_) (fun hb => ?_) <;> (refine Nav.imp ?_)
    · first | refine rx_r [(0, 0), (1, 1)] ?_ | refine rx_n [(0, 0), (1, 1)] ?_
      simp [push_cast]
      try decide
    · simp at hb
  have q' : (by_ == 0) = false := by simp; exact q
  rw [if_neg q] at hE
  obtain ⟨s, hs⟩ : ∃ s : Nat, l + 1 = s := ⟨(l + 1).toNat, by omega⟩
  have hmx : (if (0 : Int) < (s : Int) then (s : Int) else 0) = s := by split <;> omega
  rw [hs] at hE w2
  rw [show ((s : Int)).toNat = s by omega] at hE
  refine px_of_awp cx (fn := Tryz.f21) (c := _) 2 Tryz.func21 rfl rfl (Nat.le_of_ble_eq_true rfl) rfl rfl fun Ls => ?_
  rw [Tryz.ntmps21]; refine Nav.imp ?_
  refine awp_region cx [] fun K hK => ?_
  simp [push_cast]
  repeat (refine And.intro (by clear hK; intros; first | omega | (simp_all; done) | (simp_all <;> omega)) ?_)
  refine hK _ ?_; clear hK K; refine Nav.imp ?_
  refine awp_cond (b := false) (by simp [push_cast, q']) (fun hb => ?_) (fun hb => ?_) <;> (refine Nav.imp ?_)
  · simp at hb
  · refine awp_region cx [] fun K hK => ?_
    simp [push_cast, w2, hs]
    repeat (refine And.intro (by clear hK; intros; first | omega | (simp_all; done) | (simp_all <;> omega)) ?_)
    refine hK _ ?_; clear hK K; refine Nav.imp ?_
    refine awp_loop (β := Nat) (fun i => ⟨45, [(0, .ptr 0 0 0), (4, .d (.int .i64 i)), (45, .pin 0 (Ls 0))], [(0, some ⟨59, 25, [b.wav c l (.hs 1 0 b.lays.length)]⟩), (1, some ⟨48, 1, dr (b.lays.map regRow)⟩)], 2⟩) (fun i => aboveB b.lays s c = aboveB b.lays i c ∧ (i = s ∨ i ≤ 256)) (fun i => b.lays.length - i) s ?_ ⟨rfl, .inl rfl⟩ ?_
    · refine weak_of [(0, some 0), (1, some 1)] rfl (by simp [upT, up, upL, push_cast]) (by simp [upH, upR, upL, up, push_cast]) (by simp [namesOk, push_cast]) (by simp [olds])
    · rintro i ⟨hi, hi2⟩
      refine Nav.imp ?_
      refine awp_region cx [] fun K hK => ?_
      simp [push_cast]
      repeat (refine And.intro (by clear hK; intros; first | omega | (simp_all; done) | (simp_all <;> omega)) ?_)
      refine hK _ ?_; clear hK K; refine Nav.imp ?_
      refine awp_cond (b := decide (i < b.lays.length)) (by simp [push_cast]) (fun hb => ?_) (fun hb => ?_) <;> (refine Nav.imp ?_)
      · have hlt : i < b.lays.length := by simpa using hb
        obtain ⟨R, hR⟩ := getq hlt
        have c1 := contains_ok R c (hL R (List.mem_of_getElem? hR))
        have e0 := wrap_i64 (n := (i : Int) + 1) (by omega) (by omega)
        have hst : aboveB b.lays i c = (conB R c || aboveB b.lays (i + 1) c) := by
          unfold aboveB
          rw [drop_get hR]; rfl
        cases hc : conB R c with
        | true =>
          rw [hc] at c1 hst
          rw [hi, hst, if_pos (by simp)] at hE
          subst hE
          refine awp_region_draw cx mixed [(12, .p (.bool true))] fun K hK => ?_
          simp [push_cast, hR, c1, Cell.row]
          repeat (refine And.intro (by clear hK; intros; first | omega | (simp_all; done) | (simp_all <;> omega)) ?_)
          refine hK _ _ (by kernel_rfl) ?_; clear hK K; refine Nav.imp ?_
          refine awp_cond (b := true) (by simp [push_cast]) (fun hb => ?_) (fun hb => ?_) <;> (refine Nav.imp ?_)
          · refine awp_region cx [] fun K hK => ?_
            simp [push_cast, w1]
            repeat (refine And.intro (by clear hK; intros; first | omega | (simp_all; done) | (simp_all <;> omega)) ?_)
            refine hK _ ?_; clear hK K; refine Nav.imp ?_
            first | refine rx_r [(0, 0), (1, 1)] ?_ | refine rx_n [(0, 0), (1, 1)] ?_
            simp [push_cast]
            try decide
          · simp at hb
        | false =>
          rw [hc] at c1 hst
          rw [Bool.false_or] at hst
          refine awp_region_draw cx mixed [(12, .p (.bool false))] fun K hK => ?_
          simp [push_cast, hR, c1, Cell.row]
          repeat (refine And.intro (by clear hK; intros; first | omega | (simp_all; done) | (simp_all <;> omega)) ?_)
          refine hK _ _ (by kernel_rfl) ?_; clear hK K; refine Nav.imp ?_
          refine awp_cond (b := false) (by simp [push_cast]) (fun hb => ?_) (fun hb => ?_) <;> (refine Nav.imp ?_)
          · simp at hb
          · refine awp_region cx [] fun K hK => ?_
            simp [push_cast, e0]
            repeat (refine And.intro (by clear hK; intros; first | omega | (simp_all; done) | (simp_all <;> omega)) ?_)
            refine hK _ ?_; clear hK K; refine Nav.imp ?_
            refine ⟨i + 1, ⟨hi.trans hst, .inr (by omega)⟩, by omega, ?_⟩
            refine weak_of [(0, some 0), (1, some 1)] rfl (by simp [upT, up, upL, push_cast]) (by simp [upH, upR, upL, up, push_cast]) (by simp [namesOk, push_cast]) (by simp [olds])
      · have hge : ¬ i < b.lays.length := by simpa using hb
        have h0 : aboveB b.lays i c = false := by
          unfold aboveB
          rw [List.drop_eq_nil_of_le (by omega)]; rfl
        rw [hi, h0, if_neg (by simp)] at hE
        subst hE
        first | refine rx_r [(0, 0), (1, 1)] ?_ | refine rx_n [(0, 0), (1, 1)] ?_
        simp [push_cast]
        try decide
end Go.Proofs.YtlfbjflfbjkbeaaGreat

namespace Go.Proofs.YtlfbjflfbjkbeaaGreat
open Go.Abs

def Bench.cnts (b : Bench) : Pos := ⟨b.filament, b.drawn, b.dry, b.hits⟩
def realB (x : Pos) : Bool := withB x.p 1099511627776 && withB x.q 1099511627776 && withB x.r 1099511627776 && withB x.s 1099511627776
def cntsB (x : Pos) : Bool := cntB x.p && cntB x.q && cntB x.r && cntB x.s
theorem four_iff {f : Int → Bool} {x : Pos} : (f x.p && f x.q && f x.r && f x.s) = true ↔ ∀ j < 4, f (x.at j) = true := by
  constructor
  · intro h j hj
    simp only [Bool.and_eq_true] at h
    rcases (show j = 0 ∨ j = 1 ∨ j = 2 ∨ j = 3 by omega) with rfl | rfl | rfl | rfl <;> simp [Pos.at, h]
  · intro h
    have h0 := h 0 (by omega)
    have h1 := h 1 (by omega)
    have h3 := h 2 (by omega)
    have h4 := h 3 (by omega)
    simp only [Pos.at] at h0 h1 h3 h4
    simp [h0, h1, h3, h4]
def soundB (b : Bench) : Bool := realB b.real && cntsB b.cnts && decide (b.lays.length ≤ 256)
def validE (b : Bench) : Bool := b.lays.all validR && soundB b
theorem sound_facts (b : Bench) : (soundB b = true → ∀ j < 4, withB (b.real.at j) 1099511627776 = true) ∧ (soundB b = true → ∀ j < 4, cntB (b.cnts.at j) = true) ∧ ((∀ j < 4, withB (b.real.at j) 1099511627776 = true) → (∀ j < 4, cntB (b.cnts.at j) = true) → soundB b = decide (b.lays.length ≤ 256)) := by
  have h1 : realB b.real = true ↔ _ := four_iff (f := fun n => withB n 1099511627776)
  have h2 : cntsB b.cnts = true ↔ _ := four_iff (f := cntB)
  refine ⟨fun h => ?_, fun h => ?_, fun a c => ?_⟩
  · simp only [soundB, Bool.and_eq_true] at h; exact h1.1 h.1.1
  · simp only [soundB, Bool.and_eq_true] at h; exact h2.1 h.1.2
  · simp only [soundB, h1.2 a, h2.2 c, Bool.true_and]
set_option maxHeartbeats 4000000 in
theorem sound_ok (b : Bench) (hl : b.lays.length ≤ 1000) : PC Tryz.prog 22 [.agg b.row] (.p (.bool (soundB b))) := by
  obtain ⟨f1, f2, f3⟩ := sound_facts b
  generalize soundB b = sb at *
  have w3 : IntKind.i64.wrap 3 = 3 := by decide
  have w4 : IntKind.i64.wrap 4 = 4 := by decide
  refine pc_of_awp cx (fn := Tryz.f22) (c := _) Tryz.func22 rfl rfl (Nat.le_of_ble_eq_true rfl) ?_
  rw [Tryz.ntmps22]; refine Nav.imp ?_
  refine awp_region cx [] fun K hK => ?_
  simp [push_cast]
  repeat (refine And.intro (by clear hK; intros; first | omega | (simp_all; done) | (simp_all <;> omega)) ?_)
  refine hK _ ?_; clear hK K; refine Nav.imp ?_
  refine awp_region cx [] fun K hK => ?_
  simp [push_cast]
  repeat (refine And.intro (by clear hK; intros; first | omega | (simp_all; done) | (simp_all <;> omega)) ?_)
  refine hK _ ?_; clear hK K; refine Nav.imp ?_
  refine awp_loop (β := Nat) (fun i => ⟨42, [(1, .ptr 0 0 0), (8, .d (.agg b.real.row)), (9, .d (.int .i64 i))], [(0, some ⟨30, 22, [b.row.map .d]⟩)], 1⟩) (fun i => i ≤ 4 ∧ ∀ j < i, withB (b.real.at j) 1099511627776 = true) (fun i => 4 - i) 0 ?_ ⟨Nat.zero_le _, by simp⟩ ?_
  · refine weak_of [(0, some 0)] rfl (by simp [upT, up, upL, push_cast]) (by simp [upH, upR, upL, up, push_cast]) (by simp [namesOk, push_cast]) (by simp [olds])
  · rintro i ⟨hi, hall⟩
    rcases (show i = 0 ∨ i = 1 ∨ i = 2 ∨ i = 3 ∨ i = 4 by omega) with rfl | rfl | rfl | rfl | rfl
    · have hw2 : withB b.real.p 1099511627776 = !(decide (b.real.p < -1099511627776) || decide (1099511627776 < b.real.p)) := by rw [Bool.eq_iff_iff]; simp [withB]
      refine Nav.imp ?_
      refine awp_region cx [] fun K hK => ?_
      simp [push_cast]
      repeat (refine And.intro (by clear hK; intros; first | omega | (simp_all; done) | (simp_all <;> omega)) ?_)
      refine hK _ ?_; clear hK K; refine Nav.imp ?_
      refine awp_cond (b := true) (by simp [push_cast]) (fun hb => ?_) (fun hb => ?_) <;> (refine Nav.imp ?_)
      · refine awp_region cx [] fun K hK => ?_
        simp [push_cast]
        repeat (refine And.intro (by clear hK; intros; first | omega | (simp_all; done) | (simp_all <;> omega)) ?_)
        refine hK _ ?_; clear hK K; refine Nav.imp ?_
        refine awp_region cx [] fun K hK => ?_
        simp [push_cast]
        repeat (refine And.intro (by clear hK; intros; first | omega | (simp_all; done) | (simp_all <;> omega)) ?_)
        refine hK _ ?_; clear hK K; refine Nav.imp ?_
        refine awp_cond (b := decide (b.real.p < -1099511627776) || decide (1099511627776 < b.real.p)) (by simp [push_cast]) (fun hb => ?_) (fun hb => ?_) <;> (refine Nav.imp ?_)
        · rw [hb] at hw2
          have hf : sb = false := by
            cases sb
            · rfl
            · have := f1 rfl 0 (by omega)
              simp only [Pos.at] at this
              rw [this] at hw2; cases hw2
          rw [hf]
          refine awp_region cx [] fun K hK => ?_
          simp [push_cast]
          repeat (refine And.intro (by clear hK; intros; first | omega | (simp_all; done) | (simp_all <;> omega)) ?_)
          refine hK _ ?_; clear hK K; refine Nav.imp ?_
          simp [push_cast]
        · rw [hb] at hw2
          refine awp_region cx [] fun K hK => ?_
          simp [push_cast, w3, w4]
          repeat (refine And.intro (by clear hK; intros; first | omega | (simp_all; done) | (simp_all <;> omega)) ?_)
          refine hK _ ?_; clear hK K; refine Nav.imp ?_
          refine ⟨1, ⟨by omega, fun j hj => ?_⟩, by omega, ?_⟩
          · by_cases e : j < 0
            · exact hall j e
            · have : j = 0 := by omega
              subst this
              simpa [Pos.at] using hw2
          · refine weak_of [(0, some 0)] rfl (by simp [upT, up, upL, push_cast]) (by simp [upH, upR, upL, up, push_cast]) (by simp [namesOk, push_cast]) (by simp [olds])
      · simp at hb
    · have hw2 : withB b.real.q 1099511627776 = !(decide (b.real.q < -1099511627776) || decide (1099511627776 < b.real.q)) := by rw [Bool.eq_iff_iff]; simp [withB]
      refine Nav.imp ?_
      refine awp_region cx [] fun K hK => ?_
      simp [push_cast]
      repeat (refine And.intro (by clear hK; intros; first | omega | (simp_all; done) | (simp_all <;> omega)) ?_)
      refine hK _ ?_; clear hK K; refine Nav.imp ?_
      refine awp_cond (b := true) (by simp [push_cast]) (fun hb => ?_) (fun hb => ?_) <;> (refine Nav.imp ?_)
      · refine awp_region cx [] fun K hK => ?_
        simp [push_cast]
        repeat (refine And.intro (by clear hK; intros; first | omega | (simp_all; done) | (simp_all <;> omega)) ?_)
        refine hK _ ?_; clear hK K; refine Nav.imp ?_
        refine awp_region cx [] fun K hK => ?_
        simp [push_cast]
        repeat (refine And.intro (by clear hK; intros; first | omega | (simp_all; done) | (simp_all <;> omega)) ?_)
        refine hK _ ?_; clear hK K; refine Nav.imp ?_
        refine awp_cond (b := decide (b.real.q < -1099511627776) || decide (1099511627776 < b.real.q)) (by simp [push_cast]) (fun hb => ?_) (fun hb => ?_) <;> (refine Nav.imp ?_)
        · rw [hb] at hw2
          have hf : sb = false := by
            cases sb
            · rfl
            · have := f1 rfl 1 (by omega)
              simp only [Pos.at] at this
              rw [this] at hw2; cases hw2
          rw [hf]
          refine awp_region cx [] fun K hK => ?_
          simp [push_cast]
          repeat (refine And.intro (by clear hK; intros; first | omega | (simp_all; done) | (simp_all <;> omega)) ?_)
          refine hK _ ?_; clear hK K; refine Nav.imp ?_
          simp [push_cast]
        · rw [hb] at hw2
          refine awp_region cx [] fun K hK => ?_
          simp [push_cast, w3, w4]
          repeat (refine And.intro (by clear hK; intros; first | omega | (simp_all; done) | (simp_all <;> omega)) ?_)
          refine hK _ ?_; clear hK K; refine Nav.imp ?_
          refine ⟨2, ⟨by omega, fun j hj => ?_⟩, by omega, ?_⟩
          · by_cases e : j < 1
            · exact hall j e
            · have : j = 1 := by omega
              subst this
              simpa [Pos.at] using hw2
          · refine weak_of [(0, some 0)] rfl (by simp [upT, up, upL, push_cast]) (by simp [upH, upR, upL, up, push_cast]) (by simp [namesOk, push_cast]) (by simp [olds])
      · simp at hb
    · have hw2 : withB b.real.r 1099511627776 = !(decide (b.real.r < -1099511627776) || decide (1099511627776 < b.real.r)) := by rw [Bool.eq_iff_iff]; simp [withB]
      refine Nav.imp ?_
      refine awp_region cx [] fun K hK => ?_
      simp [push_cast]
      repeat (refine And.intro (by clear hK; intros; first | omega | (simp_all; done) | (simp_all <;> omega)) ?_)
      refine hK _ ?_; clear hK K; refine Nav.imp ?_
      refine awp_cond (b := true) (by simp [push_cast]) (fun hb => ?_) (fun hb => ?_) <;> (refine Nav.imp ?_)
      · refine awp_region cx [] fun K hK => ?_
        simp [push_cast]
        repeat (refine And.intro (by clear hK; intros; first | omega | (simp_all; done) | (simp_all <;> omega)) ?_)
        refine hK _ ?_; clear hK K; refine Nav.imp ?_
        refine awp_region cx [] fun K hK => ?_
        simp [push_cast]
        repeat (refine And.intro (by clear hK; intros; first | omega | (simp_all; done) | (simp_all <;> omega)) ?_)
        refine hK _ ?_; clear hK K; refine Nav.imp ?_
        refine awp_cond (b := decide (b.real.r < -1099511627776) || decide (1099511627776 < b.real.r)) (by simp [push_cast]) (fun hb => ?_) (fun hb => ?_) <;> (refine Nav.imp ?_)
        · rw [hb] at hw2
          have hf : sb = false := by
            cases sb
            · rfl
            · have := f1 rfl 2 (by omega)
              simp only [Pos.at] at this
              rw [this] at hw2; cases hw2
          rw [hf]
          refine awp_region cx [] fun K hK => ?_
          simp [push_cast]
          repeat (refine And.intro (by clear hK; intros; first | omega | (simp_all; done) | (simp_all <;> omega)) ?_)
          refine hK _ ?_; clear hK K; refine Nav.imp ?_
          simp [push_cast]
        · rw [hb] at hw2
          refine awp_region cx [] fun K hK => ?_
          simp [push_cast, w3, w4]
          repeat (refine And.intro (by clear hK; intros; first | omega | (simp_all; done) | (simp_all <;> omega)) ?_)
          refine hK _ ?_; clear hK K; refine Nav.imp ?_
          refine ⟨3, ⟨by omega, fun j hj => ?_⟩, by omega, ?_⟩
          · by_cases e : j < 2
            · exact hall j e
            · have : j = 2 := by omega
              subst this
              simpa [Pos.at] using hw2
          · refine weak_of [(0, some 0)] rfl (by simp [upT, up, upL, push_cast]) (by simp [upH, upR, upL, up, push_cast]) (by simp [namesOk, push_cast]) (by simp [olds])
      · simp at hb
    · have hw2 : withB b.real.s 1099511627776 = !(decide (b.real.s < -1099511627776) || decide (1099511627776 < b.real.s)) := by rw [Bool.eq_iff_iff]; simp [withB]
      refine Nav.imp ?_
      refine awp_region cx [] fun K hK => ?_
      simp [push_cast]
      repeat (refine And.intro (by clear hK; intros; first | omega | (simp_all; done) | (simp_all <;> omega)) ?_)
      refine hK _ ?_; clear hK K; refine Nav.imp ?_
      refine awp_cond (b := true) (by simp [push_cast]) (fun hb => ?_) (fun hb => ?_) <;> (refine Nav.imp ?_)
      · refine awp_region cx [] fun K hK => ?_
        simp [push_cast]
        repeat (refine And.intro (by clear hK; intros; first | omega | (simp_all; done) | (simp_all <;> omega)) ?_)
        refine hK _ ?_; clear hK K; refine Nav.imp ?_
        refine awp_region cx [] fun K hK => ?_
        simp [push_cast]
        repeat (refine And.intro (by clear hK; intros; first | omega | (simp_all; done) | (simp_all <;> omega)) ?_)
        refine hK _ ?_; clear hK K; refine Nav.imp ?_
        refine awp_cond (b := decide (b.real.s < -1099511627776) || decide (1099511627776 < b.real.s)) (by simp [push_cast]) (fun hb => ?_) (fun hb => ?_) <;> (refine Nav.imp ?_)
        · rw [hb] at hw2
          have hf : sb = false := by
            cases sb
            · rfl
            · have := f1 rfl 3 (by omega)
              simp only [Pos.at] at this
              rw [this] at hw2; cases hw2
          rw [hf]
          refine awp_region cx [] fun K hK => ?_
          simp [push_cast]
          repeat (refine And.intro (by clear hK; intros; first | omega | (simp_all; done) | (simp_all <;> omega)) ?_)
          refine hK _ ?_; clear hK K; refine Nav.imp ?_
          simp [push_cast]
        · rw [hb] at hw2
          refine awp_region cx [] fun K hK => ?_
          simp [push_cast, w3, w4]
          repeat (refine And.intro (by clear hK; intros; first | omega | (simp_all; done) | (simp_all <;> omega)) ?_)
          refine hK _ ?_; clear hK K; refine Nav.imp ?_
          refine ⟨4, ⟨by omega, fun j hj => ?_⟩, by omega, ?_⟩
          · by_cases e : j < 3
            · exact hall j e
            · have : j = 3 := by omega
              subst this
              simpa [Pos.at] using hw2
          · refine weak_of [(0, some 0)] rfl (by simp [upT, up, upL, push_cast]) (by simp [upH, upR, upL, up, push_cast]) (by simp [namesOk, push_cast]) (by simp [olds])
      · simp at hb
    · refine Nav.imp ?_
      refine awp_region cx [] fun K hK => ?_
      simp [push_cast]
      repeat (refine And.intro (by clear hK; intros; first | omega | (simp_all; done) | (simp_all <;> omega)) ?_)
      refine hK _ ?_; clear hK K; refine Nav.imp ?_
      refine awp_cond (b := false) (by simp [push_cast]) (fun hb => ?_) (fun hb => ?_) <;> (refine Nav.imp ?_)
      · simp at hb
      · refine awp_region cx [] fun K hK => ?_
        simp [push_cast]
        repeat (refine And.intro (by clear hK; intros; first | omega | (simp_all; done) | (simp_all <;> omega)) ?_)
        refine hK _ ?_; clear hK K; refine Nav.imp ?_
        refine awp_loop (β := Nat) (fun i => ⟨42, [(1, .ptr 0 0 0), (27, .d (.agg b.cnts.row)), (28, .d (.int .i64 i))], [(0, some ⟨30, 22, [b.row.map .d]⟩)], 1⟩) (fun i => i ≤ 4 ∧ ∀ j < i, cntB (b.cnts.at j) = true) (fun i => 4 - i) 0 ?_ ⟨Nat.zero_le _, by simp⟩ ?_
        · refine weak_of [(0, some 0)] rfl (by simp [upT, up, upL, push_cast, Bench.cnts]) (by simp [upH, upR, upL, up, push_cast, Bench.cnts]) (by simp [namesOk, push_cast]) (by simp [olds])
        · rintro i ⟨hi, hall2⟩
          rcases (show i = 0 ∨ i = 1 ∨ i = 2 ∨ i = 3 ∨ i = 4 by omega) with rfl | rfl | rfl | rfl | rfl
          · have hw2 : cntB b.cnts.p = !(decide (b.cnts.p < 0) || decide (1099511627776 < b.cnts.p)) := by rw [Bool.eq_iff_iff]; simp [cntB]
            refine Nav.imp ?_
            refine awp_region cx [] fun K hK => ?_
            simp [push_cast]
            repeat (refine And.intro (by clear hK; intros; first | omega | (simp_all; done) | (simp_all <;> omega)) ?_)
            refine hK _ ?_; clear hK K; refine Nav.imp ?_
            refine awp_cond (b := true) (by simp [push_cast]) (fun hb => ?_) (fun hb => ?_) <;> (refine Nav.imp ?_)
            · refine awp_region cx [] fun K hK => ?_
              simp [push_cast]
              repeat (refine And.intro (by clear hK; intros; first | omega | (simp_all; done) | (simp_all <;> omega)) ?_)
              refine hK _ ?_; clear hK K; refine Nav.imp ?_
              refine awp_region cx [] fun K hK => ?_
              simp [push_cast]
              repeat (refine And.intro (by clear hK; intros; first | omega | (simp_all; done) | (simp_all <;> omega)) ?_)
              refine hK _ ?_; clear hK K; refine Nav.imp ?_
              refine awp_cond (b := decide (b.cnts.p < 0) || decide (1099511627776 < b.cnts.p)) (by simp [push_cast]) (fun hb => ?_) (fun hb => ?_) <;> (refine Nav.imp ?_)
              · rw [hb] at hw2
                have hf : sb = false := by
                  cases sb
                  · rfl
                  · have := f2 rfl 0 (by omega)
                    simp only [Pos.at] at this
                    rw [this] at hw2; cases hw2
                rw [hf]
                refine awp_region cx [] fun K hK => ?_
                simp [push_cast]
                repeat (refine And.intro (by clear hK; intros; first | omega | (simp_all; done) | (simp_all <;> omega)) ?_)
                refine hK _ ?_; clear hK K; refine Nav.imp ?_
                simp [push_cast]
              · rw [hb] at hw2
                refine awp_region cx [] fun K hK => ?_
                simp [push_cast, w3, w4]
                repeat (refine And.intro (by clear hK; intros; first | omega | (simp_all; done) | (simp_all <;> omega)) ?_)
                refine hK _ ?_; clear hK K; refine Nav.imp ?_
                refine ⟨1, ⟨by omega, fun j hj => ?_⟩, by omega, ?_⟩
                · by_cases e : j < 0
                  · exact hall2 j e
                  · have : j = 0 := by omega
                    subst this
                    simpa [Pos.at] using hw2
                · refine weak_of [(0, some 0)] rfl (by simp [upT, up, upL, push_cast]) (by simp [upH, upR, upL, up, push_cast]) (by simp [namesOk, push_cast]) (by simp [olds])
            · simp at hb
          · have hw2 : cntB b.cnts.q = !(decide (b.cnts.q < 0) || decide (1099511627776 < b.cnts.q)) := by rw [Bool.eq_iff_iff]; simp [cntB]
            refine Nav.imp ?_
            refine awp_region cx [] fun K hK => ?_
            simp [push_cast]
            repeat (refine And.intro (by clear hK; intros; first | omega | (simp_all; done) | (simp_all <;> omega)) ?_)
            refine hK _ ?_; clear hK K; refine Nav.imp ?_
            refine awp_cond (b := true) (by simp [push_cast]) (fun hb => ?_) (fun hb => ?_) <;> (refine Nav.imp ?_)
            · refine awp_region cx [] fun K hK => ?_
              simp [push_cast]
              repeat (refine And.intro (by clear hK; intros; first | omega | (simp_all; done) | (simp_all <;> omega)) ?_)
              refine hK _ ?_; clear hK K; refine Nav.imp ?_
              refine awp_region cx [] fun K hK => ?_
              simp [push_cast]
              repeat (refine And.intro (by clear hK; intros; first | omega | (simp_all; done) | (simp_all <;> omega)) ?_)
              refine hK _ ?_; clear hK K; refine Nav.imp ?_
              refine awp_cond (b := decide (b.cnts.q < 0) || decide (1099511627776 < b.cnts.q)) (by simp [push_cast]) (fun hb => ?_) (fun hb => ?_) <;> (refine Nav.imp ?_)
              · rw [hb] at hw2
                have hf : sb = false := by
                  cases sb
                  · rfl
                  · have := f2 rfl 1 (by omega)
                    simp only [Pos.at] at this
                    rw [this] at hw2; cases hw2
                rw [hf]
                refine awp_region cx [] fun K hK => ?_
                simp [push_cast]
                repeat (refine And.intro (by clear hK; intros; first | omega | (simp_all; done) | (simp_all <;> omega)) ?_)
                refine hK _ ?_; clear hK K; refine Nav.imp ?_
                simp [push_cast]
              · rw [hb] at hw2
                refine awp_region cx [] fun K hK => ?_
                simp [push_cast, w3, w4]
                repeat (refine And.intro (by clear hK; intros; first | omega | (simp_all; done) | (simp_all <;> omega)) ?_)
                refine hK _ ?_; clear hK K; refine Nav.imp ?_
                refine ⟨2, ⟨by omega, fun j hj => ?_⟩, by omega, ?_⟩
                · by_cases e : j < 1
                  · exact hall2 j e
                  · have : j = 1 := by omega
                    subst this
                    simpa [Pos.at] using hw2
                · refine weak_of [(0, some 0)] rfl (by simp [upT, up, upL, push_cast]) (by simp [upH, upR, upL, up, push_cast]) (by simp [namesOk, push_cast]) (by simp [olds])
            · simp at hb
          · have hw2 : cntB b.cnts.r = !(decide (b.cnts.r < 0) || decide (1099511627776 < b.cnts.r)) := by rw [Bool.eq_iff_iff]; simp [cntB]
            refine Nav.imp ?_
            refine awp_region cx [] fun K hK => ?_
            simp [push_cast]
            repeat (refine And.intro (by clear hK; intros; first | omega | (simp_all; done) | (simp_all <;> omega)) ?_)
            refine hK _ ?_; clear hK K; refine Nav.imp ?_
            refine awp_cond (b := true) (by simp [push_cast]) (fun hb => ?_) (fun hb => ?_) <;> (refine Nav.imp ?_)
            · refine awp_region cx [] fun K hK => ?_
              simp [push_cast]
              repeat (refine And.intro (by clear hK; intros; first | omega | (simp_all; done) | (simp_all <;> omega)) ?_)
              refine hK _ ?_; clear hK K; refine Nav.imp ?_
              refine awp_region cx [] fun K hK => ?_
              simp [push_cast]
              repeat (refine And.intro (by clear hK; intros; first | omega | (simp_all; done) | (simp_all <;> omega)) ?_)
              refine hK _ ?_; clear hK K; refine Nav.imp ?_
              refine awp_cond (b := decide (b.cnts.r < 0) || decide (1099511627776 < b.cnts.r)) (by simp [push_cast]) (fun hb => ?_) (fun hb => ?_) <;> (refine Nav.imp ?_)
              · rw [hb] at hw2
                have hf : sb = false := by
                  cases sb
                  · rfl
                  · have := f2 rfl 2 (by omega)
                    simp only [Pos.at] at this
                    rw [this] at hw2; cases hw2
                rw [hf]
                refine awp_region cx [] fun K hK => ?_
                simp [push_cast]
                repeat (refine And.intro (by clear hK; intros; first | omega | (simp_all; done) | (simp_all <;> omega)) ?_)
                refine hK _ ?_; clear hK K; refine Nav.imp ?_
                simp [push_cast]
              · rw [hb] at hw2
                refine awp_region cx [] fun K hK => ?_
                simp [push_cast, w3, w4]
                repeat (refine And.intro (by clear hK; intros; first | omega | (simp_all; done) | (simp_all <;> omega)) ?_)
                refine hK _ ?_; clear hK K; refine Nav.imp ?_
                refine ⟨3, ⟨by omega, fun j hj => ?_⟩, by omega, ?_⟩
                · by_cases e : j < 2
                  · exact hall2 j e
                  · have : j = 2 := by omega
                    subst this
                    simpa [Pos.at] using hw2
                · refine weak_of [(0, some 0)] rfl (by simp [upT, up, upL, push_cast]) (by simp [upH, upR, upL, up, push_cast]) (by simp [namesOk, push_cast]) (by simp [olds])
            · simp at hb
          · have hw2 : cntB b.cnts.s = !(decide (b.cnts.s < 0) || decide (1099511627776 < b.cnts.s)) := by rw [Bool.eq_iff_iff]; simp [cntB]
            refine Nav.imp ?_
            refine awp_region cx [] fun K hK => ?_
            simp [push_cast]
            repeat (refine And.intro (by clear hK; intros; first | omega | (simp_all; done) | (simp_all <;> omega)) ?_)
            refine hK _ ?_; clear hK K; refine Nav.imp ?_
            refine awp_cond (b := true) (by simp [push_cast]) (fun hb => ?_) (fun hb => ?_) <;> (refine Nav.imp ?_)
            · refine awp_region cx [] fun K hK => ?_
              simp [push_cast]
              repeat (refine And.intro (by clear hK; intros; first | omega | (simp_all; done) | (simp_all <;> omega)) ?_)
              refine hK _ ?_; clear hK K; refine Nav.imp ?_
              refine awp_region cx [] fun K hK => ?_
              simp [push_cast]
              repeat (refine And.intro (by clear hK; intros; first | omega | (simp_all; done) | (simp_all <;> omega)) ?_)
              refine hK _ ?_; clear hK K; refine Nav.imp ?_
              refine awp_cond (b := decide (b.cnts.s < 0) || decide (1099511627776 < b.cnts.s)) (by simp [push_cast]) (fun hb => ?_) (fun hb => ?_) <;> (refine Nav.imp ?_)
              · rw [hb] at hw2
                have hf : sb = false := by
                  cases sb
                  · rfl
                  · have := f2 rfl 3 (by omega)
                    simp only [Pos.at] at this
                    rw [this] at hw2; cases hw2
                rw [hf]
                refine awp_region cx [] fun K hK => ?_
                simp [push_cast]
                repeat (refine And.intro (by clear hK; intros; first | omega | (simp_all; done) | (simp_all <;> omega)) ?_)
                refine hK _ ?_; clear hK K; refine Nav.imp ?_
                simp [push_cast]
              · rw [hb] at hw2
                refine awp_region cx [] fun K hK => ?_
                simp [push_cast, w3, w4]
                repeat (refine And.intro (by clear hK; intros; first | omega | (simp_all; done) | (simp_all <;> omega)) ?_)
                refine hK _ ?_; clear hK K; refine Nav.imp ?_
                refine ⟨4, ⟨by omega, fun j hj => ?_⟩, by omega, ?_⟩
                · by_cases e : j < 3
                  · exact hall2 j e
                  · have : j = 3 := by omega
                    subst this
                    simpa [Pos.at] using hw2
                · refine weak_of [(0, some 0)] rfl (by simp [upT, up, upL, push_cast]) (by simp [upH, upR, upL, up, push_cast]) (by simp [namesOk, push_cast]) (by simp [olds])
            · simp at hb
          · refine Nav.imp ?_
            refine awp_region cx [] fun K hK => ?_
            simp [push_cast]
            repeat (refine And.intro (by clear hK; intros; first | omega | (simp_all; done) | (simp_all <;> omega)) ?_)
            refine hK _ ?_; clear hK K; refine Nav.imp ?_
            refine awp_cond (b := false) (by simp [push_cast]) (fun hb => ?_) (fun hb => ?_) <;> (refine Nav.imp ?_)
            · simp at hb
            · rw [f3 hall hall2]
              refine awp_region cx [] fun K hK => ?_
              simp [push_cast]
              repeat (refine And.intro (by clear hK; intros; first | omega | (simp_all; done) | (simp_all <;> omega)) ?_)
              refine hK _ ?_; clear hK K; refine Nav.imp ?_
              simp [push_cast]
              omega
theorem bvalid_ok (b : Bench) (hL : smallL b.lays) : PC Tryz.prog 18 [.agg b.row] (.p (.bool (validE b))) := by
  have c1 := sound_ok b hL.1
  obtain ⟨hl, hR⟩ := hL
  have hv : validE b = (b.lays.all validR && soundB b) := rfl
  generalize soundB b = sb at *
  generalize validE b = vb at *
  refine pc_of_awp cx (fn := Tryz.f18) (c := _) Tryz.func18 rfl rfl (Nat.le_of_ble_eq_true rfl) ?_
  rw [Tryz.ntmps18]; refine Nav.imp ?_
  refine awp_region cx [] fun K hK => ?_
  simp [push_cast]
  repeat (refine And.intro (by clear hK; intros; first | omega | (simp_all; done) | (simp_all <;> omega)) ?_)
  refine hK _ ?_; clear hK K; refine Nav.imp ?_
  refine awp_region cx [] fun K hK => ?_
  simp [push_cast]
  repeat (refine And.intro (by clear hK; intros; first | omega | (simp_all; done) | (simp_all <;> omega)) ?_)
  refine hK _ ?_; clear hK K; refine Nav.imp ?_
  refine awp_loop (β := Nat) (fun i => ⟨18, [(1, .ptr 0 0 0), (6, .d (encLays b.lays)), (7, .d (.int .i64 b.lays.length)), (8, .d (.int .i64 i))], [(0, some ⟨30, 22, [b.row.map .d]⟩)], 1⟩) (fun i => i ≤ b.lays.length ∧ ∀ (j : Nat) R, j < i → b.lays[j]? = some R → validR R = true) (fun i => b.lays.length - i) 0 ?_ ⟨Nat.zero_le _, by simp⟩ ?_
  · refine weak_of [(0, some 0)] rfl (by simp [upT, up, upL, push_cast]) (by simp [upH, upR, upL, up, push_cast]) (by simp [namesOk, push_cast]) (by simp [olds])
  · rintro i ⟨hi, hall⟩
    refine Nav.imp ?_
    refine awp_region cx [] fun K hK => ?_
    simp [push_cast]
    repeat (refine And.intro (by clear hK; intros; first | omega | (simp_all; done) | (simp_all <;> omega)) ?_)
    refine hK _ ?_; clear hK K; refine Nav.imp ?_
    refine awp_cond (b := decide ((i : Int) < b.lays.length)) (by simp [push_cast]) (fun hb => ?_) (fun hb => ?_) <;> (refine Nav.imp ?_)
    · have hlt : i < b.lays.length := by simpa using hb
      obtain ⟨R, hRi⟩ := getq hlt
      have e0 := wrap_i64 (n := (i : Int) + 1) (by omega) (by omega)
      have c2 := valid_ok R (hR R (List.mem_of_getElem? hRi))
      refine awp_region cx [] fun K hK => ?_
      simp [push_cast, hRi]
      repeat (refine And.intro (by clear hK; intros; first | omega | (simp_all; done) | (simp_all <;> omega)) ?_)
      refine hK _ ?_; clear hK K; refine Nav.imp ?_
      cases hvR : validR R with
      | false =>
        rw [hvR] at c2
        have hf : vb = false := by
          rw [hv, Bool.and_eq_false_iff]; left
          rw [List.all_eq_false]
          exact ⟨R, List.mem_of_getElem? hRi, by simp [hvR]⟩
        rw [hf]
        refine awp_region cx [(1, .p (.bool false))] fun K hK => ?_
        simp [push_cast, c2]
        repeat (refine And.intro (by clear hK; intros; first | omega | (simp_all; done) | (simp_all <;> omega)) ?_)
        refine hK _ ?_; clear hK K; refine Nav.imp ?_
        refine awp_cond (b := true) (by simp [push_cast]) (fun hb => ?_) (fun hb => ?_) <;> (refine Nav.imp ?_)
        · refine awp_region cx [] fun K hK => ?_
          simp [push_cast]
          repeat (refine And.intro (by clear hK; intros; first | omega | (simp_all; done) | (simp_all <;> omega)) ?_)
          refine hK _ ?_; clear hK K; refine Nav.imp ?_
          simp [push_cast]
        · simp at hb
      | true =>
        rw [hvR] at c2
        refine awp_region cx [(1, .p (.bool true))] fun K hK => ?_
        simp [push_cast, c2]
        repeat (refine And.intro (by clear hK; intros; first | omega | (simp_all; done) | (simp_all <;> omega)) ?_)
        refine hK _ ?_; clear hK K; refine Nav.imp ?_
        refine awp_cond (b := false) (by simp [push_cast]) (fun hb => ?_) (fun hb => ?_) <;> (refine Nav.imp ?_)
        · simp at hb
        · refine awp_region cx [] fun K hK => ?_
          simp [push_cast, e0]
          repeat (refine And.intro (by clear hK; intros; first | omega | (simp_all; done) | (simp_all <;> omega)) ?_)
          refine hK _ ?_; clear hK K; refine Nav.imp ?_
          refine ⟨i + 1, ⟨hlt, fun j S hj hS => ?_⟩, by omega, ?_⟩
          · by_cases e : j < i
            · exact hall j S e hS
            · have : j = i := by omega
              subst this
              rw [hRi] at hS; cases hS; exact hvR
          · refine weak_of [(0, some 0)] rfl (by simp [upT, up, upL, push_cast]) (by simp [upH, upR, upL, up, push_cast]) (by simp [namesOk, push_cast]) (by simp [olds])
    · have hie : i = b.lays.length := by simp at hb; omega
      have : b.lays.all validR = true := by
        rw [List.all_eq_true]
        intro R hR'
        obtain ⟨j, hj⟩ := List.mem_iff_getElem?.1 hR'
        exact hall j R (by have := (List.getElem?_eq_some_iff.1 hj).1; omega) hj
      rw [this, Bool.true_and] at hv
      rw [hv]
      refine awp_region cx [(1, .p (.bool sb))] fun K hK => ?_
      simp [push_cast, c1]
      repeat (refine And.intro (by clear hK; intros; first | omega | (simp_all; done) | (simp_all <;> omega)) ?_)
      refine hK _ ?_; clear hK K; refine Nav.imp ?_
      simp [push_cast]
end Go.Proofs.YtlfbjflfbjkbeaaGreat

namespace Go.Proofs.YtlfbjflfbjkbeaaGreat
open Go.Abs
attribute [push_cast] okHead calleeB

def stepP (x p : Pos) : Pos := ⟨x.p + p.p, x.q + p.q, x.r + p.r, x.s + p.s⟩
def oneB (n : Int) : Bool := !(decide (n < -1) || decide (1 < n))
def unitP (p : Pos) : Bool := oneB p.p && oneB p.q && oneB p.r && oneB p.s
def pulseW (b : Bench) (m : Mach) (s : Sett) (p : Pos) : Bench :=
  hitF (extB { b with real := stepP b.real p } (underC m s (stepP b.real p)) (underL m s (stepP b.real p)) p.s) (underC m s (stepP b.real p)) (underL m s (stepP b.real p)) (p.p * p.p + p.q * p.q)
def pulseB (b : Bench) (m : Mach) (s : Sett) (p : Pos) : Bench := if unitP p && (rightB m s && validE b) && soundB (pulseW b m s p) then pulseW b m s p else b
theorem opR_valid {f : Bool → Bool → Bool} (hf : f false false = false) (a b : List Row) : validR (opR f a b) = true := by
  cases hv : (validR a && validR b) with
  | false => unfold opR; rw [hv]; rfl
  | true =>
    simp only [Bool.and_eq_true] at hv
    exact (opR_facts hf hv.1 hv.2).1
theorem layF_facts {L : List (List Row)} {l : Int} {c : Cell} (hL : ∀ R ∈ L, validR R = true) (hl : L.length ≤ 256) : (∀ R ∈ layF L l c, validR R = true) ∧ (layF L l c).length ≤ 256 := by
  unfold layF
  split
  · rename_i h
    simp [layOk] at h
    refine ⟨fun R hR => ?_, ?_⟩
    · unfold layL at hR
      rcases List.mem_or_eq_of_mem_set hR with h1 | h1
      · rcases List.mem_append.1 h1 with h1 | h1
        · exact hL R h1
        · rw [(List.mem_replicate.1 h1).2]; rfl
      · rw [h1]; exact opR_valid rfl _ _
    · rw [layL_len]; split <;> omega
  · exact ⟨hL, hl⟩
theorem ext_facts {b : Bench} {c : Cell} {l k : Int} (hL : ∀ R ∈ b.lays, validR R = true) (hl : b.lays.length ≤ 256) : (∀ R ∈ (extB b c l k).lays, validR R = true) ∧ (extB b c l k).lays.length ≤ 256 ∧ (extB b c l k).hits = b.hits := by
  unfold extB
  split
  · exact ⟨hL, hl, rfl⟩
  split
  · exact ⟨hL, hl, rfl⟩
  split
  · exact ⟨hL, hl, rfl⟩
  split
  · obtain ⟨h1, h2⟩ := layF_facts (l := l) (c := c) hL hl
    exact ⟨h1, h2, rfl⟩
  · exact ⟨hL, hl, rfl⟩
theorem hit_lays {b : Bench} {c : Cell} {l k : Int} : (hitF b c l k).lays = b.lays := by
  unfold hitF
  split
  · rfl
  split <;> rfl
theorem under_layer (m : Mach) (s : Sett) (x : Pos) : -1 ≤ underL m s x ∧ underL m s x ≤ 4611686018427387905 := by
  rcases under_cases m s x with ⟨h, _⟩ | ⟨_, h, _⟩ | ⟨h1, h2, a, b, c, d, _, hd, ha, hb, hc, hp, hh⟩
  · have : underB m s x = false := by simp [underB, h]
    simp [underL, this]
  · have : underB m s x = false := by simp [underB, h]
    simp [underL, this]
  · have := lay_range hc hh.1
    simp only [underD, D.tup.injEq, List.cons.injEq, D.int.injEq, true_and, and_true] at hd
    rw [hd.2]; exact this
set_option maxHeartbeats 8000000 in
theorem pulse_ok (b : Bench) (m : Mach) (s : Sett) (p : Pos) (hS : smallL b.lays) : PC Tryz.prog 7 [.agg b.row, .agg m.row, .agg s.row, .agg p.row] (.p (.agg (pulseB b m s p).row)) := by
  have c1 := clone_bench b hS
  have c2 := right_ok m s
  have c3 := bvalid_ok b hS
  have hP : pulseB b m s p = if unitP p && (rightB m s && validE b) && soundB (pulseW b m s p) then pulseW b m s p else b := rfl
  have hu : unitP p = true ↔ _ := four_iff (f := oneB) (x := p)
  generalize hB : pulseB b m s p = B at *
  generalize unitP p = up_ at *
  have w3 : IntKind.i64.wrap 3 = 3 := by decide
  have w4 : IntKind.i64.wrap 4 = 4 := by decide
  refine pc_of_awp cx (fn := Tryz.f7) (c := _) Tryz.func7 rfl rfl (Nat.le_of_ble_eq_true rfl) ?_
  rw [Tryz.ntmps7]; refine Nav.imp ?_
  refine awp_region cx [] fun K hK => ?_
  simp [push_cast]
  repeat (refine And.intro (by clear hK; intros; first | omega | (simp_all; done) | (simp_all <;> omega)) ?_)
  refine hK _ ?_; clear hK K; refine Nav.imp ?_
  refine awp_region cx [(1, .x ⟨[], [.d (.agg b.row)], [], [], some 2, [(2, ⟨48, 1, dr (b.lays.map regRow)⟩)], .agg (b.av (.hs 2 0 b.lays.length))⟩)] fun K hK => ?_
  simp [push_cast, c1]
  repeat (refine And.intro (by clear hK; intros; first | omega | (simp_all; done) | (simp_all <;> omega)) ?_)
  refine hK _ ?_; clear hK K; refine Nav.imp ?_
  refine awp_region cx [] fun K hK => ?_
  simp [push_cast]
  repeat (refine And.intro (by clear hK; intros; first | omega | (simp_all; done) | (simp_all <;> omega)) ?_)
  refine hK _ ?_; clear hK K; refine Nav.imp ?_
  refine awp_loop (β := Nat) (fun i => ⟨113, [(4, .ptr 0 0 0), (5, .ptr 1 0 0), (6, .ptr 2 0 0), (7, .ptr 3 0 0), (8, .ptr 4 0 0), (9, .ptr 5 0 0), (19, .d (.agg p.row)), (20, .d (.int .i64 i))], [(0, some ⟨30, 22, [b.row.map .d]⟩), (1, some ⟨35, 30, [m.row.map .d]⟩), (2, some ⟨37, 20, [s.row.map .d]⟩), (3, some ⟨22, 4, [p.row.map .d]⟩), (4, some ⟨30, 22, benchZ⟩), (5, some ⟨30, 22, [b.av (.hs 6 0 b.lays.length)]⟩), (6, some ⟨48, 1, dr (b.lays.map regRow)⟩)], 7⟩) (fun i => i ≤ 4 ∧ ∀ j < i, oneB (p.at j) = true) (fun i => 4 - i) 0 ?_ ⟨Nat.zero_le _, by simp⟩ ?_
  · refine weak_of [(0, some 0), (1, some 1), (2, some 2), (3, some 3), (4, some 4), (5, some 7), (6, some 6)] rfl (by simp [upT, up, upL, push_cast]) (by simp [upH, upR, upL, up, push_cast]) (by simp [namesOk, push_cast]) (by simp [olds])
  · rintro i ⟨hi, hall⟩
    rcases (show i = 0 ∨ i = 1 ∨ i = 2 ∨ i = 3 ∨ i = 4 by omega) with rfl | rfl | rfl | rfl | rfl
    · have hw2 : oneB p.p = !(decide (p.p < -1) || decide (1 < p.p)) := rfl
      refine Nav.imp ?_
      refine awp_region cx [] fun K hK => ?_
      simp [push_cast]
      repeat (refine And.intro (by clear hK; intros; first | omega | (simp_all; done) | (simp_all <;> omega)) ?_)
      refine hK _ ?_; clear hK K; refine Nav.imp ?_
      refine awp_cond (b := true) (by simp [push_cast]) (fun hb => ?_) (fun hb => ?_) <;> (refine Nav.imp ?_)
      · refine awp_region cx [] fun K hK => ?_
        simp [push_cast]
        repeat (refine And.intro (by clear hK; intros; first | omega | (simp_all; done) | (simp_all <;> omega)) ?_)
        refine hK _ ?_; clear hK K; refine Nav.imp ?_
        refine awp_region cx [] fun K hK => ?_
        simp [push_cast]
        repeat (refine And.intro (by clear hK; intros; first | omega | (simp_all; done) | (simp_all <;> omega)) ?_)
        refine hK _ ?_; clear hK K; refine Nav.imp ?_
        refine awp_cond (b := decide (p.p < -1) || decide (1 < p.p)) (by simp [push_cast]) (fun hb => ?_) (fun hb => ?_) <;> (refine Nav.imp ?_)
        · rw [hb] at hw2
          have hf : up_ = false := by
            cases up_
            · rfl
            · have := hu.1 rfl 0 (by omega)
              simp only [Pos.at] at this
              rw [this] at hw2; cases hw2
          rw [hf] at hP
          simp at hP
          rw [hP]
          refine awp_region cx [] fun K hK => ?_
          simp [push_cast]
          repeat (refine And.intro (by clear hK; intros; first | omega | (simp_all; done) | (simp_all <;> omega)) ?_)
          refine hK _ ?_; clear hK K; refine Nav.imp ?_
          simp [push_cast]
        · rw [hb] at hw2
          refine awp_region cx [] fun K hK => ?_
          simp [push_cast, w3, w4]
          repeat (refine And.intro (by clear hK; intros; first | omega | (simp_all; done) | (simp_all <;> omega)) ?_)
          refine hK _ ?_; clear hK K; refine Nav.imp ?_
          refine ⟨1, ⟨by omega, fun j hj => ?_⟩, by omega, ?_⟩
          · by_cases e : j < 0
            · exact hall j e
            · have : j = 0 := by omega
              subst this
              simpa [Pos.at] using hw2
          · refine weak_of [(0, some 0), (1, some 1), (2, some 2), (3, some 3), (4, some 4), (5, some 5), (6, some 6)] rfl (by simp [upT, up, upL, push_cast]) (by simp [upH, upR, upL, up, push_cast]) (by simp [namesOk, push_cast]) (by simp [olds])
      · simp at hb
    · have hw2 : oneB p.q = !(decide (p.q < -1) || decide (1 < p.q)) := rfl
      refine Nav.imp ?_
      refine awp_region cx [] fun K hK => ?_
      simp [push_cast]
      repeat (refine And.intro (by clear hK; intros; first | omega | (simp_all; done) | (simp_all <;> omega)) ?_)
      refine hK _ ?_; clear hK K; refine Nav.imp ?_
      refine awp_cond (b := true) (by simp [push_cast]) (fun hb => ?_) (fun hb => ?_) <;> (refine Nav.imp ?_)
      · refine awp_region cx [] fun K hK => ?_
        simp [push_cast]
        repeat (refine And.intro (by clear hK; intros; first | omega | (simp_all; done) | (simp_all <;> omega)) ?_)
        refine hK _ ?_; clear hK K; refine Nav.imp ?_
        refine awp_region cx [] fun K hK => ?_
        simp [push_cast]
        repeat (refine And.intro (by clear hK; intros; first | omega | (simp_all; done) | (simp_all <;> omega)) ?_)
        refine hK _ ?_; clear hK K; refine Nav.imp ?_
        refine awp_cond (b := decide (p.q < -1) || decide (1 < p.q)) (by simp [push_cast]) (fun hb => ?_) (fun hb => ?_) <;> (refine Nav.imp ?_)
        · rw [hb] at hw2
          have hf : up_ = false := by
            cases up_
            · rfl
            · have := hu.1 rfl 1 (by omega)
              simp only [Pos.at] at this
              rw [this] at hw2; cases hw2
          rw [hf] at hP
          simp at hP
          rw [hP]
          refine awp_region cx [] fun K hK => ?_
          simp [push_cast]
          repeat (refine And.intro (by clear hK; intros; first | omega | (simp_all; done) | (simp_all <;> omega)) ?_)
          refine hK _ ?_; clear hK K; refine Nav.imp ?_
          simp [push_cast]
        · rw [hb] at hw2
          refine awp_region cx [] fun K hK => ?_
          simp [push_cast, w3, w4]
          repeat (refine And.intro (by clear hK; intros; first | omega | (simp_all; done) | (simp_all <;> omega)) ?_)
          refine hK _ ?_; clear hK K; refine Nav.imp ?_
          refine ⟨2, ⟨by omega, fun j hj => ?_⟩, by omega, ?_⟩
          · by_cases e : j < 1
            · exact hall j e
            · have : j = 1 := by omega
              subst this
              simpa [Pos.at] using hw2
          · refine weak_of [(0, some 0), (1, some 1), (2, some 2), (3, some 3), (4, some 4), (5, some 5), (6, some 6)] rfl (by simp [upT, up, upL, push_cast]) (by simp [upH, upR, upL, up, push_cast]) (by simp [namesOk, push_cast]) (by simp [olds])
      · simp at hb
    · have hw2 : oneB p.r = !(decide (p.r < -1) || decide (1 < p.r)) := rfl
      refine Nav.imp ?_
      refine awp_region cx [] fun K hK => ?_
      simp [push_cast]
      repeat (refine And.intro (by clear hK; intros; first | omega | (simp_all; done) | (simp_all <;> omega)) ?_)
      refine hK _ ?_; clear hK K; refine Nav.imp ?_
      refine awp_cond (b := true) (by simp [push_cast]) (fun hb => ?_) (fun hb => ?_) <;> (refine Nav.imp ?_)
      · refine awp_region cx [] fun K hK => ?_
        simp [push_cast]
        repeat (refine And.intro (by clear hK; intros; first | omega | (simp_all; done) | (simp_all <;> omega)) ?_)
        refine hK _ ?_; clear hK K; refine Nav.imp ?_
        refine awp_region cx [] fun K hK => ?_
        simp [push_cast]
        repeat (refine And.intro (by clear hK; intros; first | omega | (simp_all; done) | (simp_all <;> omega)) ?_)
        refine hK _ ?_; clear hK K; refine Nav.imp ?_
        refine awp_cond (b := decide (p.r < -1) || decide (1 < p.r)) (by simp [push_cast]) (fun hb => ?_) (fun hb => ?_) <;> (refine Nav.imp ?_)
        · rw [hb] at hw2
          have hf : up_ = false := by
            cases up_
            · rfl
            · have := hu.1 rfl 2 (by omega)
              simp only [Pos.at] at this
              rw [this] at hw2; cases hw2
          rw [hf] at hP
          simp at hP
          rw [hP]
          refine awp_region cx [] fun K hK => ?_
          simp [push_cast]
          repeat (refine And.intro (by clear hK; intros; first | omega | (simp_all; done) | (simp_all <;> omega)) ?_)
          refine hK _ ?_; clear hK K; refine Nav.imp ?_
          simp [push_cast]
        · rw [hb] at hw2
          refine awp_region cx [] fun K hK => ?_
          simp [push_cast, w3, w4]
          repeat (refine And.intro (by clear hK; intros; first | omega | (simp_all; done) | (simp_all <;> omega)) ?_)
          refine hK _ ?_; clear hK K; refine Nav.imp ?_
          refine ⟨3, ⟨by omega, fun j hj => ?_⟩, by omega, ?_⟩
          · by_cases e : j < 2
            · exact hall j e
            · have : j = 2 := by omega
              subst this
              simpa [Pos.at] using hw2
          · refine weak_of [(0, some 0), (1, some 1), (2, some 2), (3, some 3), (4, some 4), (5, some 5), (6, some 6)] rfl (by simp [upT, up, upL, push_cast]) (by simp [upH, upR, upL, up, push_cast]) (by simp [namesOk, push_cast]) (by simp [olds])
      · simp at hb
    · have hw2 : oneB p.s = !(decide (p.s < -1) || decide (1 < p.s)) := rfl
      refine Nav.imp ?_
      refine awp_region cx [] fun K hK => ?_
      simp [push_cast]
      repeat (refine And.intro (by clear hK; intros; first | omega | (simp_all; done) | (simp_all <;> omega)) ?_)
      refine hK _ ?_; clear hK K; refine Nav.imp ?_
      refine awp_cond (b := true) (by simp [push_cast]) (fun hb => ?_) (fun hb => ?_) <;> (refine Nav.imp ?_)
      · refine awp_region cx [] fun K hK => ?_
        simp [push_cast]
        repeat (refine And.intro (by clear hK; intros; first | omega | (simp_all; done) | (simp_all <;> omega)) ?_)
        refine hK _ ?_; clear hK K; refine Nav.imp ?_
        refine awp_region cx [] fun K hK => ?_
        simp [push_cast]
        repeat (refine And.intro (by clear hK; intros; first | omega | (simp_all; done) | (simp_all <;> omega)) ?_)
        refine hK _ ?_; clear hK K; refine Nav.imp ?_
        refine awp_cond (b := decide (p.s < -1) || decide (1 < p.s)) (by simp [push_cast]) (fun hb => ?_) (fun hb => ?_) <;> (refine Nav.imp ?_)
        · rw [hb] at hw2
          have hf : up_ = false := by
            cases up_
            · rfl
            · have := hu.1 rfl 3 (by omega)
              simp only [Pos.at] at this
              rw [this] at hw2; cases hw2
          rw [hf] at hP
          simp at hP
          rw [hP]
          refine awp_region cx [] fun K hK => ?_
          simp [push_cast]
          repeat (refine And.intro (by clear hK; intros; first | omega | (simp_all; done) | (simp_all <;> omega)) ?_)
          refine hK _ ?_; clear hK K; refine Nav.imp ?_
          simp [push_cast]
        · rw [hb] at hw2
          refine awp_region cx [] fun K hK => ?_
          simp [push_cast, w3, w4]
          repeat (refine And.intro (by clear hK; intros; first | omega | (simp_all; done) | (simp_all <;> omega)) ?_)
          refine hK _ ?_; clear hK K; refine Nav.imp ?_
          refine ⟨4, ⟨by omega, fun j hj => ?_⟩, by omega, ?_⟩
          · by_cases e : j < 3
            · exact hall j e
            · have : j = 3 := by omega
              subst this
              simpa [Pos.at] using hw2
          · refine weak_of [(0, some 0), (1, some 1), (2, some 2), (3, some 3), (4, some 4), (5, some 5), (6, some 6)] rfl (by simp [upT, up, upL, push_cast]) (by simp [upH, upR, upL, up, push_cast]) (by simp [namesOk, push_cast]) (by simp [olds])
      · simp at hb
    · have hup := hu.2 hall
      rw [hup, Bool.true_and] at hP
      clear hu hup
      have a0 := hall 0 (by omega)
      have a1 := hall 1 (by omega)
      have a2 := hall 2 (by omega)
      have a3 := hall 3 (by omega)
      simp [oneB, Pos.at] at a0 a1 a2 a3
      refine Nav.imp ?_
      refine awp_region cx [] fun K hK => ?_
      simp [push_cast]
      repeat (refine And.intro (by clear hK; intros; first | omega | (simp_all; done) | (simp_all <;> omega)) ?_)
      refine hK _ ?_; clear hK K; refine Nav.imp ?_
      refine awp_cond (b := false) (by simp [push_cast]) (fun hb => ?_) (fun hb => ?_) <;> (refine Nav.imp ?_)
      · simp at hb
      · cases hr : rightB m s with
        | false =>
          rw [hr] at c2 hP
          simp at hP
          rw [hP]
          refine awp_region cx [(2, .p (.bool false)), (6, .skip)] fun K hK => ?_
          simp [push_cast, c2]
          repeat (refine And.intro (by clear hK; intros; first | omega | (simp_all; done) | (simp_all <;> omega)) ?_)
          refine hK _ ?_; clear hK K; refine Nav.imp ?_
          refine awp_cond (b := true) (by simp [push_cast]) (fun hb => ?_) (fun hb => ?_) <;> (refine Nav.imp ?_)
          · refine awp_region cx [] fun K hK => ?_
            simp [push_cast]
            repeat (refine And.intro (by clear hK; intros; first | omega | (simp_all; done) | (simp_all <;> omega)) ?_)
            refine hK _ ?_; clear hK K; refine Nav.imp ?_
            simp [push_cast]
          · simp at hb
        | true =>
        cases hv : validE b with
        | false =>
          rw [hr] at c2 hP
          rw [hv] at c3 hP
          simp at hP
          rw [hP]
          refine awp_region cx [(2, .p (.bool true)), (6, .p (.bool false))] fun K hK => ?_
          simp [push_cast, c2, c3]
          repeat (refine And.intro (by clear hK; intros; first | omega | (simp_all; done) | (simp_all <;> omega)) ?_)
          refine hK _ ?_; clear hK K; refine Nav.imp ?_
          refine awp_cond (b := true) (by simp [push_cast]) (fun hb => ?_) (fun hb => ?_) <;> (refine Nav.imp ?_)
          · refine awp_region cx [] fun K hK => ?_
            simp [push_cast]
            repeat (refine And.intro (by clear hK; intros; first | omega | (simp_all; done) | (simp_all <;> omega)) ?_)
            refine hK _ ?_; clear hK K; refine Nav.imp ?_
            simp [push_cast]
          · simp at hb
        | true =>
        rw [hr] at c2 hP
        rw [hv] at c3 hP
        simp only [Bool.and_self, Bool.true_and] at hP
        refine awp_region cx [(2, .p (.bool true)), (6, .p (.bool true))] fun K hK => ?_
        simp [push_cast, c2, c3]
        repeat (refine And.intro (by clear hK; intros; first | omega | (simp_all; done) | (simp_all <;> omega)) ?_)
        refine hK _ ?_; clear hK K; refine Nav.imp ?_
        refine awp_cond (b := false) (by simp [push_cast]) (fun hb => ?_) (fun hb => ?_) <;> (refine Nav.imp ?_)
        · simp at hb
        · simp only [validE, soundB, realB, cntsB, Bench.cnts, Bool.and_eq_true, List.all_eq_true, decide_eq_true_eq] at hv
          obtain ⟨hLv, ⟨⟨⟨⟨v0, v1⟩, v2⟩, v3⟩, ⟨⟨u0, u1⟩, u2⟩, u3⟩, hl⟩ := hv
          simp [withB] at v0 v1 v2 v3
          refine awp_region cx [(1, .x ⟨[], [.d (.agg b.row)], [], [], some 2, [(2, ⟨48, 1, dr (b.lays.map regRow)⟩)], .agg (b.av (.hs 2 0 b.lays.length))⟩)] fun K hK => ?_
          simp [push_cast, c1]
          repeat (refine And.intro (by clear hK; intros; first | omega | (simp_all; done) | (simp_all <;> omega)) ?_)
          refine hK _ ?_; clear hK K; refine Nav.imp ?_
          refine awp_region cx [] fun K hK => ?_
          simp [push_cast]
          repeat (refine And.intro (by clear hK; intros; first | omega | (simp_all; done) | (simp_all <;> omega)) ?_)
          refine hK _ ?_; clear hK K; refine Nav.imp ?_
          refine awp_loop (β := Nat) (fun i => ⟨113, [(5, .ptr 1 0 0), (6, .ptr 2 0 0), (7, .ptr 3 0 0), (8, .ptr 4 0 0), (9, .ptr 5 0 0), (12, .ptr 7 0 0), (45, .d (.agg p.row)), (46, .d (.int .i64 i))], [(1, some ⟨35, 30, [m.row.map .d]⟩), (2, some ⟨37, 20, [s.row.map .d]⟩), (3, some ⟨22, 4, [p.row.map .d]⟩), (4, some ⟨30, 22, benchZ⟩), (5, some ⟨30, 22, [b.av (.hs 6 0 b.lays.length)]⟩), (6, some ⟨48, 1, dr (b.lays.map regRow)⟩), (7, some ⟨59, 25, [Bench.wav { b with real := ⟨if 0 < i then b.real.p + p.p else b.real.p, if 1 < i then b.real.q + p.q else b.real.q, if 2 < i then b.real.r + p.r else b.real.r, if 3 < i then b.real.s + p.s else b.real.s⟩ } ⟨0, 0⟩ 0 (.hs 8 0 b.lays.length)]⟩), (8, some ⟨48, 1, dr (b.lays.map regRow)⟩)], 9⟩) (fun i => i ≤ 4) (fun i => 4 - i) 0 ?_ (Nat.zero_le _) ?_
          · refine weak_of [(1, some 1), (2, some 2), (3, some 3), (4, some 4), (5, some 5), (6, some 6), (7, some 20), (8, some 18)] rfl (by simp [upT, up, upL, push_cast]) (by simp [upH, upR, upL, up, push_cast]) (by simp [namesOk, push_cast]) (by simp [olds])
          · clear hi hall
            rintro i hi
            rcases (show i = 0 ∨ i = 1 ∨ i = 2 ∨ i = 3 ∨ i = 4 by omega) with rfl | rfl | rfl | rfl | rfl
            · have e1 := wrap_i64 (n := b.real.p + p.p) (by omega) (by omega)
              simp (config := { decide := true }) only [if_true, if_false]
              refine Nav.imp ?_
              refine awp_region cx [] fun K hK => ?_
              simp [push_cast]
              repeat (refine And.intro (by clear hK; intros; first | omega | (simp_all; done) | (simp_all <;> omega)) ?_)
              refine hK _ ?_; clear hK K; refine Nav.imp ?_
              refine awp_cond (b := true) (by simp [push_cast]) (fun hb => ?_) (fun hb => ?_) <;> (refine Nav.imp ?_)
              · refine awp_region cx [] fun K hK => ?_
                simp [push_cast]
                repeat (refine And.intro (by clear hK; intros; first | omega | (simp_all; done) | (simp_all <;> omega)) ?_)
                refine hK _ ?_; clear hK K; refine Nav.imp ?_
                refine awp_region_draw cx mixed [] fun K hK => ?_
                simp [push_cast, e1]
                repeat (refine And.intro (by clear hK; intros; first | omega | (simp_all; done) | (simp_all <;> omega)) ?_)
                refine hK _ _ (by kernel_rfl) ?_; clear hK K; refine Nav.imp ?_
                refine awp_region cx [] fun K hK => ?_
                simp [push_cast, w3, w4]
                repeat (refine And.intro (by clear hK; intros; first | omega | (simp_all; done) | (simp_all <;> omega)) ?_)
                refine hK _ ?_; clear hK K; refine Nav.imp ?_
                refine ⟨1, by omega, by omega, ?_⟩
                refine weak_of [(1, some 1), (2, some 2), (3, some 3), (4, some 4), (5, some 5), (6, some 6), (7, some 7), (8, some 8)] rfl (by simp [upT, up, upL, push_cast]) (by simp [upH, upR, upL, up, push_cast]) (by simp [namesOk, push_cast]) (by simp [olds])
              · simp at hb
            · have e1 := wrap_i64 (n := b.real.q + p.q) (by omega) (by omega)
              simp (config := { decide := true }) only [if_true, if_false]
              refine Nav.imp ?_
              refine awp_region cx [] fun K hK => ?_
              simp [push_cast]
              repeat (refine And.intro (by clear hK; intros; first | omega | (simp_all; done) | (simp_all <;> omega)) ?_)
              refine hK _ ?_; clear hK K; refine Nav.imp ?_
              refine awp_cond (b := true) (by simp [push_cast]) (fun hb => ?_) (fun hb => ?_) <;> (refine Nav.imp ?_)
              · refine awp_region cx [] fun K hK => ?_
                simp [push_cast]
                repeat (refine And.intro (by clear hK; intros; first | omega | (simp_all; done) | (simp_all <;> omega)) ?_)
                refine hK _ ?_; clear hK K; refine Nav.imp ?_
                refine awp_region_draw cx mixed [] fun K hK => ?_
                simp [push_cast, e1]
                repeat (refine And.intro (by clear hK; intros; first | omega | (simp_all; done) | (simp_all <;> omega)) ?_)
                refine hK _ _ (by kernel_rfl) ?_; clear hK K; refine Nav.imp ?_
                refine awp_region cx [] fun K hK => ?_
                simp [push_cast, w3, w4]
                repeat (refine And.intro (by clear hK; intros; first | omega | (simp_all; done) | (simp_all <;> omega)) ?_)
                refine hK _ ?_; clear hK K; refine Nav.imp ?_
                refine ⟨2, by omega, by omega, ?_⟩
                refine weak_of [(1, some 1), (2, some 2), (3, some 3), (4, some 4), (5, some 5), (6, some 6), (7, some 7), (8, some 8)] rfl (by simp [upT, up, upL, push_cast]) (by simp [upH, upR, upL, up, push_cast]) (by simp [namesOk, push_cast]) (by simp [olds])
              · simp at hb
            · have e1 := wrap_i64 (n := b.real.r + p.r) (by omega) (by omega)
              simp (config := { decide := true }) only [if_true, if_false]
              refine Nav.imp ?_
              refine awp_region cx [] fun K hK => ?_
              simp [push_cast]
              repeat (refine And.intro (by clear hK; intros; first | omega | (simp_all; done) | (simp_all <;> omega)) ?_)
              refine hK _ ?_; clear hK K; refine Nav.imp ?_
              refine awp_cond (b := true) (by simp [push_cast]) (fun hb => ?_) (fun hb => ?_) <;> (refine Nav.imp ?_)
              · refine awp_region cx [] fun K hK => ?_
                simp [push_cast]
                repeat (refine And.intro (by clear hK; intros; first | omega | (simp_all; done) | (simp_all <;> omega)) ?_)
                refine hK _ ?_; clear hK K; refine Nav.imp ?_
                refine awp_region_draw cx mixed [] fun K hK => ?_
                simp [push_cast, e1]
                repeat (refine And.intro (by clear hK; intros; first | omega | (simp_all; done) | (simp_all <;> omega)) ?_)
                refine hK _ _ (by kernel_rfl) ?_; clear hK K; refine Nav.imp ?_
                refine awp_region cx [] fun K hK => ?_
                simp [push_cast, w3, w4]
                repeat (refine And.intro (by clear hK; intros; first | omega | (simp_all; done) | (simp_all <;> omega)) ?_)
                refine hK _ ?_; clear hK K; refine Nav.imp ?_
                refine ⟨3, by omega, by omega, ?_⟩
                refine weak_of [(1, some 1), (2, some 2), (3, some 3), (4, some 4), (5, some 5), (6, some 6), (7, some 7), (8, some 8)] rfl (by simp [upT, up, upL, push_cast]) (by simp [upH, upR, upL, up, push_cast]) (by simp [namesOk, push_cast]) (by simp [olds])
              · simp at hb
            · have e1 := wrap_i64 (n := b.real.s + p.s) (by omega) (by omega)
              simp (config := { decide := true }) only [if_true, if_false]
              refine Nav.imp ?_
              refine awp_region cx [] fun K hK => ?_
              simp [push_cast]
              repeat (refine And.intro (by clear hK; intros; first | omega | (simp_all; done) | (simp_all <;> omega)) ?_)
              refine hK _ ?_; clear hK K; refine Nav.imp ?_
              refine awp_cond (b := true) (by simp [push_cast]) (fun hb => ?_) (fun hb => ?_) <;> (refine Nav.imp ?_)
              · refine awp_region cx [] fun K hK => ?_
                simp [push_cast]
                repeat (refine And.intro (by clear hK; intros; first | omega | (simp_all; done) | (simp_all <;> omega)) ?_)
                refine hK _ ?_; clear hK K; refine Nav.imp ?_
                refine awp_region_draw cx mixed [] fun K hK => ?_
                simp [push_cast, e1]
                repeat (refine And.intro (by clear hK; intros; first | omega | (simp_all; done) | (simp_all <;> omega)) ?_)
                refine hK _ _ (by kernel_rfl) ?_; clear hK K; refine Nav.imp ?_
                refine awp_region cx [] fun K hK => ?_
                simp [push_cast, w3, w4]
                repeat (refine And.intro (by clear hK; intros; first | omega | (simp_all; done) | (simp_all <;> omega)) ?_)
                refine hK _ ?_; clear hK K; refine Nav.imp ?_
                refine ⟨4, by omega, by omega, ?_⟩
                refine weak_of [(1, some 1), (2, some 2), (3, some 3), (4, some 4), (5, some 5), (6, some 6), (7, some 7), (8, some 8)] rfl (by simp [upT, up, upL, push_cast]) (by simp [upH, upR, upL, up, push_cast]) (by simp [namesOk, push_cast]) (by simp [olds])
              · simp at hb
            · simp (config := { decide := true }) only [if_true, if_false]
              refine Nav.imp ?_
              refine awp_region cx [] fun K hK => ?_
              simp [push_cast]
              repeat (refine And.intro (by clear hK; intros; first | omega | (simp_all; done) | (simp_all <;> omega)) ?_)
              refine hK _ ?_; clear hK K; refine Nav.imp ?_
              refine awp_cond (b := false) (by simp [push_cast]) (fun hb => ?_) (fun hb => ?_) <;> (refine Nav.imp ?_)
              · simp at hb
              · have c4 := under_ok m s ⟨b.real.p + p.p, b.real.q + p.q, b.real.r + p.r, b.real.s + p.s⟩
                have hlr := under_layer m s ⟨b.real.p + p.p, b.real.q + p.q, b.real.r + p.r, b.real.s + p.s⟩
                unfold underD at c4
                have hW : pulseW b m s p = hitF (extB { b with real := ⟨b.real.p + p.p, b.real.q + p.q, b.real.r + p.r, b.real.s + p.s⟩ } (underC m s ⟨b.real.p + p.p, b.real.q + p.q, b.real.r + p.r, b.real.s + p.s⟩) (underL m s ⟨b.real.p + p.p, b.real.q + p.q, b.real.r + p.r, b.real.s + p.s⟩) p.s) (underC m s ⟨b.real.p + p.p, b.real.q + p.q, b.real.r + p.r, b.real.s + p.s⟩) (underL m s ⟨b.real.p + p.p, b.real.q + p.q, b.real.r + p.r, b.real.s + p.s⟩) (p.p * p.p + p.q * p.q) := rfl
                generalize underC m s _ = c at *
                generalize underL m s _ = l at *
                have c5 := extrude_px { b with real := ⟨b.real.p + p.p, b.real.q + p.q, b.real.r + p.r, b.real.s + p.s⟩ } c l p.s hLv hl u0 u1 u2
                obtain ⟨x1, x2, x3⟩ := ext_facts (b := { b with real := ⟨b.real.p + p.p, b.real.q + p.q, b.real.r + p.r, b.real.s + p.s⟩ }) (c := c) (l := l) (k := p.s) hLv hl
                generalize extB { b with real := ⟨b.real.p + p.p, b.real.q + p.q, b.real.r + p.r, b.real.s + p.s⟩ } c l p.s = E at *
                have hby : p.p * p.p = (if p.p = 0 then 0 else 1) ∧ p.q * p.q = (if p.q = 0 then 0 else 1) := by
                  constructor
                  · rcases (show p.p = -1 ∨ p.p = 0 ∨ p.p = 1 by omega) with h | h | h <;> simp [h]
                  · rcases (show p.q = -1 ∨ p.q = 0 ∨ p.q = 1 by omega) with h | h | h <;> simp [h]
                have m1 := wrap_i64 (n := p.p * p.p) (by rw [hby.1]; split <;> omega) (by rw [hby.1]; split <;> omega)
                have m2 := wrap_i64 (n := p.q * p.q) (by rw [hby.2]; split <;> omega) (by rw [hby.2]; split <;> omega)
                have m3 := wrap_i64 (n := p.p * p.p + p.q * p.q) (by rw [hby.1, hby.2]; split <;> split <;> omega) (by rw [hby.1, hby.2]; split <;> split <;> omega)
                clear hby
                have c6 := hit_px E c l (p.p * p.p + p.q * p.q) hlr (fun R hR => small_valid (x1 R hR)) x2 (by rw [x3]; exact u3)
                have hHl := hit_lays (b := E) (c := c) (l := l) (k := p.p * p.p + p.q * p.q)
                generalize hitF E c l (p.p * p.p + p.q * p.q) = H at *
                have c7 := sound_ok H (by rw [hHl]; omega)
                rw [hW] at hP
                clear hW hB
                generalize soundB H = sb at *
                refine awp_region_draw cx mixed [(9, .p (.tup [.agg c.row, .int .i64 l]))] fun K hK => ?_
                simp [push_cast, c4, Cell.row]
                repeat (refine And.intro (by clear hK; intros; first | omega | (simp_all; done) | (simp_all <;> omega)) ?_)
                refine hK _ _ (by kernel_rfl) ?_; clear hK K; refine Nav.imp ?_
                refine awp_region cx [] fun K hK => ?_
                simp [push_cast]
                repeat (refine And.intro (by clear hK; intros; first | omega | (simp_all; done) | (simp_all <;> omega)) ?_)
                refine hK _ ?_; clear hK K; refine Nav.imp ?_
                refine awp_region cx [(3, .x ⟨[(0, 7), (1, 8)], [.ptr 0 0 0, .d (.int .i64 p.s)], [(0, ⟨59, 25, [Bench.wav { b with real := ⟨b.real.p + p.p, b.real.q + p.q, b.real.r + p.r, b.real.s + p.s⟩ } c l (.hs 1 0 b.lays.length)]⟩), (1, ⟨48, 1, dr (b.lays.map regRow)⟩)], [(0, 0)], some 1, [(0, ⟨59, 25, [Bench.wav E c l (.hs 1 0 E.lays.length)]⟩), (1, ⟨48, 1, dr (E.lays.map regRow)⟩)], .tup []⟩)] fun K hK => ?_
                simp [push_cast, c5]
                repeat (refine And.intro (by clear hK; intros; first | omega | (simp_all; done) | (simp_all <;> omega)) ?_)
                refine hK _ ?_; clear hK K; refine Nav.imp ?_
                refine awp_region cx [(12, .x ⟨[(0, 7), (1, 38)], [.ptr 0 0 0, .d (.int .i64 (p.p * p.p + p.q * p.q))], [(0, ⟨59, 25, [Bench.wav E c l (.hs 1 0 E.lays.length)]⟩), (1, ⟨48, 1, dr (E.lays.map regRow)⟩)], [(0, 0)], some 1, [(0, ⟨59, 25, [Bench.wav H c l (.hs 1 0 H.lays.length)]⟩), (1, ⟨48, 1, dr (H.lays.map regRow)⟩)], .tup []⟩)] fun K hK => ?_
                simp [push_cast, c6, m1, m2, m3]
                repeat (refine And.intro (by clear hK; intros; first | omega | (simp_all; done) | (simp_all <;> omega)) ?_)
                refine hK _ ?_; clear hK K; refine Nav.imp ?_
                refine awp_freeze 51 (H.lays.map regRow) rfl (by simp [push_cast]) fun K hK => ?_
                simp [push_cast, St.fz, fzT, fzH, fzO, fz, fzL, fzR, fzR_dr, fzR_app, fzR_set, fzL_map]
                refine hK _ ?_; clear hK K; refine Nav.imp ?_
                cases sb with
                | false =>
                  simp at hP
                  rw [hP]
                  refine awp_region cx [(4, .p (.bool false))] fun K hK => ?_
                  simp [push_cast, c7]
                  repeat (refine And.intro (by clear hK; intros; first | omega | (simp_all; done) | (simp_all <;> omega)) ?_)
                  refine hK _ ?_; clear hK K; refine Nav.imp ?_
                  refine awp_cond (b := true) (by simp [push_cast]) (fun hb => ?_) (fun hb => ?_) <;> (refine Nav.imp ?_)
                  · refine awp_region cx [] fun K hK => ?_
                    simp [push_cast]
                    repeat (refine And.intro (by clear hK; intros; first | omega | (simp_all; done) | (simp_all <;> omega)) ?_)
                    refine hK _ ?_; clear hK K; refine Nav.imp ?_
                    simp [push_cast]
                  · simp at hb
                | true =>
                  simp at hP
                  rw [hP]
                  refine awp_region cx [(4, .p (.bool true))] fun K hK => ?_
                  simp [push_cast, c7]
                  repeat (refine And.intro (by clear hK; intros; first | omega | (simp_all; done) | (simp_all <;> omega)) ?_)
                  refine hK _ ?_; clear hK K; refine Nav.imp ?_
                  refine awp_cond (b := false) (by simp [push_cast]) (fun hb => ?_) (fun hb => ?_) <;> (refine Nav.imp ?_)
                  · simp at hb
                  · refine awp_region cx [] fun K hK => ?_
                    simp [push_cast]
                    repeat (refine And.intro (by clear hK; intros; first | omega | (simp_all; done) | (simp_all <;> omega)) ?_)
                    refine hK _ ?_; clear hK K; refine Nav.imp ?_
                    simp [push_cast]
end Go.Proofs.YtlfbjflfbjkbeaaGreat

namespace Go.Proofs.YtlfbjflfbjkbeaaGreat
open Go.Abs

def axM : Ax := ⟨2, 1, 1000, 50, 10, -9000, 9000⟩
def axZ : Ax := ⟨0, 0, 0, 0, 0, 0, 0⟩
def awM : Mach := ⟨axM, axM, axM, axM, false, 1000⟩
def awS : Sett := ⟨100, 20, 0, 0, 0, 0, 0, false, 0, 0, 0, 0, 0, 0, 0, 0, 0, 0, 0, 0⟩
def awP : Pos := ⟨300, -2, 40, 0⟩
def awB : Bench := ⟨awP, 0, 0, 0, 0, 0, 0, 0, 0, 0, 0, 1, 0, 0, [], 0, false, false, false⟩
theorem machine_ok : PC Tryz.prog 28 [] (.p (.agg awM.row)) := by
  have w3 : IntKind.i64.wrap 3 = 3 := by decide
  have w4 : IntKind.i64.wrap 4 = 4 := by decide
  refine pc_of_awp cx (fn := Tryz.f28) (c := _) Tryz.func28 rfl rfl (Nat.le_of_ble_eq_true rfl) ?_
  rw [Tryz.ntmps28]; refine Nav.imp ?_
  refine awp_region cx [] fun K hK => ?_
  simp [push_cast]
  repeat (refine And.intro (by clear hK; intros; first | omega | (simp_all; done) | (simp_all <;> omega)) ?_)
  refine hK _ ?_; clear hK K; refine Nav.imp ?_
  refine awp_region cx [] fun K hK => ?_
  simp [push_cast]
  repeat (refine And.intro (by clear hK; intros; first | omega | (simp_all; done) | (simp_all <;> omega)) ?_)
  refine hK _ ?_; clear hK K; refine Nav.imp ?_
  refine awp_region cx [] fun K hK => ?_
  simp [push_cast]
  repeat (refine And.intro (by clear hK; intros; first | omega | (simp_all; done) | (simp_all <;> omega)) ?_)
  refine hK _ ?_; clear hK K; refine Nav.imp ?_
  refine awp_loop (β := Nat) (fun i => ⟨13, [(0, .ptr 0 0 0), (1, .ptr 1 0 0), (2, .d (.int .i64 i))], [(0, some ⟨35, 30, [(Mach.row ⟨axZ, axZ, axZ, axZ, false, 0⟩).map .d]⟩), (1, some ⟨35, 30, [(Mach.row ⟨if 0 < i then axM else axZ, if 1 < i then axM else axZ, if 2 < i then axM else axZ, if 3 < i then axM else axZ, false, 1000⟩).map .d]⟩)], 2⟩) (fun i => i ≤ 4) (fun i => 4 - i) 0 ?_ (Nat.zero_le _) ?_
  · refine weak_of [(0, some 0), (1, some 2)] rfl (by simp [upT, up, upL, push_cast, axZ]) (by simp [upH, upR, upL, up, push_cast, axZ]) (by simp [namesOk, push_cast]) (by simp [olds])
  · rintro i hi
    rcases (show i = 0 ∨ i = 1 ∨ i = 2 ∨ i = 3 ∨ i = 4 by omega) with rfl | rfl | rfl | rfl | rfl
    · simp (config := { decide := true }) only [if_true, if_false]
      simp only [axM, axZ]
      refine Nav.imp ?_
      refine awp_region cx [] fun K hK => ?_
      simp [push_cast]
      repeat (refine And.intro (by clear hK; intros; first | omega | (simp_all; done) | (simp_all <;> omega)) ?_)
      refine hK _ ?_; clear hK K; refine Nav.imp ?_
      refine awp_cond (b := true) (by simp [push_cast]) (fun hb => ?_) (fun hb => ?_) <;> (refine Nav.imp ?_)
      · refine awp_region cx [] fun K hK => ?_
        simp [push_cast]
        repeat (refine And.intro (by clear hK; intros; first | omega | (simp_all; done) | (simp_all <;> omega)) ?_)
        refine hK _ ?_; clear hK K; refine Nav.imp ?_
        refine awp_region cx [] fun K hK => ?_
        simp [push_cast, w3, w4]
        repeat (refine And.intro (by clear hK; intros; first | omega | (simp_all; done) | (simp_all <;> omega)) ?_)
        refine hK _ ?_; clear hK K; refine Nav.imp ?_
        refine ⟨1, by omega, by omega, ?_⟩
        refine weak_of [(0, some 0), (1, some 1)] rfl (by simp [upT, up, upL, push_cast, axM, axZ]) (by simp [upH, upR, upL, up, push_cast, axM, axZ]) (by simp [namesOk, push_cast]) (by simp [olds])
      · simp at hb
    · simp (config := { decide := true }) only [if_true, if_false]
      simp only [axM, axZ]
      refine Nav.imp ?_
      refine awp_region cx [] fun K hK => ?_
      simp [push_cast]
      repeat (refine And.intro (by clear hK; intros; first | omega | (simp_all; done) | (simp_all <;> omega)) ?_)
      refine hK _ ?_; clear hK K; refine Nav.imp ?_
      refine awp_cond (b := true) (by simp [push_cast]) (fun hb => ?_) (fun hb => ?_) <;> (refine Nav.imp ?_)
      · refine awp_region cx [] fun K hK => ?_
        simp [push_cast]
        repeat (refine And.intro (by clear hK; intros; first | omega | (simp_all; done) | (simp_all <;> omega)) ?_)
        refine hK _ ?_; clear hK K; refine Nav.imp ?_
        refine awp_region cx [] fun K hK => ?_
        simp [push_cast, w3, w4]
        repeat (refine And.intro (by clear hK; intros; first | omega | (simp_all; done) | (simp_all <;> omega)) ?_)
        refine hK _ ?_; clear hK K; refine Nav.imp ?_
        refine ⟨2, by omega, by omega, ?_⟩
        refine weak_of [(0, some 0), (1, some 1)] rfl (by simp [upT, up, upL, push_cast, axM, axZ]) (by simp [upH, upR, upL, up, push_cast, axM, axZ]) (by simp [namesOk, push_cast]) (by simp [olds])
      · simp at hb
    · simp (config := { decide := true }) only [if_true, if_false]
      simp only [axM, axZ]
      refine Nav.imp ?_
      refine awp_region cx [] fun K hK => ?_
      simp [push_cast]
      repeat (refine And.intro (by clear hK; intros; first | omega | (simp_all; done) | (simp_all <;> omega)) ?_)
      refine hK _ ?_; clear hK K; refine Nav.imp ?_
      refine awp_cond (b := true) (by simp [push_cast]) (fun hb => ?_) (fun hb => ?_) <;> (refine Nav.imp ?_)
      · refine awp_region cx [] fun K hK => ?_
        simp [push_cast]
        repeat (refine And.intro (by clear hK; intros; first | omega | (simp_all; done) | (simp_all <;> omega)) ?_)
        refine hK _ ?_; clear hK K; refine Nav.imp ?_
        refine awp_region cx [] fun K hK => ?_
        simp [push_cast, w3, w4]
        repeat (refine And.intro (by clear hK; intros; first | omega | (simp_all; done) | (simp_all <;> omega)) ?_)
        refine hK _ ?_; clear hK K; refine Nav.imp ?_
        refine ⟨3, by omega, by omega, ?_⟩
        refine weak_of [(0, some 0), (1, some 1)] rfl (by simp [upT, up, upL, push_cast, axM, axZ]) (by simp [upH, upR, upL, up, push_cast, axM, axZ]) (by simp [namesOk, push_cast]) (by simp [olds])
      · simp at hb
    · simp (config := { decide := true }) only [if_true, if_false]
      simp only [axM, axZ]
      refine Nav.imp ?_
      refine awp_region cx [] fun K hK => ?_
      simp [push_cast]
      repeat (refine And.intro (by clear hK; intros; first | omega | (simp_all; done) | (simp_all <;> omega)) ?_)
      refine hK _ ?_; clear hK K; refine Nav.imp ?_
      refine awp_cond (b := true) (by simp [push_cast]) (fun hb => ?_) (fun hb => ?_) <;> (refine Nav.imp ?_)
      · refine awp_region cx [] fun K hK => ?_
        simp [push_cast]
        repeat (refine And.intro (by clear hK; intros; first | omega | (simp_all; done) | (simp_all <;> omega)) ?_)
        refine hK _ ?_; clear hK K; refine Nav.imp ?_
        refine awp_region cx [] fun K hK => ?_
        simp [push_cast, w3, w4]
        repeat (refine And.intro (by clear hK; intros; first | omega | (simp_all; done) | (simp_all <;> omega)) ?_)
        refine hK _ ?_; clear hK K; refine Nav.imp ?_
        refine ⟨4, by omega, by omega, ?_⟩
        refine weak_of [(0, some 0), (1, some 1)] rfl (by simp [upT, up, upL, push_cast, axM, axZ]) (by simp [upH, upR, upL, up, push_cast, axM, axZ]) (by simp [namesOk, push_cast]) (by simp [olds])
      · simp at hb
    · simp (config := { decide := true }) only [if_true, if_false]
      simp only [axM, axZ]
      refine Nav.imp ?_
      refine awp_region cx [] fun K hK => ?_
      simp [push_cast]
      repeat (refine And.intro (by clear hK; intros; first | omega | (simp_all; done) | (simp_all <;> omega)) ?_)
      refine hK _ ?_; clear hK K; refine Nav.imp ?_
      refine awp_cond (b := false) (by simp [push_cast]) (fun hb => ?_) (fun hb => ?_) <;> (refine Nav.imp ?_)
      · simp at hb
      · refine awp_region cx [] fun K hK => ?_
        simp [push_cast]
        repeat (refine And.intro (by clear hK; intros; first | omega | (simp_all; done) | (simp_all <;> omega)) ?_)
        refine hK _ ?_; clear hK K; refine Nav.imp ?_
        simp [push_cast, awM, axM]
theorem aw_under : underD awM awS awP = .tup [.agg [.int .i64 1, .int .i64 (-1)], .int .i64 0] := by kernel_rfl
theorem aw_pulse : pulseB awB awM awS ⟨0, 0, 0, 1⟩ = { awB with real := ⟨300, -2, 40, 1⟩, filament := 0, lays := [[⟨-1, [⟨1, 2⟩]⟩]] } := by kernel_rfl
theorem aw_con : conB [⟨-1, [⟨1, 2⟩]⟩] ⟨1, -1⟩ = true := by kernel_rfl
theorem awake55_ok : PC Tryz.prog 9 [] (.p (.bool true)) := by
  have c0 := machine_ok
  have c1 := under_ok awM awS awP
  rw [aw_under] at c1
  simp only [Sett.row, Pos.row, awS, awP] at c1
  have c2 := pulse_ok awB awM awS ⟨0, 0, 0, 1⟩ ⟨by simp [awB], by simp [awB]⟩
  rw [aw_pulse] at c2
  simp only [Bench.row, Pos.row, Sett.row, awS, awP, awB, encLays, List.map_nil] at c2
  have c3 := contains18_ok [⟨-1, [⟨1, 2⟩]⟩] ⟨1, -1⟩ (small_valid (by kernel_rfl))
  rw [aw_con] at c3
  refine pc_of_awp cx (fn := Tryz.f9) (c := _) Tryz.func9 rfl rfl (Nat.le_of_ble_eq_true rfl) ?_
  rw [Tryz.ntmps9]; refine Nav.imp ?_
  refine awp_region cx [] fun K hK => ?_
  simp [push_cast]
  repeat (refine And.intro (by clear hK; intros; first | omega | (simp_all; done) | (simp_all <;> omega)) ?_)
  refine hK _ ?_; clear hK K; refine Nav.imp ?_
  refine awp_region cx [] fun K hK => ?_
  simp [push_cast]
  repeat (refine And.intro (by clear hK; intros; first | omega | (simp_all; done) | (simp_all <;> omega)) ?_)
  refine hK _ ?_; clear hK K; refine Nav.imp ?_
  refine awp_region_draw cx mixed [(0, .p (.agg awM.row)), (3, .p (.tup [.agg [.int .i64 1, .int .i64 (-1)], .int .i64 0]))] fun K hK => ?_
  simp [push_cast, c0, c1]
  repeat (refine And.intro (by clear hK; intros; first | omega | (simp_all; done) | (simp_all <;> omega)) ?_)
  refine hK _ _ (by kernel_rfl) ?_; clear hK K; refine Nav.imp ?_
  refine awp_region_draw cx mixed [(2, .p (.agg awM.row)), (5, .p (.agg (Bench.row { awB with real := ⟨300, -2, 40, 1⟩, filament := 0, lays := [[⟨-1, [⟨1, 2⟩]⟩]] })))] fun K hK => ?_
  simp [push_cast, c0, c2, awS, awP, awB]
  repeat (refine And.intro (by clear hK; intros; first | omega | (simp_all; done) | (simp_all <;> omega)) ?_)
  refine hK _ _ (by kernel_rfl) ?_; clear hK K; refine Nav.imp ?_
  refine awp_region_draw cx mixed [(19, .p (.bool true))] fun K hK => ?_
  simp [push_cast, c3, Row.row, Run.row, Cell.row]
  repeat (refine And.intro (by clear hK; intros; first | omega | (simp_all; done) | (simp_all <;> omega)) ?_)
  refine hK _ _ (by kernel_rfl) ?_; clear hK K; refine Nav.imp ?_
  simp [push_cast]

end Go.Proofs.YtlfbjflfbjkbeaaGreat

namespace Go.Proofs.YtlfbjflfbjkbeaaGreat
open Go.Abs

def cutW (w : Row) : Row := ⟨w.y, w.runs.take 4⟩
def fewR (R : List Row) : List Row := (R.take 8).map cutW
def fewL (L : List (List Row)) : List (List Row) := (L.take 6).map fewR
def fewB (b : Bench) : Bench := { b with lays := fewL b.lays }
theorem few_facts (L : List (List Row)) : (fewL L).length ≤ 6 ∧ ∀ R ∈ fewL L, R.length ≤ 8 ∧ ∀ w ∈ R, w.runs.length ≤ 4 := by
  refine ⟨by simp [fewL]; omega, fun R hR => ?_⟩
  obtain ⟨S, _, rfl⟩ := List.mem_map.1 hR
  refine ⟨by simp [fewR]; omega, fun w hw => ?_⟩
  obtain ⟨v, _, rfl⟩ := List.mem_map.1 hw
  simp [cutW]; omega
theorem few_small (b : Bench) : smallL (fewB b).lays := by
  obtain ⟨h1, h2⟩ := few_facts b.lays
  refine ⟨by simp only [fewB]; omega, fun R hR => ?_⟩
  obtain ⟨h3, h4⟩ := h2 R hR
  exact ⟨by omega, fun w hw => by have := h4 w hw; omega⟩
theorem map_take_get {α β : Type} (f : α → β) {l : List α} {k : Nat} {x : α} (h : l[k]? = some x) : (l.take (k + 1)).map f = (l.take k).map f ++ [f x] := by
  rw [take_get h, List.map_append]; rfl
set_option maxHeartbeats 4000000 in
theorem few_ok (b : Bench) : PC Tryz.prog 5 [.agg b.row] (.p (.agg (fewB b).row)) := by
  have hB : (fewB b).row = Bench.row { b with lays := fewL b.lays } := rfl
  rw [hB]
  generalize hF : fewL b.lays = F at *
  refine pc_of_awp cx (fn := Tryz.f5) (c := _) Tryz.func5 rfl rfl (Nat.le_of_ble_eq_true rfl) ?_
  rw [Tryz.ntmps5]; refine Nav.imp ?_
  refine awp_region cx [] fun K hK => ?_
  simp [push_cast]
  repeat (refine And.intro (by clear hK; intros; first | omega | (simp_all; done) | (simp_all <;> omega)) ?_)
  refine hK _ ?_; clear hK K; refine Nav.imp ?_
  refine awp_region cx [] fun K hK => ?_
  simp [push_cast]
  repeat (refine And.intro (by clear hK; intros; first | omega | (simp_all; done) | (simp_all <;> omega)) ?_)
  refine hK _ ?_; clear hK K; refine Nav.imp ?_
  refine awp_region cx [] fun K hK => ?_
  simp [push_cast]
  repeat (refine And.intro (by clear hK; intros; first | omega | (simp_all; done) | (simp_all <;> omega)) ?_)
  refine hK _ ?_; clear hK K; refine Nav.imp ?_
  refine awp_loop (β := Nat × List (List Row)) (fun z => ⟨64, [(1, .ptr 0 0 0), (2, .ptr 1 0 0), (3, .hs 2 0 z.2.length), (4, .d (.int .i64 z.1))], [(0, some ⟨30, 22, [b.row.map .d]⟩), (1, some ⟨30, 22, benchZ⟩), (2, some ⟨48, 1, dr (z.2.map regRow)⟩)], 3⟩) (fun z => z.1 ≤ b.lays.length ∧ z.1 ≤ 6 ∧ z.2 = (b.lays.take z.1).map fewR) (fun z => 6 - z.1) (0, []) ?_ ⟨Nat.zero_le _, by omega, by simp⟩ ?_
  · refine weak_of [(0, some 0), (1, some 1), (2, none)] rfl (by simp [upT, up, upL, push_cast]) (by simp [upH, upR, upL, up, push_cast]) (by simp [namesOk, push_cast]) (by simp [olds])
  · rintro ⟨i, G⟩ ⟨hi, hi6, hG⟩
    simp only at hi hi6 hG
    refine Nav.imp ?_
    refine awp_region cx [] fun K hK => ?_
    simp [push_cast]
    repeat (refine And.intro (by clear hK; intros; first | omega | (simp_all; done) | (simp_all <;> omega)) ?_)
    refine hK _ ?_; clear hK K; refine Nav.imp ?_
    refine awp_cond (b := decide (i < b.lays.length) && decide ((i : Int) < 6)) (by simp [push_cast]) (fun hb => ?_) (fun hb => ?_) <;> (refine Nav.imp ?_)
    · obtain ⟨hlt, hl6⟩ : i < b.lays.length ∧ i < 6 := by simp at hb; omega
      obtain ⟨R, hR⟩ := getq hlt
      have e0 := wrap_i64 (n := (i : Int) + 1) (by omega) (by omega)
      have hGl : G.length ≤ 6 := by rw [hG]; simp; omega
      have h24 : (G.length + 1) * 24 ≤ 140737488355328 := by omega
      have hGn := map_take_get fewR hR
      rw [← hG] at hGn
      refine awp_region cx [] fun K hK => ?_
      simp [push_cast]
      repeat (refine And.intro (by clear hK; intros; first | omega | (simp_all; done) | (simp_all <;> omega)) ?_)
      refine hK _ ?_; clear hK K; refine Nav.imp ?_
      refine awp_region cx [] fun K hK => ?_
      simp [push_cast]
      repeat (refine And.intro (by clear hK; intros; first | omega | (simp_all; done) | (simp_all <;> omega)) ?_)
      refine hK _ ?_; clear hK K; refine Nav.imp ?_
      refine awp_loop (β := Nat × List Row) (fun z => ⟨64, [(1, .ptr 0 0 0), (2, .ptr 1 0 0), (3, .hs 2 0 G.length), (4, .d (.int .i64 i)), (5, .ptr 3 0 0), (6, .d (.int .i64 z.1))], [(0, some ⟨30, 22, [b.row.map .d]⟩), (1, some ⟨30, 22, benchZ⟩), (2, some ⟨48, 1, dr (G.map regRow)⟩), (3, some ⟨48, 1, [[.hs 4 0 z.2.length]]⟩), (4, some ⟨51, 2, dr (z.2.map Row.row)⟩)], 5⟩) (fun z => z.1 ≤ R.length ∧ z.1 ≤ 8 ∧ z.2 = (R.take z.1).map cutW) (fun z => 8 - z.1) (0, []) ?_ ⟨Nat.zero_le _, by omega, by simp⟩ ?_
      · refine weak_of [(0, some 0), (1, some 1), (2, some 2), (3, some 12), (4, none)] rfl (by simp [upT, up, upL, push_cast]) (by simp [upH, upR, upL, up, push_cast]) (by simp [namesOk, push_cast]) (by simp [olds])
      · rintro ⟨k, X⟩ ⟨hk, hk8, hX⟩
        simp only at hk hk8 hX
        refine Nav.imp ?_
        refine awp_region cx [] fun K hK => ?_
        simp [push_cast, hR]
        repeat (refine And.intro (by clear hK; intros; first | omega | (simp_all; done) | (simp_all <;> omega)) ?_)
        refine hK _ ?_; clear hK K; refine Nav.imp ?_
        refine awp_cond (b := decide (k < R.length) && decide ((k : Int) < 8)) (by simp [push_cast]) (fun hb => ?_) (fun hb => ?_) <;> (refine Nav.imp ?_)
        · obtain ⟨hlk, hl8⟩ : k < R.length ∧ k < 8 := by simp at hb; omega
          obtain ⟨w, hw⟩ := getq hlk
          have e1 := wrap_i64 (n := (k : Int) + 1) (by omega) (by omega)
          have hXl : X.length ≤ 8 := by rw [hX]; simp; omega
          have h32 : (X.length + 1) * 32 ≤ 140737488355328 := by omega
          have hnx := map_take_get cutW hw
          rw [← hX] at hnx
          refine awp_region cx [] fun K hK => ?_
          simp [push_cast, hR, hw, Row.row]
          repeat (refine And.intro (by clear hK; intros; first | omega | (simp_all; done) | (simp_all <;> omega)) ?_)
          refine hK _ ?_; clear hK K; refine Nav.imp ?_
          refine awp_region cx [] fun K hK => ?_
          simp [push_cast]
          repeat (refine And.intro (by clear hK; intros; first | omega | (simp_all; done) | (simp_all <;> omega)) ?_)
          refine hK _ ?_; clear hK K; refine Nav.imp ?_
          by_cases q : (4 : Int) < w.runs.length
          · have hc : cutW w = ⟨w.y, w.runs.take 4⟩ := rfl
            rw [hc] at hnx
            have q4 : 4 ≤ w.runs.length := by omega
            have hm : List.take 4 (w.runs.map Run.row) = (w.runs.take 4).map Run.row := (List.map_take ..).symm
            generalize w.runs.take 4 = U at *
            refine awp_cond (b := true) (by simp [push_cast, q]) (fun hb => ?_) (fun hb => ?_) <;> (refine Nav.imp ?_)
            · refine awp_region cx [] fun K hK => ?_
              simp [push_cast, q, q4, hm]
              repeat (refine And.intro (by clear hK; intros; first | omega | (simp_all; done) | (simp_all <;> omega)) ?_)
              refine hK _ ?_; clear hK K; refine Nav.imp ?_
              refine awp_region cx [] fun K hK => ?_
              simp [push_cast, h32, Row.row]
              repeat (refine And.intro (by clear hK; intros; first | omega | (simp_all; done) | (simp_all <;> omega)) ?_)
              refine hK _ ?_; clear hK K; refine Nav.imp ?_
              refine awp_region cx [] fun K hK => ?_
              simp [push_cast, e1]
              repeat (refine And.intro (by clear hK; intros; first | omega | (simp_all; done) | (simp_all <;> omega)) ?_)
              refine hK _ ?_; clear hK K; refine Nav.imp ?_
              refine ⟨(k + 1, X ++ [⟨w.y, U⟩]), ⟨hlk, by simp only; omega, hnx.symm⟩, by simp only; omega, ?_⟩
              refine weak_of [(0, some 0), (1, some 1), (2, some 2), (3, some 3), (4, some 42)] rfl (by simp [upT, up, upL, push_cast, Row.row]) (by simp [upH, upR, upL, up, push_cast, Row.row]) (by simp [namesOk, push_cast]) (by simp [olds])
            · simp at hb
          · have q' : ((w.runs.length : Int) ≤ 4) := by omega
            refine awp_cond (b := false) (by simp [push_cast, q']) (fun hb => ?_) (fun hb => ?_) <;> (refine Nav.imp ?_)
            · simp at hb
            · have ht : w.runs.take 4 = w.runs := List.take_of_length_le (by omega)
              have hc : cutW w = w := by simp only [cutW, ht]
              rw [hc] at hnx
              refine awp_region cx [] fun K hK => ?_
              simp [push_cast, h32, Row.row]
              repeat (refine And.intro (by clear hK; intros; first | omega | (simp_all; done) | (simp_all <;> omega)) ?_)
              refine hK _ ?_; clear hK K; refine Nav.imp ?_
              refine awp_region cx [] fun K hK => ?_
              simp [push_cast, e1]
              repeat (refine And.intro (by clear hK; intros; first | omega | (simp_all; done) | (simp_all <;> omega)) ?_)
              refine hK _ ?_; clear hK K; refine Nav.imp ?_
              refine ⟨(k + 1, X ++ [w]), ⟨hlk, by simp only; omega, hnx.symm⟩, by simp only; omega, ?_⟩
              refine weak_of [(0, some 0), (1, some 1), (2, some 2), (3, some 3), (4, some 37)] rfl (by simp [upT, up, upL, push_cast, Row.row]) (by simp [upH, upR, upL, up, push_cast, Row.row]) (by simp [namesOk, push_cast]) (by simp [olds])
        · have hex : X = fewR R := by
            rw [hX]
            unfold fewR
            by_cases q : k = 8
            · subst q; rfl
            · have : k = R.length := by
                simp at hb; omega
              subst this
              rw [List.take_length, List.take_of_length_le (by omega)]
          refine awp_freeze 4 (X.map Row.row) rfl (by simp [push_cast]) fun K hK => ?_
          simp [push_cast, St.fz, fzT, fzH, fzO, fz, fzL, fzR, fzR_dr, fzR_app, fzR_set, fzL_map]
          refine hK _ ?_; clear hK K; refine Nav.imp ?_
          refine awp_region cx [] fun K hK => ?_
          simp [push_cast, h24]
          repeat (refine And.intro (by clear hK; intros; first | omega | (simp_all; done) | (simp_all <;> omega)) ?_)
          refine hK _ ?_; clear hK K; refine Nav.imp ?_
          refine awp_region cx [] fun K hK => ?_
          simp [push_cast, e0]
          repeat (refine And.intro (by clear hK; intros; first | omega | (simp_all; done) | (simp_all <;> omega)) ?_)
          refine hK _ ?_; clear hK K; refine Nav.imp ?_
          refine ⟨(i + 1, G ++ [X]), ⟨hlt, by simp only; omega, by rw [hGn, hex]⟩, by simp only; omega, ?_⟩
          refine weak_of [(0, some 0), (1, some 1), (2, some 21)] rfl (by simp [upT, up, upL, push_cast]) (by simp [upH, upR, upL, up, push_cast]) (by simp [namesOk, push_cast]) (by simp [olds])
    · have hex : G = F := by
        rw [← hF, hG]; unfold fewL
        by_cases q : i = 6
        · subst q; rfl
        · have : i = b.lays.length := by
            simp at hb; omega
          subst this
          rw [List.take_length, List.take_of_length_le (by omega)]
      subst hex
      refine awp_region cx [] fun K hK => ?_
      simp [push_cast]
      repeat (refine And.intro (by clear hK; intros; first | omega | (simp_all; done) | (simp_all <;> omega)) ?_)
      refine hK _ ?_; clear hK K; refine Nav.imp ?_
      refine awp_region cx [] fun K hK => ?_
      simp [push_cast]
      repeat (refine And.intro (by clear hK; intros; first | omega | (simp_all; done) | (simp_all <;> omega)) ?_)
      refine hK _ ?_; clear hK K; refine Nav.imp ?_
      simp [push_cast]
end Go.Proofs.YtlfbjflfbjkbeaaGreat

namespace Go.Proofs.YtlfbjflfbjkbeaaGreat
open Go.Abs

theorem runs55_ok (l : List Run) (hl : l.length ≤ 1000000) : PC Tryz.prog 14 [encRuns l, encRuns l] (.p (.bool true)) := by
  refine pc_of_awp cx (fn := Tryz.f14) (c := _) Tryz.func14 rfl rfl (Nat.le_of_ble_eq_true rfl) ?_
  rw [Tryz.ntmps14]; refine Nav.imp ?_
  refine awp_region cx [] fun K hK => ?_
  simp [push_cast]
  repeat (refine And.intro (by clear hK; intros; first | omega | (simp_all; done) | (simp_all <;> omega)) ?_)
  refine hK _ ?_; clear hK K; refine Nav.imp ?_
  refine awp_region cx [] fun K hK => ?_
  simp [push_cast]
  repeat (refine And.intro (by clear hK; intros; first | omega | (simp_all; done) | (simp_all <;> omega)) ?_)
  refine hK _ ?_; clear hK K; refine Nav.imp ?_
  refine awp_cond (b := false) (by simp [push_cast]) (fun hb => ?_) (fun hb => ?_) <;> (refine Nav.imp ?_)
  · simp at hb
  · refine awp_region cx [] fun K hK => ?_
    simp [push_cast]
    repeat (refine And.intro (by clear hK; intros; first | omega | (simp_all; done) | (simp_all <;> omega)) ?_)
    refine hK _ ?_; clear hK K; refine Nav.imp ?_
    refine awp_loop (β := Nat) (fun i => ⟨26, [(0, .d (encRuns l)), (1, .d (encRuns l)), (5, .d (.int .i64 i))], [], 0⟩) (fun i => i ≤ l.length) (fun i => l.length - i) 0 ?_ (Nat.zero_le _) ?_
    · refine weak_of [] rfl (by simp [upT, up, upL, push_cast]) (by simp [upH, upR, upL, up, push_cast]) (by simp [namesOk, push_cast]) (by simp [olds])
    · rintro i hi
      refine Nav.imp ?_
      refine awp_region cx [] fun K hK => ?_
      simp [push_cast]
      repeat (refine And.intro (by clear hK; intros; first | omega | (simp_all; done) | (simp_all <;> omega)) ?_)
      refine hK _ ?_; clear hK K; refine Nav.imp ?_
      refine awp_cond (b := decide (i < l.length)) (by simp [push_cast]) (fun hb => ?_) (fun hb => ?_) <;> (refine Nav.imp ?_)
      · have hlt : i < l.length := by simpa using hb
        obtain ⟨r, hr⟩ := getq hlt
        have e0 := wrap_i64 (n := (i : Int) + 1) (by omega) (by omega)
        refine awp_region_draw cx mixed [] fun K hK => ?_
        simp [push_cast, hr, Run.row]
        repeat (refine And.intro (by clear hK; intros; first | omega | (simp_all; done) | (simp_all <;> omega)) ?_)
        refine hK _ _ (by kernel_rfl) ?_; clear hK K; refine Nav.imp ?_
        refine awp_cond (b := false) (by simp [push_cast]) (fun hb => ?_) (fun hb => ?_) <;> (refine Nav.imp ?_)
        · simp at hb
        · refine awp_region cx [] fun K hK => ?_
          simp [push_cast, e0]
          repeat (refine And.intro (by clear hK; intros; first | omega | (simp_all; done) | (simp_all <;> omega)) ?_)
          refine hK _ ?_; clear hK K; refine Nav.imp ?_
          refine ⟨i + 1, hlt, by omega, ?_⟩
          refine weak_of [] rfl (by simp [upT, up, upL, push_cast]) (by simp [upH, upR, upL, up, push_cast]) (by simp [namesOk, push_cast]) (by simp [olds])
      · refine awp_region cx [] fun K hK => ?_
        simp [push_cast]
        repeat (refine And.intro (by clear hK; intros; first | omega | (simp_all; done) | (simp_all <;> omega)) ?_)
        refine hK _ ?_; clear hK K; refine Nav.imp ?_
        simp [push_cast]
set_option maxHeartbeats 4000000 in
theorem rsame55_ok (b : Bench) (h0 : b.lays = []) : PC Tryz.prog 15 [.agg b.row, .agg b.row] (.p (.bool true)) := by
  refine pc_of_awp cx (fn := Tryz.f15) (c := _) Tryz.func15 rfl rfl (Nat.le_of_ble_eq_true rfl) ?_
  rw [Tryz.ntmps15]; refine Nav.imp ?_
  refine awp_region cx [] fun K hK => ?_
  simp [push_cast]
  repeat (refine And.intro (by clear hK; intros; first | omega | (simp_all; done) | (simp_all <;> omega)) ?_)
  refine hK _ ?_; clear hK K; refine Nav.imp ?_
  refine awp_region cx [] fun K hK => ?_
  simp [push_cast, h0]
  repeat (refine And.intro (by clear hK; intros; first | omega | (simp_all; done) | (simp_all <;> omega)) ?_)
  refine hK _ ?_; clear hK K; refine Nav.imp ?_
  refine awp_cond (b := false) (by simp [push_cast]) (fun hb => ?_) (fun hb => ?_) <;> (refine Nav.imp ?_)
  · simp at hb
  · refine awp_region cx [] fun K hK => ?_
    simp [push_cast]
    repeat (refine And.intro (by clear hK; intros; first | omega | (simp_all; done) | (simp_all <;> omega)) ?_)
    refine hK _ ?_; clear hK K; refine Nav.imp ?_
    refine awp_loop (β := Unit) (fun _ => ⟨95, [(2, .ptr 0 0 0), (3, .ptr 1 0 0), (5, .d (.int .i64 0))], [(0, some ⟨30, 22, [b.row.map .d]⟩), (1, some ⟨30, 22, [b.row.map .d]⟩)], 2⟩) (fun _ => True) (fun _ => 0) () ?_ trivial ?_
    · refine weak_of [(0, some 0), (1, some 1)] rfl (by simp [upT, up, upL, push_cast, h0]) (by simp [upH, upR, upL, up, push_cast, h0]) (by simp [namesOk, push_cast]) (by simp [olds])
    · rintro _ _
      refine Nav.imp ?_
      refine awp_region cx [] fun K hK => ?_
      simp [push_cast, h0]
      repeat (refine And.intro (by clear hK; intros; first | omega | (simp_all; done) | (simp_all <;> omega)) ?_)
      refine hK _ ?_; clear hK K; refine Nav.imp ?_
      refine awp_cond (b := false) (by simp [push_cast]) (fun hb => ?_) (fun hb => ?_) <;> (refine Nav.imp ?_)
      · simp at hb
      · refine awp_region cx [] fun K hK => ?_
        simp [push_cast]
        repeat (refine And.intro (by clear hK; intros; first | omega | (simp_all; done) | (simp_all <;> omega)) ?_)
        refine hK _ ?_; clear hK K; refine Nav.imp ?_
        simp [push_cast]
set_option maxHeartbeats 4000000 in
theorem same55_ok (b : Bench) (hL : smallL b.lays) : PC Tryz.prog 6 [.agg b.row, .agg b.row] (.p (.bool true)) := by
  obtain ⟨hlen, hsm⟩ := hL
  have c1 := rsame55_ok { b with lays := [] } rfl
  refine pc_of_awp cx (fn := Tryz.f6) (c := _) Tryz.func6 rfl rfl (Nat.le_of_ble_eq_true rfl) ?_
  rw [Tryz.ntmps6]; refine Nav.imp ?_
  refine awp_region cx [] fun K hK => ?_
  simp [push_cast]
  repeat (refine And.intro (by clear hK; intros; first | omega | (simp_all; done) | (simp_all <;> omega)) ?_)
  refine hK _ ?_; clear hK K; refine Nav.imp ?_
  refine awp_region cx [] fun K hK => ?_
  simp [push_cast]
  repeat (refine And.intro (by clear hK; intros; first | omega | (simp_all; done) | (simp_all <;> omega)) ?_)
  refine hK _ ?_; clear hK K; refine Nav.imp ?_
  refine awp_cond (b := false) (by simp [push_cast]) (fun hb => ?_) (fun hb => ?_) <;> (refine Nav.imp ?_)
  · simp at hb
  · refine awp_region cx [] fun K hK => ?_
    simp [push_cast]
    repeat (refine And.intro (by clear hK; intros; first | omega | (simp_all; done) | (simp_all <;> omega)) ?_)
    refine hK _ ?_; clear hK K; refine Nav.imp ?_
    refine awp_loop (β := Nat) (fun i => ⟨76, [(2, .ptr 0 0 0), (3, .ptr 1 0 0), (5, .d (.int .i64 i))], [(0, some ⟨30, 22, [b.row.map .d]⟩), (1, some ⟨30, 22, [b.row.map .d]⟩)], 2⟩) (fun i => i ≤ b.lays.length) (fun i => b.lays.length - i) 0 ?_ (Nat.zero_le _) ?_
    · refine weak_of [(0, some 0), (1, some 1)] rfl (by simp [upT, up, upL, push_cast]) (by simp [upH, upR, upL, up, push_cast]) (by simp [namesOk, push_cast]) (by simp [olds])
    · rintro i hi
      refine Nav.imp ?_
      refine awp_region cx [] fun K hK => ?_
      simp [push_cast]
      repeat (refine And.intro (by clear hK; intros; first | omega | (simp_all; done) | (simp_all <;> omega)) ?_)
      refine hK _ ?_; clear hK K; refine Nav.imp ?_
      refine awp_cond (b := decide (i < b.lays.length)) (by simp [push_cast]) (fun hb => ?_) (fun hb => ?_) <;> (refine Nav.imp ?_)
      · have hlt : i < b.lays.length := by simpa using hb
        obtain ⟨R, hR⟩ := getq hlt
        obtain ⟨s1, s2⟩ := hsm R (List.mem_of_getElem? hR)
        have e0 := wrap_i64 (n := (i : Int) + 1) (by omega) (by omega)
        refine awp_region cx [] fun K hK => ?_
        simp [push_cast, hR]
        repeat (refine And.intro (by clear hK; intros; first | omega | (simp_all; done) | (simp_all <;> omega)) ?_)
        refine hK _ ?_; clear hK K; refine Nav.imp ?_
        refine awp_region cx [] fun K hK => ?_
        simp [push_cast, hR]
        repeat (refine And.intro (by clear hK; intros; first | omega | (simp_all; done) | (simp_all <;> omega)) ?_)
        refine hK _ ?_; clear hK K; refine Nav.imp ?_
        refine awp_region cx [] fun K hK => ?_
        simp [push_cast]
        repeat (refine And.intro (by clear hK; intros; first | omega | (simp_all; done) | (simp_all <;> omega)) ?_)
        refine hK _ ?_; clear hK K; refine Nav.imp ?_
        refine awp_cond (b := false) (by simp [push_cast]) (fun hb => ?_) (fun hb => ?_) <;> (refine Nav.imp ?_)
        · simp at hb
        · refine awp_region cx [] fun K hK => ?_
          simp [push_cast]
          repeat (refine And.intro (by clear hK; intros; first | omega | (simp_all; done) | (simp_all <;> omega)) ?_)
          refine hK _ ?_; clear hK K; refine Nav.imp ?_
          refine awp_loop (β := Nat) (fun k => ⟨76, [(2, .ptr 0 0 0), (3, .ptr 1 0 0), (5, .d (.int .i64 i)), (6, .d (encRows R)), (7, .d (encRows R)), (8, .d (.int .i64 k))], [(0, some ⟨30, 22, [b.row.map .d]⟩), (1, some ⟨30, 22, [b.row.map .d]⟩)], 2⟩) (fun k => k ≤ R.length) (fun k => R.length - k) 0 ?_ (Nat.zero_le _) ?_
          · refine weak_of [(0, some 0), (1, some 1)] rfl (by simp [upT, up, upL, push_cast]) (by simp [upH, upR, upL, up, push_cast]) (by simp [namesOk, push_cast]) (by simp [olds])
          · rintro k hk
            refine Nav.imp ?_
            refine awp_region cx [] fun K hK => ?_
            simp [push_cast]
            repeat (refine And.intro (by clear hK; intros; first | omega | (simp_all; done) | (simp_all <;> omega)) ?_)
            refine hK _ ?_; clear hK K; refine Nav.imp ?_
            refine awp_cond (b := decide (k < R.length)) (by simp [push_cast]) (fun hb => ?_) (fun hb => ?_) <;> (refine Nav.imp ?_)
            · have hlk : k < R.length := by simpa using hb
              obtain ⟨w, hw⟩ := getq hlk
              have e1 := wrap_i64 (n := (k : Int) + 1) (by omega) (by omega)
              have c2 := runs55_ok w.runs (s2 w (List.mem_of_getElem? hw))
              refine awp_region_draw cx mixed [(22, .p (.bool true))] fun K hK => ?_
              simp [push_cast, hw, c2, Row.row]
              repeat (refine And.intro (by clear hK; intros; first | omega | (simp_all; done) | (simp_all <;> omega)) ?_)
              refine hK _ _ (by kernel_rfl) ?_; clear hK K; refine Nav.imp ?_
              refine awp_cond (b := false) (by simp [push_cast]) (fun hb => ?_) (fun hb => ?_) <;> (refine Nav.imp ?_)
              · simp at hb
              · refine awp_region cx [] fun K hK => ?_
                simp [push_cast, e1]
                repeat (refine And.intro (by clear hK; intros; first | omega | (simp_all; done) | (simp_all <;> omega)) ?_)
                refine hK _ ?_; clear hK K; refine Nav.imp ?_
                refine ⟨k + 1, hlk, by omega, ?_⟩
                refine weak_of [(0, some 0), (1, some 1)] rfl (by simp [upT, up, upL, push_cast]) (by simp [upH, upR, upL, up, push_cast]) (by simp [namesOk, push_cast]) (by simp [olds])
            · refine awp_region cx [] fun K hK => ?_
              simp [push_cast, e0]
              repeat (refine And.intro (by clear hK; intros; first | omega | (simp_all; done) | (simp_all <;> omega)) ?_)
              refine hK _ ?_; clear hK K; refine Nav.imp ?_
              refine ⟨i + 1, hlt, by omega, ?_⟩
              refine weak_of [(0, some 0), (1, some 1)] rfl (by simp [upT, up, upL, push_cast]) (by simp [upH, upR, upL, up, push_cast]) (by simp [namesOk, push_cast]) (by simp [olds])
      · refine awp_region cx [] fun K hK => ?_
        simp [push_cast]
        repeat (refine And.intro (by clear hK; intros; first | omega | (simp_all; done) | (simp_all <;> omega)) ?_)
        refine hK _ ?_; clear hK K; refine Nav.imp ?_
        refine awp_region cx [] fun K hK => ?_
        simp [push_cast]
        repeat (refine And.intro (by clear hK; intros; first | omega | (simp_all; done) | (simp_all <;> omega)) ?_)
        refine hK _ ?_; clear hK K; refine Nav.imp ?_
        simp only [Bench.row, encLays, List.map_nil] at c1
        refine awp_region cx [(2, .p (.bool true))] fun K hK => ?_
        simp [push_cast, c1]
        repeat (refine And.intro (by clear hK; intros; first | omega | (simp_all; done) | (simp_all <;> omega)) ?_)
        refine hK _ ?_; clear hK K; refine Nav.imp ?_
        simp [push_cast]
end Go.Proofs.YtlfbjflfbjkbeaaGreat
