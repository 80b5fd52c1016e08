/-
  Texts of this seat put together: T6, B2, X3, X6, AbsZ, X4, X5, AbsY.
-/
import Derived.Test.YtknelhiejjdioaaI7
import Derived.Test.YtknelhiejjdioaaI6
import Derived.Test.YtknelhiejjdioaaJ5
import Derived.Test.YtknelhiejjdioaaJ3
import Derived.Test.YtknelhiejjdioaaJ4
import Derived.Shelf.Sort.Plain
import Derived.Shelf.Slices.In.SortNone
import Derived.Shelf.Slices.CompactI
import Derived.Lib.RowBridge
import Derived.Test.YtknelhiejjdioaaChecked
set_option linter.unusedVariables false
set_option linter.unusedSimpArgs false
namespace Go.Proofs.Ytknelhiejjdioaa
open Go.Abs

/-! The sort of package region. -/
def cfD : List D → List D → Int
  | [.int _ ax, .int _ ay], [.int _ bx, .int _ by'] => orI (cmpI ay by') (cmpI ax bx)
  | _, _ => 0
theorem orI_lt (a b c d : Int) : orI (cmpI a b) (cmpI c d) < 0 ↔ a < b ∨ a = b ∧ c < d := by
  unfold orI cmpI
  split <;> (try split) <;> (try split) <;> (try split) <;> omega
theorem cfD_bef (a b : Cell) : cfD a.row b.row < 0 ↔ bef a b = true := by
  obtain ⟨ax, ay⟩ := a
  obtain ⟨bx, b'⟩ := b
  simp only [cfD, Cell.row, orI_lt, bef]
  simp
theorem cfD_ok : CmpOk Try.prog 79 VC cfD := by
  refine cmp_of_pc ?_
  rintro _ _ ⟨a, rfl, _⟩ ⟨b, rfl, _⟩
  have := ofCmp_ok a b
  exact this
theorem cfD_ord : CmpOrd VC cfD where
  irrefl := by rintro _ ⟨a, rfl, _⟩; rw [cfD_bef]; simp [bef]
  trans := by
    rintro _ _ _ ⟨a, rfl, _⟩ ⟨b, rfl, _⟩ ⟨c, rfl, _⟩
    rw [cfD_bef, cfD_bef, cfD_bef]
    simp [bef]; omega
  ntrans := by
    rintro _ _ _ ⟨a, rfl, _⟩ ⟨b, rfl, _⟩ ⟨c, rfl, _⟩
    rw [cfD_bef, cfD_bef, cfD_bef]
    simp [bef]; omega
theorem sortO_px (l : List Cell) (hon : ∀ c ∈ l, onG c = true) (hl : l.length ≤ 1000000) : PX Try.prog 60 [.hs 0 0 l.length, .d (.fn (.func 79) [])] [(0, ⟨31, 2, dr (l.map Cell.row)⟩)] [(0, 0)] [(0, ⟨31, 2, dr ((sortY l).map Cell.row)⟩)] (.tup []) := by
  have h := sortFunc_all (P := Try.prog) sortCell_lays (k := 2) (by decide) (fun w => by kernel_rfl) (fun w => by kernel_rfl) ⟨_, Try.func60, by kernel_rfl, by kernel_rfl⟩ (cg := 79) (fun args w => by kernel_rfl) cfD_ok cfD_ord 31 (rows := l.map Cell.row) (rows' := (sortY l).map Cell.row)
    (fun r hr => by obtain ⟨c, hc, rfl⟩ := List.mem_map.1 hr; exact ⟨c, rfl, hon c hc⟩)
    (fun a ha b hb h1 h2 => by
      obtain ⟨c, hc, rfl⟩ := List.mem_map.1 ha
      obtain ⟨d, hd, rfl⟩ := List.mem_map.1 hb
      rw [cfD_bef] at h1 h2
      have e : c = d := leY_anti (bef_leY (by simpa using h1)) (bef_leY (by simpa using h2))
      rw [e])
    ((sortY_perm l).map _) (by
      rw [List.pairwise_map]
      refine (sortY_le l).imp fun {a b} h => ?_
      rw [cfD_bef]
      simp [bef, leY] at *; omega) (by simp; omega)
  simp only [List.length_map] at h
  exact h

/-! The region of cells. -/
def ofTl : Option (Int × List Run) → List (List AV)
  | none => []
  | some (y, L) => [[.d (.int .i64 y), .hs 3 0 L.length]]
def ofRl : Option (Int × List Run) → List Run
  | none => []
  | some (_, L) => L
def ofX (P : List Row) : Option (Int × List Run) → List Row
  | none => P
  | some (y, L) => P ++ [⟨y, L⟩]

set_option maxHeartbeats 4000000 in
theorem of_ok (l : List Cell) (hl : l.length ≤ 1000000) : PC Try.prog 50 [encCells l] (.p (ofD l)) := by
  have hD : ofD l = .tup [.agg (regRow (ofR l)), .int .i64 (ofE l)] := rfl
  rw [hD]
  refine pc_of_awp cx (fn := Try.f50) (c := _) Try.func50 rfl rfl (Nat.le_of_ble_eq_true rfl) ?_
  rw [Try.ntmps50]; refine Nav.imp ?_
  refine awp_region cx [] fun K hK => ?_
  simp [push_cast]
  repeat (refine And.intro (by clear hK; intros; first | omega | (simp_all; done) | (simp_all <;> omega)) ?_)
  refine hK _ ?_; clear hK K; refine Nav.imp ?_
  refine awp_region cx [] fun K hK => ?_
  simp [push_cast]
  repeat (refine And.intro (by clear hK; intros; first | omega | (simp_all; done) | (simp_all <;> omega)) ?_)
  refine hK _ ?_; clear hK K; refine Nav.imp ?_
  refine awp_loop (β := Nat) (fun k => ⟨124, [(0, .d (encCells l)), (2, .ptr 0 0 0), (3, .d (.int .i64 0)), (13, .d (encCells l)), (14, .d (.int .i64 l.length)), (15, .d (.int .i64 k))], [(0, some ⟨24, 1, [[.nl]]⟩)], 1⟩) (fun k => k ≤ l.length ∧ ∀ c ∈ l.take k, onG c = true) (fun k => l.length - k) 0 ?_ ⟨Nat.zero_le _, by simp⟩ ?_
  · refine weak_of [(0, some 0)] rfl (by simp [upT, up, upL, push_cast]) (by simp [upH, upR, upL, up, push_cast]) (by simp [namesOk, push_cast]) (by simp [olds])
  · rintro k ⟨hk, hon⟩
    refine Nav.imp ?_
    refine awp_region cx [] fun K hK => ?_
    simp [push_cast]
    repeat (refine And.intro (by clear hK; intros; first | omega | (simp_all; done) | (simp_all <;> omega)) ?_)
    refine hK _ ?_; clear hK K; refine Nav.imp ?_
    refine awp_cond (b := decide ((k : Int) < l.length)) (by simp [push_cast]) (fun hb => ?_) (fun hb => ?_) <;> (refine Nav.imp ?_)
    · have hlt : k < l.length := by simpa using hb
      obtain ⟨c, hc⟩ := getq hlt
      have e0 := wrap_i64 (n := (k : Int) + 1) (by omega) (by omega)
      have c1 := ok_ok c.x
      have c2 := ok_ok c.y
      have hv : onG c = (okB c.x && okB c.y) := by simp [onG, okB, Bool.and_assoc]
      have hbad : onG c = false → ofR l = [] ∧ ofE l = 8 := fun h => by
        have hall : l.all onG = false := by
          rw [Bool.eq_false_iff]
          intro h'
          have := List.all_eq_true.1 h' c (List.mem_of_getElem? hc)
          rw [h] at this; cases this
        exact ⟨by simp [ofR, hall], by simp [ofE, hall]⟩
      obtain ⟨x, y⟩ := c
      simp only at c1 c2 hv
      generalize okB x = p at *
      generalize okB y = q at *
      refine awp_region cx [] fun K hK => ?_
      simp [push_cast, hc]
      repeat (refine And.intro (by clear hK; intros; first | omega | (simp_all; done) | (simp_all <;> omega)) ?_)
      refine hK _ ?_; clear hK K; refine Nav.imp ?_
      cases p with
      | false =>
        obtain ⟨h1, h2⟩ := hbad (by rw [hv]; rfl)
        rw [h1, h2]
        refine awp_region cx [(2, .p (.bool false)), (7, .skip)] fun K hK => ?_
        simp [push_cast, c1]
        repeat (refine And.intro (by clear hK; intros; first | omega | (simp_all; done) | (simp_all <;> omega)) ?_)
        refine hK _ ?_; clear hK K; refine Nav.imp ?_
        refine awp_cond (b := true) (by simp [push_cast]) (fun hb => ?_) (fun hb => ?_) <;> (refine Nav.imp ?_)
        · refine awp_region cx [] fun K hK => ?_
          simp [push_cast]
          repeat (refine And.intro (by clear hK; intros; first | omega | (simp_all; done) | (simp_all <;> omega)) ?_)
          refine hK _ ?_; clear hK K; refine Nav.imp ?_
          simp [push_cast]
        · simp at hb
      | true =>
        refine awp_region cx [(2, .p (.bool true)), (7, .p (.bool q))] fun K hK => ?_
        simp [push_cast, c1, c2]
        repeat (refine And.intro (by clear hK; intros; first | omega | (simp_all; done) | (simp_all <;> omega)) ?_)
        refine hK _ ?_; clear hK K; refine Nav.imp ?_
        refine awp_cond (b := !q) (by simp [push_cast]) (fun hb => ?_) (fun hb => ?_) <;> (refine Nav.imp ?_)
        · simp at hb
          obtain ⟨h1, h2⟩ := hbad (by rw [hv, hb]; rfl)
          rw [h1, h2]
          refine awp_region cx [] fun K hK => ?_
          simp [push_cast]
          repeat (refine And.intro (by clear hK; intros; first | omega | (simp_all; done) | (simp_all <;> omega)) ?_)
          refine hK _ ?_; clear hK K; refine Nav.imp ?_
          simp [push_cast]
        · simp at hb
          refine awp_region cx [] fun K hK => ?_
          simp [push_cast, e0]
          repeat (refine And.intro (by clear hK; intros; first | omega | (simp_all; done) | (simp_all <;> omega)) ?_)
          refine hK _ ?_; clear hK K; refine Nav.imp ?_
          refine ⟨k + 1, ⟨hlt, fun d hd => ?_⟩, by omega, ?_⟩
          · rw [take_get hc] at hd
            rcases List.mem_append.1 hd with hd | hd
            · exact hon d hd
            · simp at hd; subst hd; rw [hv, hb]; rfl
          · refine weak_of [(0, some 0)] rfl (by simp [upT, up, upL, push_cast]) (by simp [upH, upR, upL, up, push_cast]) (by simp [namesOk, push_cast]) (by simp [olds])
    · have hge : k = l.length := by simp at hb; omega
      subst hge
      rw [List.take_length] at hon
      have hall : l.all onG = true := List.all_eq_true.2 hon
      have h1 : ofR l = build (sortY l) := by simp [ofR, hall]
      have h2 : ofE l = 0 := by simp [ofE, hall]
      have c1 := clone_ok l hl
      have c2 := sortO_px l hon hl
      have hslen : (sortY l).length = l.length := (sortY_perm l).length_eq
      have hson : ∀ c ∈ sortY l, onG c = true := fun c hc => hon c ((sortY_perm l).mem_iff.1 hc)
      rw [h1, h2]
      clear h1 h2 hb hall
      generalize sortY l = s at *
      refine awp_region cx [(1, .o 31 2 (l.map Cell.row))] fun K hK => ?_
      simp [push_cast, c1]
      repeat (refine And.intro (by clear hK; intros; first | omega | (simp_all; done) | (simp_all <;> omega)) ?_)
      refine hK _ ?_; clear hK K; refine Nav.imp ?_
      refine awp_region cx [(1, .x ⟨[(0, 3)], [.hs 0 0 l.length, .d (.fn (.func 79) [])], [(0, ⟨31, 2, dr (l.map Cell.row)⟩)], [(0, 0)], none, [(0, ⟨31, 2, dr (s.map Cell.row)⟩)], .tup []⟩)] fun K hK => ?_
      simp [push_cast, c2]
      repeat (refine And.intro (by clear hK; intros; first | omega | (simp_all; done) | (simp_all <;> omega)) ?_)
      refine hK _ ?_; clear hK K; refine Nav.imp ?_
      rw [← hslen]
      have hsl : s.length ≤ 1000000 := by omega
      refine awp_freeze 3 (s.map Cell.row) rfl (by simp [push_cast]) fun K hK => ?_
      simp [push_cast, St.fz, fzT, fzH, fzO, fz, fzL, fzR, fzR_dr, fzR_app, fzR_set, fzL_map]
      refine hK _ ?_; clear hK K; refine Nav.imp ?_
      refine awp_region cx [] fun K hK => ?_
      simp [push_cast]
      repeat (refine And.intro (by clear hK; intros; first | omega | (simp_all; done) | (simp_all <;> omega)) ?_)
      refine hK _ ?_; clear hK K; refine Nav.imp ?_
      refine awp_region cx [] fun K hK => ?_
      simp [push_cast]
      repeat (refine And.intro (by clear hK; intros; first | omega | (simp_all; done) | (simp_all <;> omega)) ?_)
      refine hK _ ?_; clear hK K; refine Nav.imp ?_
      refine awp_loop (β := Nat × List Row × Option (Int × List Run)) (fun b => ⟨124, [(2, .ptr 0 0 0), (3, .d (.int .i64 0)), (7, .ptr 1 0 0), (35, .d (encCells s)), (36, .d (.int .i64 s.length)), (37, .d (.int .i64 b.1))], [(0, some ⟨24, 1, [[.nl]]⟩), (1, some ⟨24, 1, [[.hs 2 0 (b.2.1.length + (ofTl b.2.2).length)]]⟩), (2, some ⟨48, 2, dr (b.2.1.map Row.row) ++ ofTl b.2.2⟩), (3, some ⟨51, 2, dr ((ofRl b.2.2).map Run.row)⟩)], 4⟩)
        (fun b => b.1 ≤ s.length ∧ ofX b.2.1 b.2.2 = build (s.take b.1) ∧ (b.2.2 = none → b.2.1 = []) ∧ (∀ y L, b.2.2 = some (y, L) → L ≠ [])) (fun b => s.length - b.1) (0, [], none) ?_ ⟨Nat.zero_le _, by simp [ofX, build], fun _ => rfl, fun y L h => by cases h⟩ ?_
      · refine weak_of [(0, some 0), (1, some 7), (2, none), (3, none)] rfl (by simp [upT, up, upL, push_cast, ofTl, ofRl]) (by simp [upH, upR, upL, up, push_cast, ofTl, ofRl]) (by simp [namesOk, push_cast]) (by simp [olds])
      · rintro ⟨k, P, o⟩ ⟨hk, hX, hP0, hL0⟩
        simp only at hk hX hP0 hL0
        refine Nav.imp ?_
        refine awp_region cx [] fun K hK => ?_
        simp [push_cast, ofTl, ofRl]
        repeat (refine And.intro (by clear hK; intros; first | omega | (simp_all; done) | (simp_all <;> omega)) ?_)
        refine hK _ ?_; clear hK K; refine Nav.imp ?_
        refine awp_cond (b := decide ((k : Int) < s.length)) (by simp [push_cast]) (fun hb => ?_) (fun hb => ?_) <;> (refine Nav.imp ?_)
        · have hlt : k < s.length := by simpa using hb
          obtain ⟨c, hc⟩ := getq hlt
          have e0 := wrap_i64 (n := (k : Int) + 1) (by omega) (by omega)
          have hcg := onG_bd (hson c (List.mem_of_getElem? hc))
          have hnx : build (s.take (k + 1)) = addC (ofX P o) c := by rw [build_take hc, hX]
          have hsm := build_small (s.take k)
          rw [← hX] at hsm
          have hXl : (ofX P o).length ≤ 1000000 := by have := hsm.1; simp at this; omega
          have hXr : ∀ w ∈ ofX P o, w.runs.length ≤ 1000000 := fun w hw => by have := hsm.2 w hw; simp at this; omega
          clear hX hsm
          obtain ⟨x, y⟩ := c
          simp only at hcg
          have ex := wrap_i64 (n := x + 1) (by omega) (by omega)
          rcases o with _ | ⟨wy, L⟩
          · have hP := hP0 rfl
            subst hP
            simp only [ofX, addC_nil] at hnx
            refine awp_region cx [] fun K hK => ?_
            simp [push_cast, hc, ofTl, ofRl]
            repeat (refine And.intro (by clear hK; intros; first | omega | (simp_all; done) | (simp_all <;> omega)) ?_)
            refine hK _ ?_; clear hK K; refine Nav.imp ?_
            refine awp_region cx [] fun K hK => ?_
            simp [push_cast]
            repeat (refine And.intro (by clear hK; intros; first | omega | (simp_all; done) | (simp_all <;> omega)) ?_)
            refine hK _ ?_; clear hK K; refine Nav.imp ?_
            refine awp_region_draw cx mixed [] fun K hK => ?_
            simp [push_cast]
            repeat (refine And.intro (by clear hK; intros; first | omega | (simp_all; done) | (simp_all <;> omega)) ?_)
            refine hK _ _ (by kernel_rfl) ?_; clear hK K; refine Nav.imp ?_
            refine awp_cond (b := true) (by simp [push_cast]) (fun hb => ?_) (fun hb => ?_) <;> (refine Nav.imp ?_)
            · refine awp_region cx [] fun K hK => ?_
              simp [push_cast, ex]
              repeat (refine And.intro (by clear hK; intros; first | omega | (simp_all; done) | (simp_all <;> omega)) ?_)
              refine hK _ ?_; clear hK K; refine Nav.imp ?_
              refine awp_region cx [] fun K hK => ?_
              simp [push_cast, e0]
              repeat (refine And.intro (by clear hK; intros; first | omega | (simp_all; done) | (simp_all <;> omega)) ?_)
              refine hK _ ?_; clear hK K; refine Nav.imp ?_
              refine ⟨(k + 1, [], some (y, [⟨x, x + 1⟩])), ⟨hlt, hnx.symm, fun h => (by cases h), fun y L h => (by cases h; simp)⟩, by simp only; omega, ?_⟩
              refine weak_of [(0, some 0), (1, some 1), (2, some 40), (3, some 37)] rfl (by simp [upT, up, upL, push_cast, Row.row, Run.row, ofTl, ofRl]) (by simp [upH, upR, upL, up, push_cast, Row.row, Run.row, ofTl, ofRl]) (by simp [namesOk, push_cast]) (by simp [olds])
            · simp at hb
          · have hLne := hL0 wy L rfl
            simp only [ofX] at hnx hXl hXr
            rw [addC_end] at hnx
            have hLl := hXr ⟨wy, L⟩ (by simp)
            simp only at hnx hLl
            simp at hXl
            have hP32 : (P.length + 1 + 1) * 32 ≤ 140737488355328 := by omega
            have hL16 : (L.length + 1) * 16 ≤ 140737488355328 := by omega
            have hget : (dr (P.map Row.row) ++ [[AV.d (.int .i64 wy), AV.hs 3 0 L.length]])[P.length]? = some [AV.d (.int .i64 wy), AV.hs 3 0 L.length] := by
              rw [List.getElem?_append_right (by simp [dr])]; simp [dr]
            have hset : ∀ v, (dr (P.map Row.row) ++ [[AV.d (.int .i64 wy), AV.hs 3 0 L.length]]).set P.length v = dr (P.map Row.row) ++ [v] := fun v => by
              rw [List.set_append_right _ _ (by simp [dr])]; simp [dr]
            obtain ⟨A, hA⟩ : ∃ A, A = P ++ [(⟨wy, L⟩ : Row)] := ⟨_, rfl⟩
            have hfold : dr (P.map Row.row) ++ [[AV.d (.int .i64 wy), AV.d (.sl (L.map Run.row))]] = dr (A.map Row.row) := by rw [hA]; simp [dr, Row.row]
            have hAl : P.length + 1 = A.length := by rw [hA]; simp
            have e4 : ((P.length : Int) + 1 == 0) = false := by simp; omega
            have e6 := wrap_i64 (n := (P.length : Int)) (by omega) (by omega)
            refine awp_region cx [] fun K hK => ?_
            simp [push_cast, hc, ofTl, ofRl]
            repeat (refine And.intro (by clear hK; intros; first | omega | (simp_all; done) | (simp_all <;> omega)) ?_)
            refine hK _ ?_; clear hK K; refine Nav.imp ?_
            refine awp_region cx [] fun K hK => ?_
            simp [push_cast]
            repeat (refine And.intro (by clear hK; intros; first | omega | (simp_all; done) | (simp_all <;> omega)) ?_)
            refine hK _ ?_; clear hK K; refine Nav.imp ?_
            refine awp_region_draw cx mixed [] fun K hK => ?_
            simp [push_cast, hget, e4, e6]
            repeat (refine And.intro (by clear hK; intros; first | omega | (simp_all; done) | (simp_all <;> omega)) ?_)
            refine hK _ _ (by kernel_rfl) ?_; clear hK K; refine Nav.imp ?_
            refine awp_cond (b := wy != y) (by simp [push_cast, e4]) (fun hb => ?_) (fun hb => ?_) <;> (refine Nav.imp ?_)
            · have hb : ¬ wy = y := by simpa using hb
              rw [if_neg hb, ← hA] at hnx
              refine awp_freeze 3 (L.map Run.row) rfl (by simp [push_cast, hfold]) fun K hK => ?_
              simp [push_cast, St.fz, fzT, fzH, fzO, fz, fzL, fzR, fzR_dr, fzR_app, fzR_set, fzL_map, hfold]
              refine hK _ ?_; clear hK K; refine Nav.imp ?_
              rw [hAl] at hP32 ⊢
              clear hA hfold hget hset
              refine awp_region cx [] fun K hK => ?_
              simp [push_cast, ex, hP32]
              repeat (refine And.intro (by clear hK; intros; first | omega | (simp_all; done) | (simp_all <;> omega)) ?_)
              refine hK _ ?_; clear hK K; refine Nav.imp ?_
              refine awp_region cx [] fun K hK => ?_
              simp [push_cast, e0]
              repeat (refine And.intro (by clear hK; intros; first | omega | (simp_all; done) | (simp_all <;> omega)) ?_)
              refine hK _ ?_; clear hK K; refine Nav.imp ?_
              refine ⟨(k + 1, A, some (y, [⟨x, x + 1⟩])), ⟨hlt, hnx.symm, fun h => (by cases h), fun y L h => (by cases h; simp)⟩, by simp only; omega, ?_⟩
              refine weak_of [(0, some 0), (1, some 1), (2, some 40), (3, some 37)] rfl (by simp [upT, up, upL, push_cast, Row.row, Run.row, ofTl, ofRl]) (by simp [upH, upR, upL, up, push_cast, Row.row, Run.row, ofTl, ofRl]) (by simp [namesOk, push_cast]) (by simp [olds])
            · have hb : wy = y := by simpa using hb
              subst hb
              rw [if_pos rfl] at hnx
              obtain ⟨L', r, rfl⟩ : ∃ L' r, L = L' ++ [r] := by
                rcases List.eq_nil_or_concat L with e | ⟨L', r, e⟩
                · exact absurd e hLne
                · exact ⟨L', r, by rw [e, List.concat_eq_append]⟩
              have hadd := addRun_end L' r x
              obtain ⟨ra, rb⟩ := r
              simp only at hadd
              have hz : (L' ++ [(⟨ra, rb⟩ : Run)])[L'.length]? = some ⟨ra, rb⟩ := by simp
              have hlen : (L' ++ [(⟨ra, rb⟩ : Run)]).length = L'.length + 1 := by simp
              have hset2 : ∀ m : Int, (dr ((L' ++ [(⟨ra, rb⟩ : Run)]).map Run.row)).set L'.length [AV.d (.int .i64 ra), AV.d (.int .i64 m)] = dr ((L' ++ [(⟨ra, m⟩ : Run)]).map Run.row) := fun m => by
                simp [dr, Run.row]
              have hlen2 : ∀ m : Int, (L' ++ [(⟨ra, m⟩ : Run)]).length = (L' ++ [(⟨ra, rb⟩ : Run)]).length := fun m => by simp
              generalize hB : L' ++ [(⟨ra, rb⟩ : Run)] = B at *
              have e7 := wrap_i64 (n := (B.length : Int) - 1) (by omega) (by omega)
              have e8 : ((B.length : Int) - 1).toNat = L'.length := by omega
              have e9 : (0 : Int) ≤ (B.length : Int) - 1 := by omega
              refine awp_region cx [] fun K hK => ?_
              simp [push_cast, hget, e6]
              repeat (refine And.intro (by clear hK; intros; first | omega | (simp_all; done) | (simp_all <;> omega)) ?_)
              refine hK _ ?_; clear hK K; refine Nav.imp ?_
              refine awp_region_draw cx mixed [] fun K hK => ?_
              simp [push_cast, hget, hz, e7, e8, e9]
              repeat (refine And.intro (by clear hK; intros; first | omega | (simp_all; done) | (simp_all <;> omega)) ?_)
              refine hK _ _ (by kernel_rfl) ?_; clear hK K; refine Nav.imp ?_
              refine awp_region_draw cx mixed [] fun K hK => ?_
              simp [push_cast, hget, hz, Run.row]
              repeat (refine And.intro (by clear hK; intros; first | omega | (simp_all; done) | (simp_all <;> omega)) ?_)
              refine hK _ _ (by kernel_rfl) ?_; clear hK K; refine Nav.imp ?_
              refine awp_cond (b := decide (rb < x)) (by simp [push_cast]) (fun hb => ?_) (fun hb => ?_) <;> (refine Nav.imp ?_)
              · have hb : rb < x := by simpa using hb
                rw [if_pos hb] at hadd
                rw [hadd] at hnx
                refine awp_region_draw cx mixed [] fun K hK => ?_
                simp [push_cast, hget, ex, hL16, hset]
                repeat (refine And.intro (by clear hK; intros; first | omega | (simp_all; done) | (simp_all <;> omega)) ?_)
                refine hK _ _ (by kernel_rfl) ?_; clear hK K; refine Nav.imp ?_
                refine awp_region cx [] fun K hK => ?_
                simp [push_cast, e0]
                repeat (refine And.intro (by clear hK; intros; first | omega | (simp_all; done) | (simp_all <;> omega)) ?_)
                refine hK _ ?_; clear hK K; refine Nav.imp ?_
                refine ⟨(k + 1, P, some (wy, B ++ [(⟨x, x + 1⟩ : Run)])), ⟨hlt, hnx.symm, fun h => (by cases h), fun y L h => (by cases h; simp)⟩, by simp only; omega, ?_⟩
                refine weak_of [(0, some 0), (1, some 1), (2, some 2), (3, some 64)] rfl (by simp [upT, up, upL, push_cast, Row.row, Run.row, ofTl, ofRl]) (by simp [upH, upR, upL, up, push_cast, Row.row, Run.row, ofTl, ofRl]) (by simp [namesOk, push_cast]) (by simp [olds])
              · have hb : ¬ rb < x := by simpa using hb
                rw [if_neg hb] at hadd
                rw [hadd] at hnx
                have hne2 : L' ++ [(⟨ra, max rb (x + 1)⟩ : Run)] ≠ [] := by simp
                have hset2 := hset2 (max rb (x + 1))
                have hlen2 := hlen2 (max rb (x + 1))
                generalize L' ++ [(⟨ra, max rb (x + 1)⟩ : Run)] = C at *
                refine awp_region_draw cx mixed [] fun K hK => ?_
                simp [push_cast, hget, hz, ex, hset2, Run.row]
                repeat (refine And.intro (by clear hK; intros; first | omega | (simp_all; done) | (simp_all <;> omega)) ?_)
                refine hK _ _ (by kernel_rfl) ?_; clear hK K; refine Nav.imp ?_
                refine awp_region cx [] fun K hK => ?_
                simp [push_cast, e0]
                repeat (refine And.intro (by clear hK; intros; first | omega | (simp_all; done) | (simp_all <;> omega)) ?_)
                refine hK _ ?_; clear hK K; refine Nav.imp ?_
                rw [← hlen2]
                refine ⟨(k + 1, P, some (wy, C)), ⟨hlt, hnx.symm, fun h => (by cases h), fun y L h => (by cases h; exact hne2)⟩, by simp only; omega, ?_⟩
                refine weak_of [(0, some 0), (1, some 1), (2, some 2), (3, some 3)] rfl (by simp [upT, up, upL, push_cast, Row.row, Run.row, ofTl, ofRl]) (by simp [upH, upR, upL, up, push_cast, Row.row, Run.row, ofTl, ofRl]) (by simp [namesOk, push_cast]) (by simp [olds])
        · have hge : k = s.length := by simp at hb; omega
          subst hge
          rw [List.take_length] at hX
          rw [← hX]
          rcases o with _ | ⟨wy, L⟩
          · have hP := hP0 rfl
            subst hP
            simp only [ofX, ofTl, ofRl]
            refine awp_freeze 2 ([] : List (List D)) rfl (by simp [push_cast]) fun K hK => ?_
            simp [push_cast, St.fz, fzT, fzH, fzO, fz, fzL, fzR, fzR_dr, fzR_app, fzR_set, fzL_map]
            refine hK _ ?_; clear hK K; refine Nav.imp ?_
            refine awp_region cx [] fun K hK => ?_
            simp [push_cast]
            repeat (refine And.intro (by clear hK; intros; first | omega | (simp_all; done) | (simp_all <;> omega)) ?_)
            refine hK _ ?_; clear hK K; refine Nav.imp ?_
            simp [push_cast]
          · simp only [ofX, ofTl, ofRl]
            obtain ⟨A, hA⟩ : ∃ A, A = P ++ [(⟨wy, L⟩ : Row)] := ⟨_, rfl⟩
            have hfold : dr (P.map Row.row) ++ [[AV.d (.int .i64 wy), AV.d (.sl (L.map Run.row))]] = dr (A.map Row.row) := by rw [hA]; simp [dr, Row.row]
            have hAl : P.length + 1 = A.length := by rw [hA]; simp
            rw [← hA]
            refine awp_freeze 3 (L.map Run.row) rfl (by simp [push_cast, hfold]) fun K hK => ?_
            simp [push_cast, St.fz, fzT, fzH, fzO, fz, fzL, fzR, fzR_dr, fzR_app, fzR_set, fzL_map, hfold]
            refine hK _ ?_; clear hK K; refine Nav.imp ?_
            rw [hAl]
            clear hA hfold
            refine awp_freeze 2 (A.map Row.row) rfl (by simp [push_cast, Row.row]) fun K hK => ?_
            simp [push_cast, St.fz, fzT, fzH, fzO, fz, fzL, fzR, fzR_dr, fzR_app, fzR_set, fzL_map, Row.row]
            refine hK _ ?_; clear hK K; refine Nav.imp ?_
            refine awp_region cx [] fun K hK => ?_
            simp [push_cast]
            repeat (refine And.intro (by clear hK; intros; first | omega | (simp_all; done) | (simp_all <;> omega)) ?_)
            refine hK _ ?_; clear hK K; refine Nav.imp ?_
            simp [push_cast]
end Go.Proofs.Ytknelhiejjdioaa

set_option linter.unusedVariables false
set_option linter.unusedSimpArgs false
set_option maxRecDepth 100000
namespace Go.Proofs.Ytknelhiejjdioaa
open Go.Abs

theorem set_step {l Z : List Cell} {k : Nat} {c d : Cell} (hZ : Z = (l.take k).map xc ++ l.drop k) (hc : l[k]? = some c) (hd : d = xc c) : Z[k]? = some c ∧ Z.set k d = (l.take (k + 1)).map xc ++ l.drop (k + 1) := by
  have hk : k < l.length := (List.getElem?_eq_some_iff.1 hc).1
  have hlen : ((l.take k).map xc).length = k := by rw [List.length_map, List.length_take]; omega
  have hdr := drop_get hc
  subst hZ hd
  constructor
  · rw [List.getElem?_append_right (by omega), hlen, Nat.sub_self, hdr]; rfl
  · rw [List.set_append_right _ _ (by omega), hlen, Nat.sub_self, hdr, take_get hc, List.map_append, List.append_assoc]; rfl

set_option maxHeartbeats 4000000 in
theorem turned_ok (R : List Row) (hv : validR R = true) (hn : (regCells R).length ≤ 1000000) : PC Try.prog 52 [.agg (regRow R)] (.p (.agg (regRow (turnR R)))) := by
  have c1 := cells_own R (small_valid hv) fun _ => hn
  rw [show cellsOf R = regCells R from by unfold cellsOf; rw [if_pos hv]] at c1
  have c2 := of_ok ((regCells R).map xc) (by rw [List.length_map]; exact hn)
  rw [show ofD ((regCells R).map xc) = .tup [.agg (regRow (turnR R)), .int .i64 (ofE ((regCells R).map xc))] from rfl, turn_err hv] at c2
  generalize turnR R = W at *
  generalize regCells R = l at *
  refine pc_of_awp cx (fn := Try.f52) (c := _) Try.func52 rfl rfl (Nat.le_of_ble_eq_true rfl) ?_
  rw [Try.ntmps52]; refine Nav.imp ?_
  refine awp_region cx [] fun K hK => ?_
  simp [push_cast]
  repeat (refine And.intro (by clear hK; intros; first | omega | (simp_all; done) | (simp_all <;> omega)) ?_)
  refine hK _ ?_; clear hK K; refine Nav.imp ?_
  refine awp_region cx [(1, .o 31 2 (l.map Cell.row))] fun K hK => ?_
  simp [push_cast, c1]
  repeat (refine And.intro (by clear hK; intros; first | omega | (simp_all; done) | (simp_all <;> omega)) ?_)
  refine hK _ ?_; clear hK K; refine Nav.imp ?_
  refine awp_region cx [] fun K hK => ?_
  simp [push_cast]
  repeat (refine And.intro (by clear hK; intros; first | omega | (simp_all; done) | (simp_all <;> omega)) ?_)
  refine hK _ ?_; clear hK K; refine Nav.imp ?_
  refine awp_loop (β := Nat × List Cell) (fun s => ⟨32, [(2, .ptr 1 0 0), (3, .hs 0 0 s.2.length), (10, .hs 0 0 s.2.length), (11, .d (.int .i64 s.2.length)), (12, .d (.int .i64 s.1))], [(0, some ⟨31, 2, dr (s.2.map Cell.row)⟩), (1, some ⟨24, 1, [[.nl]]⟩)], 2⟩) (fun s => s.1 ≤ l.length ∧ s.2 = (l.take s.1).map xc ++ l.drop s.1) (fun s => l.length - s.1) (0, l) ?_ ⟨Nat.zero_le _, by simp⟩ ?_
  · refine weak_of [(0, some 3), (1, some 1)] rfl (by simp [upT, up, upL, push_cast]) (by simp [upH, upR, upL, up, push_cast]) (by simp [namesOk, push_cast]) (by simp [olds])
  · rintro ⟨k, Z⟩ ⟨hk, hZ⟩
    simp only at hk hZ
    have hZl : Z.length = l.length := by rw [hZ]; simp; omega
    refine Nav.imp ?_
    refine awp_region cx [] fun K hK => ?_
    simp [push_cast]
    repeat (refine And.intro (by clear hK; intros; first | omega | (simp_all; done) | (simp_all <;> omega)) ?_)
    refine hK _ ?_; clear hK K; refine Nav.imp ?_
    refine awp_cond (b := decide ((k : Int) < Z.length)) (by simp [push_cast]) (fun hb => ?_) (fun hb => ?_) <;> (refine Nav.imp ?_)
    · have hlt : k < l.length := by have : k < Z.length := by simpa using hb
                                    omega
      obtain ⟨c, hc⟩ := getq hlt
      have e0 := wrap_i64 (n := (k : Int) + 1) (by omega) (by omega)
      obtain ⟨x, y⟩ := c
      obtain ⟨hz, hs⟩ := set_step hZ hc rfl
      have hkZ : k < Z.length := by omega
      have hset : (dr (Z.map Cell.row)).set k [AV.d (.int .i64 y), AV.d (.int .i64 x)] = dr ((Z.set k (xc ⟨x, y⟩)).map Cell.row) := by
        rw [List.map_set, dr_set]; rfl
      have hsl : (Z.set k (xc ⟨x, y⟩)).length = Z.length := List.length_set ..
      generalize Z.set k (xc ⟨x, y⟩) = Z2 at *
      refine awp_region cx [] fun K hK => ?_
      simp [push_cast, hz, Cell.row]
      repeat (refine And.intro (by clear hK; intros; first | omega | (simp_all; done) | (simp_all <;> omega)) ?_)
      refine hK _ ?_; clear hK K; refine Nav.imp ?_
      refine awp_region cx [] fun K hK => ?_
      simp [push_cast, hz, Cell.row, hset]
      repeat (refine And.intro (by clear hK; intros; first | omega | (simp_all; done) | (simp_all <;> omega)) ?_)
      refine hK _ ?_; clear hK K; refine Nav.imp ?_
      refine awp_region cx [] fun K hK => ?_
      simp [push_cast, e0]
      repeat (refine And.intro (by clear hK; intros; first | omega | (simp_all; done) | (simp_all <;> omega)) ?_)
      refine hK _ ?_; clear hK K; refine Nav.imp ?_
      rw [← hsl]
      refine ⟨(k + 1, Z2), ⟨hlt, hs⟩, by simp only; omega, ?_⟩
      refine weak_of [(0, some 0), (1, some 1)] rfl (by simp [upT, up, upL, push_cast]) (by simp [upH, upR, upL, up, push_cast]) (by simp [namesOk, push_cast]) (by simp [olds])
    · have hke : k = l.length := by simp at hb; omega
      subst hke
      rw [List.take_length, List.drop_length, List.append_nil] at hZ
      subst hZ
      generalize l.map xc = m at *
      have ht : List.take m.length (m.map Cell.row) = m.map Cell.row := List.take_of_length_le (by simp)
      refine awp_freeze 0 (m.map Cell.row) rfl (by simp [push_cast]) fun K hK => ?_
      simp [push_cast, St.fz, fzT, fzH, fzO, fz, fzL, fzR, fzR_dr, fzR_app, fzR_set, fzL_map]
      refine hK _ ?_; clear hK K; refine Nav.imp ?_
      refine awp_region cx [(1, .p (.tup [.agg (regRow W), .int .i64 0]))] fun K hK => ?_
      simp [push_cast, c2]
      repeat (refine And.intro (by clear hK; intros; first | omega | (simp_all; done) | (simp_all <;> omega)) ?_)
      refine hK _ ?_; clear hK K; refine Nav.imp ?_
      refine awp_region cx [] fun K hK => ?_
      simp [push_cast]
      repeat (refine And.intro (by clear hK; intros; first | omega | (simp_all; done) | (simp_all <;> omega)) ?_)
      refine hK _ ?_; clear hK K; refine Nav.imp ?_
      simp [push_cast]
end Go.Proofs.Ytknelhiejjdioaa

set_option linter.unusedVariables false
set_option linter.unusedSimpArgs false
namespace Go.Proofs.Ytknelhiejjdioaa
open Go.Abs

/-! The search for a row. -/
def LbAt (R : List Row) (y : Int) (i : Nat) : Prop := i ≤ R.length ∧ (∀ j w, R[j]? = some w → (j < i ↔ w.y < y))
theorem lb_exists : ∀ {R : List Row}, (R.Pairwise fun a b => a.y < b.y) → ∀ y, ∃ i, LbAt R y i
  | [], _, y => ⟨0, by simp, fun j w h => by simp at h⟩
  | w :: R, h, y => by
    have h1 := List.pairwise_cons.1 h
    by_cases e : w.y < y
    · obtain ⟨i, hi, hp⟩ := lb_exists h1.2 y
      refine ⟨i + 1, by simp; exact hi, fun j v hv => ?_⟩
      cases j with
      | zero => simp at hv; subst hv; simp [e]
      | succ j => simp at hv; have := hp j v hv; omega
    · refine ⟨0, by simp, fun j v hv => ?_⟩
      cases j with
      | zero => simp at hv; subst hv; simp; omega
      | succ j => simp at hv; have := h1.1 v (List.mem_of_getElem? hv); omega

theorem rowcmp_ok (w : Row) (y : Int) : PC Try.prog 76 [.agg w.row, .int .i64 y] (.p (.int .i64 (cmpI w.y y))) := by
  have c1 := compare_ok w.y y
  obtain ⟨wy, wr⟩ := w
  simp only at c1
  generalize cmpI wy y = z at *
  refine pc_of_awp cx (fn := Try.f76) (c := _) Try.func76 rfl rfl (Nat.le_of_ble_eq_true rfl) ?_
  rw [Try.ntmps76]; refine Nav.imp ?_
  refine awp_region cx [] fun K hK => ?_
  simp [push_cast, Row.row]
  repeat (refine And.intro (by clear hK; intros; first | omega | (simp_all; done) | (simp_all <;> omega)) ?_)
  refine hK _ ?_; clear hK K; refine Nav.imp ?_
  refine awp_region cx [(3, .p (.int .i64 z))] fun K hK => ?_
  simp [push_cast, c1, Row.row]
  repeat (refine And.intro (by clear hK; intros; first | omega | (simp_all; done) | (simp_all <;> omega)) ?_)
  refine hK _ ?_; clear hK K; refine Nav.imp ?_
  simp [push_cast]

theorem cmpI_lt {a b : Int} : (cmpI a b < 0) ↔ a < b := by unfold cmpI; split <;> (try split) <;> omega
theorem cmpI_eq {a b : Int} : (cmpI a b = 0) ↔ a = b := by unfold cmpI; split <;> (try split) <;> omega

set_option maxHeartbeats 1000000 in
theorem bsearch_ok (R : List Row) (y : Int) (i : Nat) (hl : R.length ≤ 1000000) (hi : LbAt R y i) : PC Try.prog 75 [encRows R, .int .i64 y, .fn (.func 76) []] (.p (.tup [.int .i64 i, .bool (match R[i]? with | some w => decide (w.y = y) | none => false)])) := by
  obtain ⟨hil, hip⟩ := hi
  refine pc_of_awp cx (fn := Try.f75) (c := _) Try.func75 rfl rfl (Nat.le_of_ble_eq_true rfl) ?_
  rw [Try.ntmps75]; refine Nav.imp ?_
  refine awp_region cx [] fun K hK => ?_
  simp [push_cast]
  repeat (refine And.intro (by clear hK; intros; first | omega | (simp_all; done) | (simp_all <;> omega)) ?_)
  refine hK _ ?_; clear hK K; refine Nav.imp ?_
  refine awp_region cx [] fun K hK => ?_
  simp [push_cast]
  repeat (refine And.intro (by clear hK; intros; first | omega | (simp_all; done) | (simp_all <;> omega)) ?_)
  refine hK _ ?_; clear hK K; refine Nav.imp ?_
  refine awp_region cx [] fun K hK => ?_
  simp [push_cast]
  repeat (refine And.intro (by clear hK; intros; first | omega | (simp_all; done) | (simp_all <;> omega)) ?_)
  refine hK _ ?_; clear hK K; refine Nav.imp ?_
  refine awp_loop (β := Nat × Nat) (fun b => ⟨49, [(0, .d (encRows R)), (1, .d (.int .i64 y)), (2, .d (.fn (.func 76) [])), (8, .d (.int .i64 R.length)), (9, .d (.int .i64 b.1)), (10, .d (.int .i64 b.2))], [], 0⟩) (fun b => b.1 ≤ i ∧ i ≤ b.2 ∧ b.2 ≤ R.length) (fun b => b.2 - b.1) (0, R.length) ?_ ⟨Nat.zero_le _, hil, Nat.le_refl _⟩ ?_
  · refine weak_of [] rfl (by simp [upT, up, upL, push_cast]) (by simp [upH, upR, upL, up, push_cast]) (by simp [namesOk, push_cast]) (by simp [olds])
  · rintro ⟨lo, hi⟩ ⟨h1, h2, h3⟩
    simp only at h1 h2 h3
    refine Nav.imp ?_
    refine awp_region cx [] fun K hK => ?_
    simp [push_cast]
    repeat (refine And.intro (by clear hK; intros; first | omega | (simp_all; done) | (simp_all <;> omega)) ?_)
    refine hK _ ?_; clear hK K; refine Nav.imp ?_
    refine awp_cond (b := decide (lo < hi)) (by simp [push_cast]) (fun hb => ?_) (fun hb => ?_) <;> (refine Nav.imp ?_)
    · have hlh : lo < hi := by simpa using hb
      have e1 := wrap_i64 (n := (lo : Int) + hi) (by omega) (by omega)
      have e2 : IntKind.u64.wrap ((lo : Int) + hi) = (lo : Int) + hi := by rw [IntKind.wrap_u64]; omega
      obtain ⟨h, hh⟩ : ∃ h : Nat, h = (lo + hi) / 2 := ⟨_, rfl⟩
      have e3 : ((lo : Int) + hi).fdiv (2 ^ min 1 IntKind.u64.bits) = h := by
        have : (2 : Int) ^ min 1 IntKind.u64.bits = 2 := by decide
        rw [this, Int.fdiv_eq_ediv_of_nonneg _ (by omega)]; omega
      have e4 := wrap_i64 (n := (h : Int)) (by omega) (by omega)
      have hhl : h < R.length := by omega
      obtain ⟨w, hw⟩ := getq hhl
      have hip' := hip h w hw
      have c1 := rowcmp_ok w y
      have hz : (decide (cmpI w.y y < 0)) = decide (w.y < y) := by rw [Bool.eq_iff_iff]; simp [cmpI_lt]
      have e5 := wrap_i64 (n := (h : Int) + 1) (by omega) (by omega)
      generalize cmpI w.y y = z at *
      refine awp_region cx [] fun K hK => ?_
      simp [push_cast, e1, e2, e3, e4]
      repeat (refine And.intro (by clear hK; intros; first | omega | (simp_all; done) | (simp_all <;> omega)) ?_)
      refine hK _ ?_; clear hK K; refine Nav.imp ?_
      refine awp_region cx [(6, .p (.int .i64 z))] fun K hK => ?_
      simp [push_cast, hw, c1, hz]
      repeat (refine And.intro (by clear hK; intros; first | omega | (simp_all; done) | (simp_all <;> omega)) ?_)
      refine hK _ ?_; clear hK K; refine Nav.imp ?_
      refine awp_cond (b := decide (w.y < y)) (by simp [push_cast]) (fun hb => ?_) (fun hb => ?_) <;> (refine Nav.imp ?_)
      · have hb : w.y < y := by simpa using hb
        refine awp_region cx [] fun K hK => ?_
        simp [push_cast, e5]
        repeat (refine And.intro (by clear hK; intros; first | omega | (simp_all; done) | (simp_all <;> omega)) ?_)
        refine hK _ ?_; clear hK K; refine Nav.imp ?_
        refine ⟨(h + 1, hi), ⟨by simp only; omega, h2, h3⟩, by simp only; omega, ?_⟩
        refine weak_of [] rfl (by simp [upT, up, upL, push_cast]) (by simp [upH, upR, upL, up, push_cast]) (by simp [namesOk, push_cast]) (by simp [olds])
      · have hb : ¬ w.y < y := by simpa using hb
        refine awp_region cx [] fun K hK => ?_
        simp [push_cast]
        repeat (refine And.intro (by clear hK; intros; first | omega | (simp_all; done) | (simp_all <;> omega)) ?_)
        refine hK _ ?_; clear hK K; refine Nav.imp ?_
        refine ⟨(lo, h), ⟨h1, by simp only; omega, by simp only; omega⟩, by simp only; omega, ?_⟩
        refine weak_of [] rfl (by simp [upT, up, upL, push_cast]) (by simp [upH, upR, upL, up, push_cast]) (by simp [namesOk, push_cast]) (by simp [olds])
    · have hlh : ¬ lo < hi := by simpa using hb
      have : lo = i := by omega
      subst this
      cases hw : R[lo]? with
      | none =>
        have hge : ¬ lo < R.length := fun h => by rw [List.getElem?_eq_getElem h] at hw; cases hw
        have hge' : ¬ (lo : Int) < R.length := by omega
        refine awp_region cx [(11, .skip)] fun K hK => ?_
        simp [push_cast, hw, hge, hge']
        repeat (refine And.intro (by clear hK; intros; first | omega | (simp_all; done) | (simp_all <;> omega)) ?_)
        refine hK _ ?_; clear hK K; refine Nav.imp ?_
        simp [push_cast, hw]
      | some w =>
        have hlt := (List.getElem?_eq_some_iff.1 hw).1
        have hlt' : (lo : Int) < R.length := by omega
        have c1 := rowcmp_ok w y
        have hz : (cmpI w.y y == 0) = decide (w.y = y) := by rw [Bool.eq_iff_iff]; simp [cmpI_eq]
        generalize cmpI w.y y = z at *
        refine awp_region cx [(11, .p (.int .i64 z))] fun K hK => ?_
        simp [push_cast, hw, c1, hlt', Row.row, hz]
        repeat (refine And.intro (by clear hK; intros; first | omega | (simp_all; done) | (simp_all <;> omega)) ?_)
        refine hK _ ?_; clear hK K; refine Nav.imp ?_
        simp [push_cast, hlt, hz]

theorem row_ok (R : List Row) (y : Int) (hR : smallR R) (hv : validR R = true) : PC Try.prog 43 [.agg (regRow R), .int .i64 y] (.p (encRuns (rowOf R y))) := by
  obtain ⟨i, hi⟩ := lb_exists (rows_pw hv) y
  have c1 := bsearch_ok R y i hR.1 hi
  have hl := hR.1
  cases hw : R[i]? with
  | none =>
    rw [hw] at c1
    simp only at c1
    have hn : rowOf R y = [] := by
      refine rowOf_none fun w hwm hy => ?_
      obtain ⟨j, hj⟩ := List.mem_iff_getElem?.1 hwm
      have h1 := (List.getElem?_eq_some_iff.1 hj).1
      have h2 : ¬ i < R.length := fun h => by rw [List.getElem?_eq_getElem h] at hw; cases hw
      have := (hi.2 j w hj).1 (by omega)
      omega
    rw [hn]
    refine pc_of_awp cx (fn := Try.f43) (c := _) Try.func43 rfl rfl (Nat.le_of_ble_eq_true rfl) ?_
    rw [Try.ntmps43]; refine Nav.imp ?_
    refine awp_region cx [] fun K hK => ?_
    simp [push_cast]
    repeat (refine And.intro (by clear hK; intros; first | omega | (simp_all; done) | (simp_all <;> omega)) ?_)
    refine hK _ ?_; clear hK K; refine Nav.imp ?_
    refine awp_region cx [(3, .p (.tup [.int .i64 i, .bool false]))] fun K hK => ?_
    simp [push_cast, c1]
    repeat (refine And.intro (by clear hK; intros; first | omega | (simp_all; done) | (simp_all <;> omega)) ?_)
    refine hK _ ?_; clear hK K; refine Nav.imp ?_
    refine awp_region cx [] fun K hK => ?_
    simp [push_cast]
    repeat (refine And.intro (by clear hK; intros; first | omega | (simp_all; done) | (simp_all <;> omega)) ?_)
    refine hK _ ?_; clear hK K; refine Nav.imp ?_
    refine awp_cond (b := true) (by simp [push_cast]) (fun hb => ?_) (fun hb => ?_) <;> (refine Nav.imp ?_)
    · refine awp_region cx [] fun K hK => ?_
      simp [push_cast]
      repeat (refine And.intro (by clear hK; intros; first | omega | (simp_all; done) | (simp_all <;> omega)) ?_)
      refine hK _ ?_; clear hK K; refine Nav.imp ?_
      simp [push_cast]
    · simp at hb
  | some w =>
    rw [hw] at c1
    simp only at c1
    have hwm := List.mem_of_getElem? hw
    by_cases e : w.y = y
    · rw [decide_eq_true e] at c1
      have hn : rowOf R y = w.runs := by rw [← e]; exact rowOf_mem hv hwm
      rw [hn]
      obtain ⟨wy, wr⟩ := w
      refine pc_of_awp cx (fn := Try.f43) (c := _) Try.func43 rfl rfl (Nat.le_of_ble_eq_true rfl) ?_
      rw [Try.ntmps43]; refine Nav.imp ?_
      refine awp_region cx [] fun K hK => ?_
      simp [push_cast]
      repeat (refine And.intro (by clear hK; intros; first | omega | (simp_all; done) | (simp_all <;> omega)) ?_)
      refine hK _ ?_; clear hK K; refine Nav.imp ?_
      refine awp_region cx [(3, .p (.tup [.int .i64 i, .bool true]))] fun K hK => ?_
      simp [push_cast, c1]
      repeat (refine And.intro (by clear hK; intros; first | omega | (simp_all; done) | (simp_all <;> omega)) ?_)
      refine hK _ ?_; clear hK K; refine Nav.imp ?_
      refine awp_region cx [] fun K hK => ?_
      simp [push_cast]
      repeat (refine And.intro (by clear hK; intros; first | omega | (simp_all; done) | (simp_all <;> omega)) ?_)
      refine hK _ ?_; clear hK K; refine Nav.imp ?_
      refine awp_cond (b := false) (by simp [push_cast]) (fun hb => ?_) (fun hb => ?_) <;> (refine Nav.imp ?_)
      · simp at hb
      · refine awp_region cx [] fun K hK => ?_
        simp [push_cast, hw, Row.row]
        repeat (refine And.intro (by clear hK; intros; first | omega | (simp_all; done) | (simp_all <;> omega)) ?_)
        refine hK _ ?_; clear hK K; refine Nav.imp ?_
        simp [push_cast]
    · rw [decide_eq_false e] at c1
      have hn : rowOf R y = [] := by
        refine rowOf_none fun v hvm hy => ?_
        obtain ⟨j, hj⟩ := List.mem_iff_getElem?.1 hvm
        have h1 := hi.2 j v hj
        have h2 := hi.2 i w hw
        rcases Nat.lt_trichotomy j i with h | h | h
        · have := h1.1 h; omega
        · subst h; rw [hw] at hj; cases hj; exact e hy
        · have := rows_lt hv j i v w h hj hw; omega
      rw [hn]
      refine pc_of_awp cx (fn := Try.f43) (c := _) Try.func43 rfl rfl (Nat.le_of_ble_eq_true rfl) ?_
      rw [Try.ntmps43]; refine Nav.imp ?_
      refine awp_region cx [] fun K hK => ?_
      simp [push_cast]
      repeat (refine And.intro (by clear hK; intros; first | omega | (simp_all; done) | (simp_all <;> omega)) ?_)
      refine hK _ ?_; clear hK K; refine Nav.imp ?_
      refine awp_region cx [(3, .p (.tup [.int .i64 i, .bool false]))] fun K hK => ?_
      simp [push_cast, c1]
      repeat (refine And.intro (by clear hK; intros; first | omega | (simp_all; done) | (simp_all <;> omega)) ?_)
      refine hK _ ?_; clear hK K; refine Nav.imp ?_
      refine awp_region cx [] fun K hK => ?_
      simp [push_cast]
      repeat (refine And.intro (by clear hK; intros; first | omega | (simp_all; done) | (simp_all <;> omega)) ?_)
      refine hK _ ?_; clear hK K; refine Nav.imp ?_
      refine awp_cond (b := true) (by simp [push_cast]) (fun hb => ?_) (fun hb => ?_) <;> (refine Nav.imp ?_)
      · refine awp_region cx [] fun K hK => ?_
        simp [push_cast]
        repeat (refine And.intro (by clear hK; intros; first | omega | (simp_all; done) | (simp_all <;> omega)) ?_)
        refine hK _ ?_; clear hK K; refine Nav.imp ?_
        simp [push_cast]
      · simp at hb
end Go.Proofs.Ytknelhiejjdioaa

set_option linter.unusedVariables false
set_option linter.unusedSimpArgs false
namespace Go.Proofs.Ytknelhiejjdioaa
open Go.Abs

/-! Cells of a region, looked for. -/
def hitB (x : Int) (r : Run) : Bool := decide (r.a ≤ x) && decide (x < r.b)
def conB (R : List Row) (c : Cell) : Bool := validR R && inR (rowOf R c.y) c.x
theorem conB_mem {R : List Row} (h : validR R = true) (c : Cell) : conB R c = decide (c ∈ regCells R) := by
  unfold conB
  rw [h, Bool.true_and, Bool.eq_iff_iff, decide_eq_true_eq]
  exact (rowOf_in h c).symm
theorem tw_len : ∀ {l : List Run} {k : Nat} {x : Int} {r : Run}, (∀ q ∈ l.take k, hitB x q = false) → l[k]? = some r → hitB x r = true → (l.takeWhile fun q => !hitB x q).length = k
  | [], k, x, r, _, h, _ => by simp at h
  | q :: l, 0, x, r, _, h, hr => by simp at h; subst h; simp [hr]
  | q :: l, k + 1, x, r, hp, h, hr => by
    have hq := hp q (by simp)
    have := tw_len (l := l) (k := k) (x := x) (r := r) (fun s hs => hp s (by simp [hs])) (by simpa using h) hr
    simp [hq, this]
theorem find_at : ∀ {R : List Row} {k : Nat} {y : Int} {w : Row}, (∀ v ∈ R.take k, v.y ≠ y) → R[k]? = some w → w.y = y → rowOf R y = w.runs
  | [], k, y, w, _, h, _ => by simp at h
  | v :: R, 0, y, w, _, h, hw => by simp at h; subst h; simp [rowOf, hw]
  | v :: R, k + 1, y, w, hp, h, hw => by
    have hv := hp v (by simp)
    have := find_at (R := R) (k := k) (y := y) (w := w) (fun s hs => hp s (by simp [hs])) (by simpa using h) hw
    simpa [rowOf, hv] using this
def idxR (l : List Run) (x : Int) : Int := if inR l x then ((l.takeWhile fun q => !hitB x q).length : Nat) else -1

theorem hit_ok (r : Run) (x : Int) : PC Try.prog 74 [.agg r.row, .rp [.int .i64 x]] (.p (.bool (hitB x r))) := by
  obtain ⟨ra, rb⟩ := r
  refine pc_of_awp cx (fn := Try.f74) (c := _) Try.func74 rfl rfl (Nat.le_of_ble_eq_true rfl) ?_
  rw [Try.ntmps74]; refine Nav.imp ?_
  refine awp_region cx [] fun K hK => ?_
  simp [push_cast, Run.row]
  repeat (refine And.intro (by clear hK; intros; first | omega | (simp_all; done) | (simp_all <;> omega)) ?_)
  refine hK _ ?_; clear hK K; refine Nav.imp ?_
  refine awp_region cx [] fun K hK => ?_
  simp [push_cast, Run.row]
  repeat (refine And.intro (by clear hK; intros; first | omega | (simp_all; done) | (simp_all <;> omega)) ?_)
  refine hK _ ?_; clear hK K; refine Nav.imp ?_
  simp [push_cast, hitB]

theorem index_ok (l : List Run) (x : Int) (hl : l.length ≤ 1000000) : PC Try.prog 98 [encRuns l, .fn (.func 74) [.rp [.int .i64 x]]] (.p (.int .i64 (idxR l x))) := by
  refine pc_of_awp cx (fn := Try.f98) (c := _) Try.func98 rfl rfl (Nat.le_of_ble_eq_true rfl) ?_
  rw [Try.ntmps98]; refine Nav.imp ?_
  refine awp_region cx [] fun K hK => ?_
  simp [push_cast]
  repeat (refine And.intro (by clear hK; intros; first | omega | (simp_all; done) | (simp_all <;> omega)) ?_)
  refine hK _ ?_; clear hK K; refine Nav.imp ?_
  refine awp_region cx [] fun K hK => ?_
  simp [push_cast]
  repeat (refine And.intro (by clear hK; intros; first | omega | (simp_all; done) | (simp_all <;> omega)) ?_)
  refine hK _ ?_; clear hK K; refine Nav.imp ?_
  refine awp_loop (β := Nat) (fun k => ⟨19, [(0, .d (encRuns l)), (1, .d (.fn (.func 74) [.rp [.int .i64 x]])), (7, .d (.int .i64 l.length)), (8, .d (.int .i64 k))], [], 0⟩) (fun k => k ≤ l.length ∧ ∀ q ∈ l.take k, hitB x q = false) (fun k => l.length - k) 0 ?_ ⟨Nat.zero_le _, by simp⟩ ?_
  · refine weak_of [] rfl (by simp [upT, up, upL, push_cast]) (by simp [upH, upR, upL, up, push_cast]) (by simp [namesOk, push_cast]) (by simp [olds])
  · rintro k ⟨hk, hno⟩
    refine Nav.imp ?_
    refine awp_region cx [] fun K hK => ?_
    simp [push_cast]
    repeat (refine And.intro (by clear hK; intros; first | omega | (simp_all; done) | (simp_all <;> omega)) ?_)
    refine hK _ ?_; clear hK K; refine Nav.imp ?_
    refine awp_cond (b := decide ((k : Int) < l.length)) (by simp [push_cast]) (fun hb => ?_) (fun hb => ?_) <;> (refine Nav.imp ?_)
    · have hlt : k < l.length := by simpa using hb
      obtain ⟨r, hr⟩ := getq hlt
      have e0 := wrap_i64 (n := (k : Int) + 1) (by omega) (by omega)
      have c1 := hit_ok r x
      generalize hv : hitB x r = v at c1
      refine awp_region cx [] fun K hK => ?_
      simp [push_cast]
      repeat (refine And.intro (by clear hK; intros; first | omega | (simp_all; done) | (simp_all <;> omega)) ?_)
      refine hK _ ?_; clear hK K; refine Nav.imp ?_
      refine awp_region cx [(5, .p (.bool v))] fun K hK => ?_
      simp [push_cast, hr, c1]
      repeat (refine And.intro (by clear hK; intros; first | omega | (simp_all; done) | (simp_all <;> omega)) ?_)
      refine hK _ ?_; clear hK K; refine Nav.imp ?_
      refine awp_cond (b := v) (by simp [push_cast]) (fun hb => ?_) (fun hb => ?_) <;> (refine Nav.imp ?_)
      · rw [hb] at hv
        have hi : idxR l x = (k : Int) := by
          have h1 : inR l x = true := inR_iff.2 ⟨r, List.mem_of_getElem? hr, by simpa [hitB] using hv⟩
          unfold idxR
          rw [if_pos h1, tw_len hno hr hv]
        rw [hi]
        refine awp_region cx [] fun K hK => ?_
        simp [push_cast]
        repeat (refine And.intro (by clear hK; intros; first | omega | (simp_all; done) | (simp_all <;> omega)) ?_)
        refine hK _ ?_; clear hK K; refine Nav.imp ?_
        simp [push_cast]
      · rw [hb] at hv
        refine awp_region cx [] fun K hK => ?_
        simp [push_cast, e0]
        repeat (refine And.intro (by clear hK; intros; first | omega | (simp_all; done) | (simp_all <;> omega)) ?_)
        refine hK _ ?_; clear hK K; refine Nav.imp ?_
        refine ⟨k + 1, ⟨hlt, fun q hq => ?_⟩, by omega, ?_⟩
        · rw [take_get hr] at hq
          rcases List.mem_append.1 hq with hq | hq
          · exact hno q hq
          · simp at hq; subst hq; exact hv
        · refine weak_of [] rfl (by simp [upT, up, upL, push_cast]) (by simp [upH, upR, upL, up, push_cast]) (by simp [namesOk, push_cast]) (by simp [olds])
    · have hge : k = l.length := by simp at hb; omega
      subst hge
      rw [List.take_length] at hno
      have hi : idxR l x = -1 := by
        have h1 : inR l x = false := by
          rw [Bool.eq_false_iff]
          intro h
          obtain ⟨r, hr, h2, h3⟩ := inR_iff.1 h
          have := hno r hr
          simp [hitB, h2, h3] at this
        unfold idxR
        rw [h1]; rfl
      rw [hi]
      refine awp_region cx [] fun K hK => ?_
      simp [push_cast]
      repeat (refine And.intro (by clear hK; intros; first | omega | (simp_all; done) | (simp_all <;> omega)) ?_)
      refine hK _ ?_; clear hK K; refine Nav.imp ?_
      simp [push_cast]

theorem contf_ok (l : List Run) (x : Int) (hl : l.length ≤ 1000000) : PC Try.prog 73 [encRuns l, .fn (.func 74) [.rp [.int .i64 x]]] (.p (.bool (inR l x))) := by
  have c1 := index_ok l x hl
  have hi : decide (0 ≤ idxR l x) = inR l x := by
    unfold idxR
    split
    · rename_i h; rw [h]; simp
    · rename_i h; simp at h; rw [h]; simp
  generalize idxR l x = n at *
  refine pc_of_awp cx (fn := Try.f73) (c := _) Try.func73 rfl rfl (Nat.le_of_ble_eq_true rfl) ?_
  rw [Try.ntmps73]; refine Nav.imp ?_
  refine awp_region cx [] fun K hK => ?_
  simp [push_cast]
  repeat (refine And.intro (by clear hK; intros; first | omega | (simp_all; done) | (simp_all <;> omega)) ?_)
  refine hK _ ?_; clear hK K; refine Nav.imp ?_
  refine awp_region cx [(2, .p (.int .i64 n))] fun K hK => ?_
  simp [push_cast, c1]
  repeat (refine And.intro (by clear hK; intros; first | omega | (simp_all; done) | (simp_all <;> omega)) ?_)
  refine hK _ ?_; clear hK K; refine Nav.imp ?_
  simp [push_cast, hi]

theorem rcontains_ok (l : List Run) (x : Int) (hl : l.length ≤ 1000000) (hv : rvalid l = true) : PC Try.prog 42 [encRuns l, .int .i64 x] (.p (.bool (inR l x))) := by
  have c1 := rvalid_ok l hl
  have c2 := contf_ok l x hl
  rw [hv] at c1
  generalize inR l x = v at *
  refine pc_of_awp cx (fn := Try.f42) (c := _) Try.func42 rfl rfl (Nat.le_of_ble_eq_true rfl) ?_
  rw [Try.ntmps42]; refine Nav.imp ?_
  refine awp_region cx [] fun K hK => ?_
  simp [push_cast]
  repeat (refine And.intro (by clear hK; intros; first | omega | (simp_all; done) | (simp_all <;> omega)) ?_)
  refine hK _ ?_; clear hK K; refine Nav.imp ?_
  refine awp_freeze 0 ([[.int .i64 x]]) rfl (by simp [push_cast]) fun K hK => ?_
  simp [push_cast, St.fz, fzT, fzH, fzO, fz, fzL, fzR, fzR_dr, fzR_app, fzR_set, fzL_map]
  refine hK _ ?_; clear hK K; refine Nav.imp ?_
  refine awp_region cx [(1, .p (.bool true))] fun K hK => ?_
  simp [push_cast, c1]
  repeat (refine And.intro (by clear hK; intros; first | omega | (simp_all; done) | (simp_all <;> omega)) ?_)
  refine hK _ ?_; clear hK K; refine Nav.imp ?_
  refine awp_cond (b := false) (by simp [push_cast]) (fun hb => ?_) (fun hb => ?_) <;> (refine Nav.imp ?_)
  · simp at hb
  · refine awp_region cx [(2, .p (.bool v))] fun K hK => ?_
    simp [push_cast, c2]
    repeat (refine And.intro (by clear hK; intros; first | omega | (simp_all; done) | (simp_all <;> omega)) ?_)
    refine hK _ ?_; clear hK K; refine Nav.imp ?_
    simp [push_cast]



theorem contains_ok (R : List Row) (c : Cell) (hR : smallR R) : PC Try.prog 19 [.agg (regRow R), .agg c.row] (.p (.bool (conB R c))) := by
  have c1 := valid_ok R hR
  obtain ⟨x, y⟩ := c
  have hC : conB R ⟨x, y⟩ = (validR R && inR (rowOf R y) x) := rfl
  rw [hC]
  clear hC
  cases hv : validR R with
  | false =>
    rw [hv] at c1
    refine pc_of_awp cx (fn := Try.f19) (c := _) Try.func19 rfl rfl (Nat.le_of_ble_eq_true rfl) ?_
    rw [Try.ntmps19]; refine Nav.imp ?_
    refine awp_region cx [] fun K hK => ?_
    simp [push_cast]
    repeat (refine And.intro (by clear hK; intros; first | omega | (simp_all; done) | (simp_all <;> omega)) ?_)
    refine hK _ ?_; clear hK K; refine Nav.imp ?_
    refine awp_region_draw cx mixed [(1, .p (.bool false)), (6, .skip), (9, .skip)] fun K hK => ?_
    simp [push_cast, c1]
    repeat (refine And.intro (by clear hK; intros; first | omega | (simp_all; done) | (simp_all <;> omega)) ?_)
    refine hK _ _ (by kernel_rfl) ?_; clear hK K; refine Nav.imp ?_
    simp [push_cast]
  | true =>
    rw [hv] at c1
    have hlr : (rowOf R y).length ≤ 1000000 := by
      unfold rowOf
      split
      · rename_i w h; exact hR.2 w (List.mem_of_find?_eq_some h)
      · simp
    have c2 := row_ok R y hR hv
    have c3 := rcontains_ok (rowOf R y) x hlr (rowOf_rv hv y)
    generalize inR (rowOf R y) x = v at *
    generalize rowOf R y = r at *
    refine pc_of_awp cx (fn := Try.f19) (c := _) Try.func19 rfl rfl (Nat.le_of_ble_eq_true rfl) ?_
    rw [Try.ntmps19]; refine Nav.imp ?_
    refine awp_region cx [] fun K hK => ?_
    simp [push_cast]
    repeat (refine And.intro (by clear hK; intros; first | omega | (simp_all; done) | (simp_all <;> omega)) ?_)
    refine hK _ ?_; clear hK K; refine Nav.imp ?_
    refine awp_region_draw cx mixed [(1, .p (.bool true)), (6, .p (encRuns r)), (9, .p (.bool v))] fun K hK => ?_
    simp [push_cast, c1, c2, c3]
    repeat (refine And.intro (by clear hK; intros; first | omega | (simp_all; done) | (simp_all <;> omega)) ?_)
    refine hK _ _ (by kernel_rfl) ?_; clear hK K; refine Nav.imp ?_
    simp [push_cast]
end Go.Proofs.Ytknelhiejjdioaa

set_option linter.unusedVariables false
set_option linter.unusedSimpArgs false
namespace Go.Abs
open Go.Shelf Go.RowKit Go.Lib Go.Sort Go.Proofs

abbrev iRow (x : Int) : List D := [.int .i64 x]
abbrev encI (x : Int) : Value := .int .i64 x

theorem heap_rowI (w : World) (blk n : Nat) (d : Array Int) (os : Array Obj) {b : Nat} (hb : b < w.heap.size) (hne : b ≠ blk) : (grow (putRow encI (Go.Sort.ahead w n) blk 0 d) os).heap[b]? = w.heap[b]? := by
  rw [heap_grow_old _ _ (by simpa [putRow, mapBlock, heap_ahead] using hb)]
  simp only [putRow, mapBlock, heap_ahead]
  rw [Array.getElem?_modify, if_neg (fun h => hne h.symm)]
theorem heap_rowI_blk (w : World) (blk n : Nat) (d : Array Int) (os : Array Obj) {cur : Array Value} {e : TypeId} {fr : Nat × Nat} (h : w.heap[blk]? = some (.cells cur e fr)) : (grow (putRow encI (Go.Sort.ahead w n) blk 0 d) os).heap[blk]? = some (.cells (Go.Sort.putCells encI 0 d cur) e fr) := by
  have hb : blk < w.heap.size := (Array.getElem?_eq_some_iff.1 h).1
  rw [heap_grow_old _ _ (by simpa [putRow, mapBlock, heap_ahead] using hb)]
  simp only [putRow, mapBlock, heap_ahead]
  rw [Array.getElem?_modify, if_pos rfl, h]
  rfl
theorem size_rowI (w : World) (blk n : Nat) (d : Array Int) (os : Array Obj) : w.heap.size ≤ (grow (putRow encI (Go.Sort.ahead w n) blk 0 d) os).heap.size := by
  rw [size_grow]; simp [putRow, mapBlock, heap_ahead]
theorem drawn_rowI (w : World) (blk n : Nat) (d : Array Int) (os : Array Obj) : w.drawn ≤ (grow (putRow encI (Go.Sort.ahead w n) blk 0 d) os).drawn := by
  simp [grow, putRow, mapBlock, ahead]

/-- A function that writes numbers into the row that it is handed. -/
theorem int_px {P : Program} {f : FuncId} (hent : Enters P f) (e : TypeId) {zs ys : List Int} (hn : 0 < zs.length) (hlen : ys.length = zs.length) (rv : Nat → Nat → Value) (rA : AV)
    (hrep : ∀ (g : G) (w : World) (L : Loc), g.used 0 → g.loc 0 = some L → (L.virt = false ∧ L.map = false) → zs.length ≤ L.cap → RepA g w rA (rv L.blk L.cap))
    (hc : ∀ (blk cap : Nat) (w : World), Holds encI w blk 0 zs.toArray → blk < w.heap.size → zs.length ≤ cap → Calls P f #[.slice (some ⟨blk, 0, none⟩) zs.length cap] w fun e w' => e = .returned (rv blk cap) ∧ ∃ n os, w' = grow (putRow encI (Go.Sort.ahead w n) blk 0 ys.toArray) os) :
    PX P f [.hs 0 0 zs.length] [(0, ⟨e, 1, dr (zs.map iRow)⟩)] [(0, 0)] [(0, ⟨e, 1, dr (ys.map iRow)⟩)] rA := by
  refine ⟨hent, fun g w vs h hu hvs => ?_⟩
  simp only [RepAs] at hvs
  obtain ⟨v0, _, rfl, h0, rfl⟩ := hvs
  obtain ⟨L0, hL, hok⟩ := h.own 0 ⟨e, 1, dr (zs.map iRow)⟩ (by simp [objL, find])
  have hkm : L0.m = 1 := hok.m
  have hlenr : (dr (zs.map iRow)).length = zs.length := by simp [dr]
  have hvirt : L0.virt = false := by
    cases hv : L0.virt with
    | false => rfl
    | true =>
      have h2 : (dr (zs.map iRow)).length = 0 := by rw [show dr (zs.map iRow) = [] from hok.virt hv]; rfl
      omega
  simp only [RepA] at h0
  have hflat : L0.virt = false ∧ L0.map = false := by
    rcases h0.2 L0 hL with ⟨hv, _⟩ | ⟨hv, _⟩
    · rw [hvirt] at hv; cases hv
    · exact hv
  have hvm := hflat.2
  obtain ⟨cur, hblk, hcs, hcap, hrows⟩ := hok.cells hflat
  have e0 : v0 = .slice (some ⟨L0.blk, 0, none⟩) zs.length L0.cap := by
    rcases h0.2 L0 hL with ⟨hv, _⟩ | ⟨_, _, hv⟩
    · rw [hvirt] at hv; cases hv
    · rw [hv]; simp
  have hcapl : zs.length ≤ L0.cap := by have := hok.len hvm; rw [hlenr] at this; exact this
  have hblt : L0.blk < w.heap.size := (Array.getElem?_eq_some_iff.1 hblk).1
  have hcsz : cur.size = L0.cap := by rw [hcs, hkm]; simp
  have hget : ∀ i (hi : i < zs.length), cur[i]? = some (encI zs[i]) := fun i hi => by
    have hrow := hrows i ((iRow zs[i]).map AV.d) (by simp [dr, hi])
    obtain ⟨u, hu1, hu2, hu3⟩ := hrow.2 0 (.d (.int .i64 zs[i])) (by simp)
    rw [hkm] at hu1
    simp only [RepA, RepD] at hu3
    rw [hu3] at hu1
    simpa using hu1
  have hH : Holds encI w L0.blk 0 zs.toArray := by
    intro j hj
    have hj' : j < zs.length := by simpa using hj
    have h1 := hget j hj'
    refine ⟨?_, ?_⟩
    · simp only [World.cell?, hblk, Nat.zero_add, Option.isSome_none, Bool.false_eq_true, if_false]
      rw [h1, getElem!_pos zs.toArray j hj]
      simp
    · simp only [World.frozen?, hblk]
      simp
  rw [e0]
  refine (hc L0.blk L0.cap w hH hblt hcapl).mono ?_
  rintro ex w' ⟨rfl, n, os, rfl⟩
  have hbs := heap_rowI_blk w L0.blk n ys.toArray os hblk
  obtain ⟨g', h1, h2, h3, h4, h5, h6⟩ := HRel.write h hL hflat (id' := 0) (.inl rfl) ⟨e, 1, dr (ys.map iRow)⟩ (Go.Sort.putCells encI 0 ys.toArray cur) (w' := grow (putRow encI (Go.Sort.ahead w n) L0.blk 0 ys.toArray) os) (cap := L0.cap) (B := L0.blk) rfl ⟨rfl, drawn_rowI _ _ _ _ _⟩ rfl (size_rowI _ _ _ _ _)
    (fun b hb hne => heap_rowI _ _ _ _ _ hb hne) (.inl rfl) hbs hkm.symm hok.pos (by simp only [Go.Sort.putCells, Array.size_mapIdx]; rw [hcs]) (by simp [dr]; omega) hcap (fun _ => ⟨rfl, rfl⟩) (by
      intro i row hi
      have hil : i < ys.length := by have := (List.getElem?_eq_some_iff.1 hi).1; simpa [dr] using this
      have hrow : row = (iRow ys[i]).map AV.d := by
        have : (dr (ys.map iRow))[i]? = some ((iRow ys[i]).map AV.d) := by simp [dr, hil]
        rw [this] at hi; exact (Option.some.inj hi).symm
      subst hrow
      refine ⟨by simp [hkm], fun j av hj => ?_⟩
      have hj0 : j = 0 := by have := (List.getElem?_eq_some_iff.1 hj).1; simp at this; omega
      subst hj0
      have hav : av = .d (.int .i64 ys[i]) := by simpa using hj.symm
      subst hav
      refine ⟨encI ys[i], ?_, rfl, by simp only [RepA, RepD]⟩
      rw [hkm]
      have hic : i < cur.size := by omega
      simp only [Go.Sort.putCells, Nat.mul_one, Nat.add_zero, Array.getElem?_mapIdx, Array.getElem?_eq_getElem hic, Option.map_some]
      rw [if_pos ⟨Nat.zero_le _, by simp; omega⟩]
      have : ys.toArray[i - 0]! = ys[i] := by rw [Nat.sub_zero, getElem!_pos ys.toArray i (by simpa using hil)]; simp
      rw [this])
  refine ⟨_, g', rfl, ?_, ?_, h5, ?_⟩
  · have : (upd1 (upd1 (objL [(0, ⟨e, 1, dr (zs.map iRow)⟩)]) 0 none) 0 (some ⟨e, 1, dr (ys.map iRow)⟩)) = objL [(0, ⟨e, 1, dr (ys.map iRow)⟩)] := by
      funext x
      simp only [upd1, objL, find]
      by_cases hx : x = 0
      · subst hx; simp
      · have hx' : ¬ (0 = x) := fun h => hx h.symm
        simp [hx, hx']
    rw [← this]; exact h4
  · exact hrep g' _ ⟨L0.blk, L0.m, L0.cap, false, false⟩ (by rw [h2]; exact .inr rfl) h1 ⟨rfl, rfl⟩ hcapl
  · intro i j hij
    simp only [List.mem_cons, List.not_mem_nil, or_false, Prod.mk.injEq] at hij
    obtain ⟨rfl, rfl⟩ := hij
    rw [h1, hL]
    cases L0; simp_all

/-- .. one that leaves an empty row as it is. -/
theorem int_px0 {P : Program} {f : FuncId} (hent : Enters P f) (e : TypeId) (rv : Option Addr → Nat → Value) (rA : AV)
    (hrep : ∀ (g : G) (w : World) p c, RepA g w (.hs 0 0 0) (.slice p 0 c) → RepA g w rA (rv p c))
    (hc : ∀ p c (w : World), Calls P f #[.slice p 0 c] w fun e w' => e = .returned (rv p c) ∧ w' = w) :
    PX P f [.hs 0 0 0] [(0, ⟨e, 1, []⟩)] [(0, 0)] [(0, ⟨e, 1, []⟩)] rA := by
  refine ⟨hent, fun g w vs h hu hvs => ?_⟩
  simp only [RepAs] at hvs
  obtain ⟨v0, _, rfl, h0, rfl⟩ := hvs
  have h00 := h0
  obtain ⟨L0, hL, hok⟩ := h.own 0 ⟨e, 1, []⟩ (by simp [objL, find])
  simp only [RepA] at h0
  have e0 : ∃ p c, v0 = .slice p 0 c := by
    rcases h0.2 L0 hL with ⟨_, _, _, hv⟩ | ⟨_, _, hv⟩
    · exact ⟨_, _, hv⟩
    · exact ⟨_, _, hv⟩
  obtain ⟨p, c, rfl⟩ := e0
  refine (hc p c w).mono ?_
  rintro ex w' ⟨rfl, rfl⟩
  refine ⟨_, g, rfl, h, hrep _ _ _ _ h00, Step.refl g _, ?_⟩
  intro i j hij
  simp only [List.mem_cons, List.not_mem_nil, or_false, Prod.mk.injEq] at hij
  obtain ⟨rfl, rfl⟩ := hij
  rfl

/-- slices.Sort at numbers. -/
theorem sortI_px {P : Program} {ρ : Ren} (L : Lays.n189 P ρ) (hent : Enters P (ρ.f 189)) (e : TypeId) (zs : List Int) (hsz : zs.length < 4611686018427387904) :
    PX P (ρ.f 189) [.hs 0 0 zs.length] [(0, ⟨e, 1, dr (zs.map iRow)⟩)] [(0, 0)] [(0, ⟨e, 1, dr ((zs.mergeSort fun x y => decide (x ≤ y)).map iRow)⟩)] (.tup []) := by
  by_cases hn : 0 < zs.length
  · exact int_px hent e hn (List.length_mergeSort zs) (fun _ _ => .tuple #[]) (.tup []) (fun g w L _ _ _ _ => by simp only [RepA, RepAs]; exact ⟨[], rfl, rfl⟩)
      fun blk cap w hH hb _ => Any.slices_Sort_int L blk 0 cap zs w hH hb hsz
  · have : zs = [] := List.eq_nil_of_length_eq_zero (by omega)
    subst this
    have := int_px0 hent e (fun _ _ => .tuple #[]) (.tup []) (fun g w p c _ => by simp only [RepA, RepAs]; exact ⟨[], rfl, rfl⟩) fun p c w => Any.slices_Sort_int_none L p c w
    simpa [dr] using this

/-- slices.Compact at numbers. -/
theorem compactI_px {P : Program} {ρ : Ren} (L : Lays2.n20 P ρ) (hent : Enters P (ρ.f 20)) (e : TypeId) (zs : List Int) (hsz : zs.length ≤ 9223372036854775807) :
    PX P (ρ.f 20) [.hs 0 0 zs.length] [(0, ⟨e, 1, dr (zs.map iRow)⟩)] [(0, 0)] [(0, ⟨e, 1, dr ((Lib.compact zs ++ List.replicate (zs.length - (Lib.compact zs).length) 0).map iRow)⟩)] (.hs 0 0 (Lib.compact zs).length) := by
  have hle := Lib.compact_length_le zs
  by_cases hn : 0 < zs.length
  · refine int_px hent e hn (by simp; omega) (fun blk cap => .slice (some ⟨blk, 0, none⟩) (Lib.compact zs).length cap) (.hs 0 0 (Lib.compact zs).length) (fun g w L hu hL hv hcap => ?_) fun blk cap w hH hb hcap => ?_
    · have := rep_hs (L := L) (w := w) hu hL hv (len := (Lib.compact zs).length) (by omega)
      exact this
    · refine (Any.slices_Compact_int L blk 0 cap zs w hH hsz hcap).mono ?_
      rintro ex w' ⟨h1, q, h2⟩
      exact ⟨h1, q, #[], by rw [grow_empty]; exact h2⟩
  · have : zs = [] := List.eq_nil_of_length_eq_zero (by omega)
    subst this
    have := int_px0 hent e (fun p c => .slice p 0 c) (.hs 0 0 0) (fun g w p c h => h) fun p c w => Any.slices_Compact_int_empty L p c w
    have hc : Lib.compact ([] : List Int) = [] := rfl
    simpa [dr, hc] using this

/-- Of numbers in their order each once. -/
theorem compact_sorted {zs : List Int} (h : zs.Pairwise (· ≤ ·)) : (Lib.compact zs).Pairwise (· < ·) ∧ ∀ y, y ∈ Lib.compact zs ↔ y ∈ zs := by
  have key : ∀ m, m ≤ zs.length → (Lib.compactUpTo zs.toArray m).Pairwise (· < ·) ∧ (∀ y, y ∈ Lib.compactUpTo zs.toArray m ↔ y ∈ zs.take m) := by
    intro m
    induction m with
    | zero => intro _; simp [Lib.compactUpTo]
    | succ m ih =>
      intro hm
      obtain ⟨ih1, ih2⟩ := ih (by omega)
      have hlt : m < zs.length := by omega
      have hg : zs.toArray[m]! = zs[m] := by rw [getElem!_pos zs.toArray m (by simpa using hlt)]; simp
      have htk : zs.take (m + 1) = zs.take m ++ [zs[m]] := by rw [List.take_add_one, List.getElem?_eq_getElem hlt]; rfl
      rw [Lib.compactUpTo_succ, htk, hg]
      by_cases hk : Lib.keeps zs.toArray m = true
      · rw [if_pos hk]
        refine ⟨?_, fun y => by rw [List.mem_append, List.mem_append, ih2]⟩
        rw [List.pairwise_append]
        refine ⟨ih1, by simp, fun a ha b hb => ?_⟩
        simp at hb; subst hb
        rw [ih2] at ha
        obtain ⟨j, hj, rfl⟩ := List.mem_iff_getElem.1 ha
        have hjm : j < m := by simp at hj; omega
        rw [List.getElem_take]
        have hm0 : 0 < m := by omega
        have hg1 : zs.toArray[m - 1]! = zs[m - 1] := by rw [getElem!_pos zs.toArray (m - 1) (by simp; omega)]; simp
        simp only [Lib.keeps, hg, hg1, decide_eq_true_eq] at hk
        have h1 := List.pairwise_iff_getElem.1 h (m - 1) m (by omega) hlt (by omega)
        have h2 : zs[j] ≤ zs[m - 1] := by
          by_cases e : j = m - 1
          · subst e; exact Int.le_refl _
          · exact List.pairwise_iff_getElem.1 h j (m - 1) (by omega) (by omega) (by omega)
        have h3 : zs[m] ≠ zs[m - 1] := by rcases hk with hk | hk; omega; exact hk
        omega
      · rw [if_neg hk, List.append_nil]
        refine ⟨ih1, fun y => ?_⟩
        rw [ih2]
        simp only [Lib.keeps, decide_eq_true_eq] at hk
        have hm0 : m ≠ 0 := fun e => hk (.inl e)
        have hg1 : zs.toArray[m - 1]! = zs[m - 1] := by rw [getElem!_pos zs.toArray (m - 1) (by simp; omega)]; simp
        have he : zs[m] = zs[m - 1] := by
          apply Classical.byContradiction
          intro hne
          exact hk (.inr (by rw [hg, hg1]; exact hne))
        simp only [List.mem_append, List.mem_singleton]
        constructor
        · exact .inl
        · rintro (h1 | h1)
          · exact h1
          · rw [h1, he]
            exact List.mem_iff_getElem.2 ⟨m - 1, by simp; omega, by rw [List.getElem_take]⟩
  have := key zs.length (Nat.le_refl _)
  rw [List.take_length] at this
  exact this
end Go.Abs

set_option linter.unusedVariables false
set_option linter.unusedSimpArgs false
set_option maxRecDepth 100000
namespace Go.Proofs.Ytknelhiejjdioaa
open Go.Abs Go.Shelf

def sortInt_ren : Go.Shelf.Ren := ⟨fun | 189 => 65 | 125 => 90 | 257 => 92 | 128 => 110 | 129 => 111 | 294 => 120 | 295 => 121 | 296 => 122 | 297 => 123 | 298 => 124 | 299 => 125 | 216 => 126 | 300 => 127 | 301 => 128 | 328 => 138 | 329 => 131 | 330 => 132 | 331 => 139 | 332 => 140 | 215 => 99 | 343 => 143 | n => n, fun | 28 => 83 | 3 => 3 | 46 => 111 | 0 => 0 | 51 => 131 | 53 => 133 | 4 => 4 | 183 => 125 | 182 => 124 | 131 => 93 | 5 => 5 | 9 => 9 | 218 => 145 | 222 => 149 | 228 => 155 | 229 => 156 | n => n, fun n => n⟩
theorem sortInt_lays : Lays.n189 Try.prog sortInt_ren where
  mixed := by kernel_rfl
  f125 := Try.func90.trans (congrArg some (by kernel_rfl))
  f128 := Try.func110.trans (congrArg some (by kernel_rfl))
  f129 := Try.func111.trans (congrArg some (by kernel_rfl))
  f189 := Try.func65.trans (congrArg some (by kernel_rfl))
  f215 := Try.func99.trans (congrArg some (by kernel_rfl))
  f216 := Try.func126.trans (congrArg some (by kernel_rfl))
  f257 := Try.func92.trans (congrArg some (by kernel_rfl))
  f294 := Try.func120.trans (congrArg some (by kernel_rfl))
  f295 := Try.func121.trans (congrArg some (by kernel_rfl))
  f296 := Try.func122.trans (congrArg some (by kernel_rfl))
  f297 := Try.func123.trans (congrArg some (by kernel_rfl))
  f298 := Try.func124.trans (congrArg some (by kernel_rfl))
  f299 := Try.func125.trans (congrArg some (by kernel_rfl))
  f300 := Try.func127.trans (congrArg some (by kernel_rfl))
  f301 := Try.func128.trans (congrArg some (by kernel_rfl))
  f328 := Try.func138.trans (congrArg some (by kernel_rfl))
  f329 := Try.func131.trans (congrArg some (by kernel_rfl))
  f330 := Try.func132.trans (congrArg some (by kernel_rfl))
  f331 := Try.func139.trans (congrArg some (by kernel_rfl))
  f332 := Try.func140.trans (congrArg some (by kernel_rfl))
  f343 := Try.func143.trans (congrArg some (by kernel_rfl))
  t0 := Try.underlying0
  a0 := Try.isAgg0
  z0 := Try.sizeOf0
  v0 := Try.zeroValue0
  t3 := Try.underlying3
  a3 := Try.isAgg3
  z3 := Try.sizeOf3
  v3 := Try.zeroValue3
  t4 := Try.underlying4
  a4 := Try.isAgg4
  z4 := Try.sizeOf4
  v4 := Try.zeroValue4
  t5 := Try.underlying5
  a5 := Try.isAgg5
  z5 := Try.sizeOf5
  v5 := Try.zeroValue5
  t9 := Try.underlying9
  a9 := Try.isAgg9
  z9 := Try.sizeOf9
  v9 := Try.zeroValue9
  t28 := Try.underlying83
  a28 := Try.isAgg83
  z28 := Try.sizeOf83
  v28 := Try.zeroValue83
  t46 := Try.underlying111
  a46 := Try.isAgg111
  z46 := Try.sizeOf111
  v46 := Try.zeroValue111
  t51 := Try.underlying131
  a51 := Try.isAgg131
  z51 := Try.sizeOf131
  v51 := Try.zeroValue131
  t53 := Try.underlying133
  a53 := Try.isAgg133
  z53 := Try.sizeOf133
  v53 := Try.zeroValue133
  t131 := Try.underlying93
  a131 := Try.isAgg93
  z131 := Try.sizeOf93
  v131 := Try.zeroValue93
  t182 := Try.underlying124
  a182 := Try.isAgg124
  z182 := Try.sizeOf124
  v182 := Try.zeroValue124
  t183 := Try.underlying125
  a183 := Try.isAgg125
  z183 := Try.sizeOf125
  v183 := Try.zeroValue125
  t218 := Try.underlying145
  a218 := Try.isAgg145
  z218 := Try.sizeOf145
  v218 := Try.zeroValue145
  t222 := Try.underlying149
  a222 := Try.isAgg149
  z222 := Try.sizeOf149
  v222 := Try.zeroValue149
  t228 := Try.underlying155
  a228 := Try.isAgg155
  z228 := Try.sizeOf155
  v228 := Try.zeroValue155
  t229 := Try.underlying156
  a229 := Try.isAgg156
  z229 := Try.sizeOf156
  v229 := Try.zeroValue156
def compactInt_ren : Go.Shelf.Ren := ⟨fun | 20 => 66 | n => n, fun | 22 => 83 | 3 => 3 | 4 => 4 | 0 => 0 | n => n, fun n => n⟩
theorem compactInt_lays : Lays2.n20 Try.prog compactInt_ren where
  mixed := by kernel_rfl
  f20 := Try.func66.trans (congrArg some (by kernel_rfl))
  t0 := Try.underlying0
  a0 := Try.isAgg0
  z0 := Try.sizeOf0
  v0 := Try.zeroValue0
  t3 := Try.underlying3
  a3 := Try.isAgg3
  z3 := Try.sizeOf3
  v3 := Try.zeroValue3
  t4 := Try.underlying4
  a4 := Try.isAgg4
  z4 := Try.sizeOf4
  v4 := Try.zeroValue4
  t22 := Try.underlying83
  a22 := Try.isAgg83
  z22 := Try.sizeOf83
  v22 := Try.zeroValue83
  i3 := by kernel_rfl

theorem sortInts_px (l : List Int) (hl : l.length ≤ 1000000000) : PX Try.prog 65 [.hs 0 0 l.length] [(0, ⟨3, 1, dr (l.map iRow)⟩)] [(0, 0)] [(0, ⟨3, 1, dr ((l.mergeSort fun x y => decide (x ≤ y)).map iRow)⟩)] (.tup []) :=
  sortI_px sortInt_lays ⟨_, Try.func65, by kernel_rfl, by kernel_rfl⟩ 3 l (by omega)
theorem compactInts_px (l : List Int) (hl : l.length ≤ 1000000000) : PX Try.prog 66 [.hs 0 0 l.length] [(0, ⟨3, 1, dr (l.map iRow)⟩)] [(0, 0)] [(0, ⟨3, 1, dr ((Go.Lib.compact l ++ List.replicate (l.length - (Go.Lib.compact l).length) 0).map iRow)⟩)] (.hs 0 0 (Go.Lib.compact l).length) :=
  compactI_px compactInt_lays ⟨_, Try.func66, by kernel_rfl, by kernel_rfl⟩ 3 l (by omega)

theorem free_runs : ∀ l : List Run, D.freess (l.map Run.row) = true
  | [] => rfl
  | c :: l => by simp [D.freess, D.frees, D.free, free_runs l]
theorem cloneR_ok (l : List Run) (hl : l.length ≤ 100000000) : PC Try.prog 67 [encRuns l] (.f (encRuns l)) := by
  have h16 : l.length * 16 ≤ 140737488355328 := by omega
  refine pc_of_awp cx (fn := Try.f67) (c := _) Try.func67 rfl rfl (Nat.le_of_ble_eq_true rfl) ?_
  rw [Try.ntmps67]; refine Nav.imp ?_
  refine awp_region cx [] fun K hK => ?_
  simp [push_cast]
  repeat (refine And.intro (by clear hK; intros; first | omega | (simp_all; done) | (simp_all <;> omega)) ?_)
  refine hK _ ?_; clear hK K; refine Nav.imp ?_
  refine awp_region cx [] fun K hK => ?_
  simp [push_cast]
  repeat (refine And.intro (by clear hK; intros; first | omega | (simp_all; done) | (simp_all <;> omega)) ?_)
  refine hK _ ?_; clear hK K; refine Nav.imp ?_
  refine awp_ub 4 (by simp [push_cast]; exact ⟨rfl, rfl⟩) fun bu hu1 hu2 => ?_
  refine awp_cond (b := bu) (by simp [push_cast]) (fun hb => ?_) (fun hb => ?_) <;> (refine Nav.imp ?_)
  · have hl0 : l = [] := by simpa using hu1 hb
    subst hl0
    refine awp_region cx [] fun K hK => ?_
    simp [push_cast]
    repeat (refine And.intro (by clear hK; intros; first | omega | (simp_all; done) | (simp_all <;> omega)) ?_)
    refine hK _ ?_; clear hK K; refine Nav.imp ?_
    simp [push_cast]
  · refine awp_region cx [] fun K hK => ?_
    simp [push_cast, h16]
    repeat (refine And.intro (by clear hK; intros; first | omega | (simp_all; done) | (simp_all <;> omega)) ?_)
    refine hK _ ?_; clear hK K; refine Nav.imp ?_
    have ht : List.take l.length (l.map Run.row) = l.map Run.row := List.take_of_length_le (by simp)
    simp [push_cast, ht, free_runs]
end Go.Proofs.Ytknelhiejjdioaa

set_option linter.unusedVariables false
set_option linter.unusedSimpArgs false
set_option maxRecDepth 100000
namespace Go.Proofs.Ytknelhiejjdioaa
open Go.Abs

theorem take_flat_one' {α β : Type} {f : α → List β} (h : ∀ x, (f x).length ≤ 1) (l : List α) (k : Nat) : ((l.take k).flatMap f).length ≤ l.length := by
  have key : ∀ m : List α, (m.flatMap f).length ≤ m.length := by
    intro m
    induction m with
    | nil => simp
    | cons x m ih => have := h x; rw [List.flatMap_cons, List.length_append, List.length_cons]; omega
  have := key (l.take k)
  simp at this ⊢; omega
theorem swOut_len (now o : Bool) (out : List Run) (x : Int) : (swOut now o out x).length ≤ out.length + 1 := by
  unfold swOut
  split
  · simp
  · split
    · simp
      try omega
    · omega
theorem swF_len (f : Bool → Bool → Bool) (a b : List Run) : ∀ (n p q : Nat) (out : List Run) (o : Bool), (swF f a b n p q out o).length ≤ out.length + n
  | 0, _, _, out, _ => by simp [swF]
  | n + 1, p, q, out, o => by
    unfold swF
    split
    · omega
    · refine Nat.le_trans (swF_len f a b n _ _ _ _) ?_
      have := swOut_len (f (swP a (swX a b p q) p % 2 == 1) (swP b (swX a b p q) q % 2 == 1)) o out (swX a b p q)
      omega
theorem sweep_len (f : Bool → Bool → Bool) (a b : List Run) : (sweep f a b).length ≤ 2 * a.length + 2 * b.length := by
  unfold sweep
  split
  · simpa using swF_len f a b (2 * a.length + 2 * b.length) 0 0 [] false
  · simp
theorem rowOf_len {R : List Row} (hR : smallR R) (y : Int) : (rowOf R y).length ≤ 1000000 := by
  unfold rowOf
  split
  · rename_i w h; exact hR.2 w (List.mem_of_find?_eq_some h)
  · simp
theorem opRow_len (f : Bool → Bool → Bool) (a b : List Row) (y : Int) : (opRow f a b y).length ≤ 1 := by unfold opRow; split <;> simp
/-- The rows' numbers that the first k regions give. -/
def ysK (a b : List Row) (k : Nat) : List Int := if k = 0 then [] else if k = 1 then a.map Row.y else a.map Row.y ++ b.map Row.y

set_option maxHeartbeats 4000000 in
theorem combine_big (f : Bool → Bool → Bool) (hf : f false false = false) (g : FuncId) (hg : ∀ x y : List Run, x.length ≤ 1000000 → y.length ≤ 1000000 → rvalid x = true → rvalid y = true → PC Try.prog g [encRuns x, encRuns y] (.p (encRuns (sweep f x y)))) (a b : List Row) (hA : bigR a) (hB : bigR b) :
    PC Try.prog 38 [.agg (regRow a), .agg (regRow b), .fn (.func g) []] (.p (.agg (regRow (opR f a b)))) := by
  have c1 := valid_big a hA
  have c2 := valid_big b hB
  have hop : opR f a b = if validR a && validR b then opOn f a b (dedup (allY a b)) else [] := rfl
  cases ha : validR a with
  | false =>
    rw [ha] at c1
    have h0 : opR f a b = [] := by rw [hop, ha]; simp
    rw [h0]
    refine pc_of_awp cx (fn := Try.f38) (c := _) Try.func38 rfl rfl (Nat.le_of_ble_eq_true rfl) ?_
    rw [Try.ntmps38]; refine Nav.imp ?_
    refine awp_region cx [] fun K hK => ?_
    simp [push_cast]
    repeat (refine And.intro (by clear hK; intros; first | omega | (simp_all; done) | (simp_all <;> omega)) ?_)
    refine hK _ ?_; clear hK K; refine Nav.imp ?_
    refine awp_region cx [(1, .p (.bool false)), (5, .skip)] fun K hK => ?_
    simp [push_cast, c1]
    repeat (refine And.intro (by clear hK; intros; first | omega | (simp_all; done) | (simp_all <;> omega)) ?_)
    refine hK _ ?_; clear hK K; refine Nav.imp ?_
    refine awp_cond (b := true) (by simp [push_cast]) (fun hb => ?_) (fun hb => ?_) <;> (refine Nav.imp ?_)
    · refine awp_region cx [] fun K hK => ?_
      simp [push_cast]
      repeat (refine And.intro (by clear hK; intros; first | omega | (simp_all; done) | (simp_all <;> omega)) ?_)
      refine hK _ ?_; clear hK K; refine Nav.imp ?_
      simp [push_cast]
    · simp at hb
  | true =>
    rw [ha] at c1
    cases hb0 : validR b with
    | false =>
      rw [hb0] at c2
      have h0 : opR f a b = [] := by rw [hop, ha, hb0]; simp
      rw [h0]
      refine pc_of_awp cx (fn := Try.f38) (c := _) Try.func38 rfl rfl (Nat.le_of_ble_eq_true rfl) ?_
      rw [Try.ntmps38]; refine Nav.imp ?_
      refine awp_region cx [] fun K hK => ?_
      simp [push_cast]
      repeat (refine And.intro (by clear hK; intros; first | omega | (simp_all; done) | (simp_all <;> omega)) ?_)
      refine hK _ ?_; clear hK K; refine Nav.imp ?_
      refine awp_region cx [(1, .p (.bool true)), (5, .p (.bool false))] fun K hK => ?_
      simp [push_cast, c1, c2]
      repeat (refine And.intro (by clear hK; intros; first | omega | (simp_all; done) | (simp_all <;> omega)) ?_)
      refine hK _ ?_; clear hK K; refine Nav.imp ?_
      refine awp_cond (b := true) (by simp [push_cast]) (fun hb => ?_) (fun hb => ?_) <;> (refine Nav.imp ?_)
      · refine awp_region cx [] fun K hK => ?_
        simp [push_cast]
        repeat (refine And.intro (by clear hK; intros; first | omega | (simp_all; done) | (simp_all <;> omega)) ?_)
        refine hK _ ?_; clear hK K; refine Nav.imp ?_
        simp [push_cast]
      · simp at hb
    | true =>
      rw [hb0] at c2
      replace hA := small_valid ha
      replace hB := small_valid hb0
      have hal := hA.1
      have hbl := hB.1
      have hon := fun ys hp hys => @opR_on f hf a b ha hb0 ys hp hys
      clear hop
      generalize opR f a b = res at *
      refine pc_of_awp cx (fn := Try.f38) (c := _) Try.func38 rfl rfl (Nat.le_of_ble_eq_true rfl) ?_
      rw [Try.ntmps38]; refine Nav.imp ?_
      refine awp_region cx [] fun K hK => ?_
      simp [push_cast]
      repeat (refine And.intro (by clear hK; intros; first | omega | (simp_all; done) | (simp_all <;> omega)) ?_)
      refine hK _ ?_; clear hK K; refine Nav.imp ?_
      refine awp_region cx [(1, .p (.bool true)), (5, .p (.bool true))] fun K hK => ?_
      simp [push_cast, c1, c2]
      repeat (refine And.intro (by clear hK; intros; first | omega | (simp_all; done) | (simp_all <;> omega)) ?_)
      refine hK _ ?_; clear hK K; refine Nav.imp ?_
      refine awp_cond (b := false) (by simp [push_cast]) (fun hb => ?_) (fun hb => ?_) <;> (refine Nav.imp ?_)
      · simp at hb
      · refine awp_region cx [] fun K hK => ?_
        simp [push_cast]
        repeat (refine And.intro (by clear hK; intros; first | omega | (simp_all; done) | (simp_all <;> omega)) ?_)
        refine hK _ ?_; clear hK K; refine Nav.imp ?_
        refine awp_region cx [] fun K hK => ?_
        simp [push_cast]
        repeat (refine And.intro (by clear hK; intros; first | omega | (simp_all; done) | (simp_all <;> omega)) ?_)
        refine hK _ ?_; clear hK K; refine Nav.imp ?_
        refine awp_loop (β := Nat × List Int) (fun s => ⟨76, [(2, .d (.fn (.func g) [])), (3, .ptr 0 0 0), (4, .ptr 1 0 0), (6, .ptr 2 0 0), (7, .hs 3 0 s.2.length), (27, .d (.agg [encRows a, encRows b])), (28, .d (.int .i64 s.1))], [(0, some ⟨24, 1, [(regRow a).map .d]⟩), (1, some ⟨24, 1, [(regRow b).map .d]⟩), (2, some ⟨24, 1, [[.nl]]⟩), (3, some ⟨3, 1, dr (s.2.map iRow)⟩)], 4⟩) (fun s => s.1 ≤ 2 ∧ s.2 = ysK a b s.1) (fun s => 2 - s.1) (0, []) ?_ ⟨by simp only; omega, by simp [ysK]⟩ ?_
        · refine weak_of [(0, some 0), (1, some 1), (2, some 2), (3, none)] rfl (by simp [upT, up, upL, push_cast]) (by simp [upH, upR, upL, up, push_cast]) (by simp [namesOk, push_cast]) (by simp [olds])
        · rintro ⟨k, Y⟩ ⟨hk, hY⟩
          simp only at hk hY
          refine Nav.imp ?_
          have hYl : Y.length ≤ 2000000 := by
            rw [hY]; unfold ysK; split <;> (try split) <;> simp <;> omega
          by_cases hk2 : k < 2
          · obtain ⟨R, hR⟩ : ∃ R, R = if k = 0 then a else b := ⟨_, rfl⟩
            have hRl : R.length ≤ 1000000 := by rw [hR]; split <;> omega
            have hnx : ysK a b (k + 1) = Y ++ R.map Row.y := by
              rw [hY, hR]
              rcases (by omega : k = 0 ∨ k = 1) with rfl | rfl <;> simp [ysK]
            have hYK : Y.length + R.length ≤ 2000000 := by
              have : (Y ++ R.map Row.y).length ≤ a.length + b.length := by
                rw [← hnx]; unfold ysK; split <;> (try split) <;> simp <;> omega
              simp at this; omega
            have e0 := wrap_i64 (n := (k : Int) + 1) (by omega) (by omega)
            have hk2' : (k : Int) < 2 := by omega
            clear hY
            apply cut_
            · intro key
              rcases (by omega : k = 0 ∨ k = 1) with hk0 | hk0
              · have hR : R = a := by rw [hR, hk0]; rfl
                refine awp_region cx [] fun K hK => ?_
                simp [push_cast, hk0]
                repeat (refine And.intro (by clear hK; intros; first | omega | (simp_all; done) | (simp_all <;> omega)) ?_)
                refine hK _ ?_; clear hK K; refine Nav.imp ?_
                refine awp_cond (b := true) (by simp [push_cast, hk0]) (fun hb => ?_) (fun hb => ?_) <;> (refine Nav.imp ?_)
                · refine awp_region cx [] fun K hK => ?_
                  simp [push_cast, hk0]
                  repeat (refine And.intro (by clear hK; intros; first | omega | (simp_all; done) | (simp_all <;> omega)) ?_)
                  refine hK _ ?_; clear hK K; refine Nav.imp ?_
                  refine awp_weak (s' := ⟨76, [(2, .d (.fn (.func g) [])), (3, .ptr 0 0 0), (4, .ptr 1 0 0), (6, .ptr 2 0 0), (7, .hs 3 0 Y.length), (9, .ptr 4 0 0), (27, .d (.agg [encRows a, encRows b])), (28, .d (.int .i64 k))], [(0, some ⟨24, 1, [(regRow a).map .d]⟩), (1, some ⟨24, 1, [(regRow b).map .d]⟩), (2, some ⟨24, 1, [[.nl]]⟩), (3, some ⟨3, 1, dr (Y.map iRow)⟩), (4, some ⟨24, 1, [(regRow R).map .d]⟩)], 5⟩) ?_ key.h
                  refine weak_of [(0, some 0), (1, some 1), (2, some 2), (3, some 3), (4, some 6)] rfl (by simp [upT, up, upL, push_cast, hk0, hR]) (by simp [upH, upR, upL, up, push_cast, hk0, hR]) (by simp [namesOk, push_cast]) (by simp [olds])
                · simp at hb
              · have hR : R = b := by rw [hR, hk0]; rfl
                refine awp_region cx [] fun K hK => ?_
                simp [push_cast, hk0]
                repeat (refine And.intro (by clear hK; intros; first | omega | (simp_all; done) | (simp_all <;> omega)) ?_)
                refine hK _ ?_; clear hK K; refine Nav.imp ?_
                refine awp_cond (b := true) (by simp [push_cast, hk0]) (fun hb => ?_) (fun hb => ?_) <;> (refine Nav.imp ?_)
                · refine awp_region cx [] fun K hK => ?_
                  simp [push_cast, hk0]
                  repeat (refine And.intro (by clear hK; intros; first | omega | (simp_all; done) | (simp_all <;> omega)) ?_)
                  refine hK _ ?_; clear hK K; refine Nav.imp ?_
                  refine awp_weak (s' := ⟨76, [(2, .d (.fn (.func g) [])), (3, .ptr 0 0 0), (4, .ptr 1 0 0), (6, .ptr 2 0 0), (7, .hs 3 0 Y.length), (9, .ptr 4 0 0), (27, .d (.agg [encRows a, encRows b])), (28, .d (.int .i64 k))], [(0, some ⟨24, 1, [(regRow a).map .d]⟩), (1, some ⟨24, 1, [(regRow b).map .d]⟩), (2, some ⟨24, 1, [[.nl]]⟩), (3, some ⟨3, 1, dr (Y.map iRow)⟩), (4, some ⟨24, 1, [(regRow R).map .d]⟩)], 5⟩) ?_ key.h
                  refine weak_of [(0, some 0), (1, some 1), (2, some 2), (3, some 3), (4, some 6)] rfl (by simp [upT, up, upL, push_cast, hk0, hR]) (by simp [upH, upR, upL, up, push_cast, hk0, hR]) (by simp [namesOk, push_cast]) (by simp [olds])
                · simp at hb
            · refine Nav.imp ?_
              refine awp_region cx [] fun K hK => ?_
              simp [push_cast]
              repeat (refine And.intro (by clear hK; intros; first | omega | (simp_all; done) | (simp_all <;> omega)) ?_)
              refine hK _ ?_; clear hK K; refine Nav.imp ?_
              refine awp_loop (β := Nat × List Int) (fun s => ⟨76, [(2, .d (.fn (.func g) [])), (3, .ptr 0 0 0), (4, .ptr 1 0 0), (6, .ptr 2 0 0), (7, .hs 3 0 s.2.length), (27, .d (.agg [encRows a, encRows b])), (28, .d (.int .i64 k)), (32, .d (encRows R)), (33, .d (.int .i64 R.length)), (34, .d (.int .i64 s.1))], [(0, some ⟨24, 1, [(regRow a).map .d]⟩), (1, some ⟨24, 1, [(regRow b).map .d]⟩), (2, some ⟨24, 1, [[.nl]]⟩), (3, some ⟨3, 1, dr (s.2.map iRow)⟩)], 4⟩) (fun s => s.1 ≤ R.length ∧ s.2 = Y ++ (R.take s.1).map Row.y) (fun s => R.length - s.1) (0, Y) ?_ ⟨Nat.zero_le _, by simp⟩ ?_
              · refine weak_of [(0, some 0), (1, some 1), (2, some 2), (3, some 3)] rfl (by simp [upT, up, upL, push_cast]) (by simp [upH, upR, upL, up, push_cast]) (by simp [namesOk, push_cast]) (by simp [olds])
              · rintro ⟨j, Z⟩ ⟨hj, hZ⟩
                simp only at hj hZ
                refine Nav.imp ?_
                refine awp_region cx [] fun K hK => ?_
                simp [push_cast]
                repeat (refine And.intro (by clear hK; intros; first | omega | (simp_all; done) | (simp_all <;> omega)) ?_)
                refine hK _ ?_; clear hK K; refine Nav.imp ?_
                refine awp_cond (b := decide ((j : Int) < R.length)) (by simp [push_cast]) (fun hb => ?_) (fun hb => ?_) <;> (refine Nav.imp ?_)
                · have hjl : j < R.length := by simpa using hb
                  obtain ⟨w, hw⟩ := getq hjl
                  have e1 := wrap_i64 (n := (j : Int) + 1) (by omega) (by omega)
                  have hZl : Z.length ≤ 2000000 := by rw [hZ]; simp; omega
                  have hZ8 : (Z.length + 1) * 8 ≤ 140737488355328 := by omega
                  have hnz : Y ++ (R.take (j + 1)).map Row.y = Z ++ [w.y] := by rw [take_get hw, List.map_append, hZ]; simp
                  obtain ⟨wy, wr⟩ := w
                  simp only at hnz
                  refine awp_region cx [] fun K hK => ?_
                  simp [push_cast, hw, Row.row]
                  repeat (refine And.intro (by clear hK; intros; first | omega | (simp_all; done) | (simp_all <;> omega)) ?_)
                  refine hK _ ?_; clear hK K; refine Nav.imp ?_
                  refine awp_region cx [] fun K hK => ?_
                  simp [push_cast, hZ8, Row.row]
                  repeat (refine And.intro (by clear hK; intros; first | omega | (simp_all; done) | (simp_all <;> omega)) ?_)
                  refine hK _ ?_; clear hK K; refine Nav.imp ?_
                  refine awp_region cx [] fun K hK => ?_
                  simp [push_cast, e1]
                  repeat (refine And.intro (by clear hK; intros; first | omega | (simp_all; done) | (simp_all <;> omega)) ?_)
                  refine hK _ ?_; clear hK K; refine Nav.imp ?_
                  refine ⟨(j + 1, Z ++ [wy]), ⟨hjl, hnz.symm⟩, by simp only; omega, ?_⟩
                  refine weak_of [(0, some 0), (1, some 1), (2, some 2), (3, some 13)] rfl (by simp [upT, up, upL, push_cast]) (by simp [upH, upR, upL, up, push_cast]) (by simp [namesOk, push_cast]) (by simp [olds])
                · have hjn : j = R.length := by simp at hb; omega
                  subst hjn
                  rw [List.take_length, ← hnx] at hZ
                  refine awp_region cx [] fun K hK => ?_
                  simp [push_cast, e0]
                  repeat (refine And.intro (by clear hK; intros; first | omega | (simp_all; done) | (simp_all <;> omega)) ?_)
                  refine hK _ ?_; clear hK K; refine Nav.imp ?_
                  refine ⟨(k + 1, Z), ⟨by simp only; omega, hZ⟩, by simp only; omega, ?_⟩
                  refine weak_of [(0, some 0), (1, some 1), (2, some 2), (3, some 3)] rfl (by simp [upT, up, upL, push_cast]) (by simp [upH, upR, upL, up, push_cast]) (by simp [namesOk, push_cast]) (by simp [olds])
          · have hk2 : k = 2 := by omega
            subst hk2
            have hY : Y = a.map Row.y ++ b.map Row.y := by rw [hY]; simp [ysK]
            have d1 := sortInts_px Y (by omega)
            have hsrt : (Y.mergeSort fun x y => decide (x ≤ y)) = allY a b := by rw [hY]; rfl
            rw [hsrt] at d1
            have hsl : (allY a b).length = Y.length := by rw [← hsrt]; exact List.length_mergeSort Y
            have d2 := compactInts_px (allY a b) (by omega)
            obtain ⟨q1, q2⟩ := compact_sorted (allY_le a b)
            have hcl := Go.Lib.compact_length_le (allY a b)
            have hres := hon (Go.Lib.compact (allY a b)) q1 (fun w hw => by
              rw [q2, (allY_perm a b).mem_iff, List.mem_append]
              rcases hw with h | h
              · exact .inl (List.mem_map_of_mem h)
              · exact .inr (List.mem_map_of_mem h))
            clear hon q1 q2 hsrt hY
            generalize allY a b = S at *
            generalize hC : Go.Lib.compact S = C at *
            generalize hZs : List.replicate (S.length - C.length) (0 : Int) = Zs at *
            have htk : List.take C.length ((C ++ Zs).map iRow) = C.map iRow := by rw [List.map_append, List.take_left' (by simp)]
            have hCl : C.length ≤ 2000000 := by omega
            have hCle : C.length ≤ (C ++ Zs).length := by simp
            generalize hE : C ++ Zs = E at *
            refine awp_region cx [] fun K hK => ?_
            simp [push_cast]
            repeat (refine And.intro (by clear hK; intros; first | omega | (simp_all; done) | (simp_all <;> omega)) ?_)
            refine hK _ ?_; clear hK K; refine Nav.imp ?_
            refine awp_cond (b := false) (by simp [push_cast]) (fun hb => ?_) (fun hb => ?_) <;> (refine Nav.imp ?_)
            · simp at hb
            · refine awp_region cx [(1, .x ⟨[(0, 3)], [.hs 0 0 Y.length], [(0, ⟨3, 1, dr (Y.map iRow)⟩)], [(0, 0)], none, [(0, ⟨3, 1, dr (S.map iRow)⟩)], .tup []⟩)] fun K hK => ?_
              simp [push_cast, d1]
              repeat (refine And.intro (by clear hK; intros; first | omega | (simp_all; done) | (simp_all <;> omega)) ?_)
              refine hK _ ?_; clear hK K; refine Nav.imp ?_
              rw [← hsl]
              refine awp_region cx [] fun K hK => ?_
              simp [push_cast]
              repeat (refine And.intro (by clear hK; intros; first | omega | (simp_all; done) | (simp_all <;> omega)) ?_)
              refine hK _ ?_; clear hK K; refine Nav.imp ?_
              refine awp_region cx [(1, .x ⟨[(0, 3)], [.hs 0 0 S.length], [(0, ⟨3, 1, dr (S.map iRow)⟩)], [(0, 0)], none, [(0, ⟨3, 1, dr (E.map iRow)⟩)], .hs 0 0 C.length⟩)] fun K hK => ?_
              simp [push_cast, d2]
              repeat (refine And.intro (by clear hK; intros; first | omega | (simp_all; done) | (simp_all <;> omega)) ?_)
              refine hK _ ?_; clear hK K; refine Nav.imp ?_
              refine awp_freeze 3 (E.map iRow) rfl (by simp [push_cast, htk]) fun K hK => ?_
              simp [push_cast, St.fz, fzT, fzH, fzO, fz, fzL, fzR, fzR_dr, fzR_app, fzR_set, fzL_map, htk]
              refine hK _ ?_; clear hK K; refine Nav.imp ?_
              refine awp_loop (β := Nat × List Row) (fun s => ⟨76, [(2, .d (.fn (.func g) [])), (3, .ptr 0 0 0), (4, .ptr 1 0 0), (6, .ptr 2 0 0), (12, .ptr 3 0 0), (48, .d (.sl (C.map iRow))), (49, .d (.int .i64 C.length)), (50, .d (.int .i64 s.1))], [(0, some ⟨24, 1, [(regRow a).map .d]⟩), (1, some ⟨24, 1, [(regRow b).map .d]⟩), (2, some ⟨24, 1, [[.nl]]⟩), (3, some ⟨24, 1, [[.hs 4 0 s.2.length]]⟩), (4, some ⟨48, 2, dr (s.2.map Row.row)⟩)], 5⟩) (fun s => s.1 ≤ C.length ∧ s.2 = opOn f a b (C.take s.1)) (fun s => C.length - s.1) (0, []) ?_ ⟨Nat.zero_le _, by simp [opOn]⟩ ?_
              · refine weak_of [(0, some 0), (1, some 1), (2, some 2), (3, some 7), (4, none)] rfl (by simp [upT, up, upL, push_cast, hCle]) (by simp [upH, upR, upL, up, push_cast, hCle]) (by simp [namesOk, push_cast]) (by simp [olds])
              · rintro ⟨k, Z⟩ ⟨hk, hZ⟩
                simp only at hk hZ
                refine Nav.imp ?_
                refine awp_region cx [] fun K hK => ?_
                simp [push_cast]
                repeat (refine And.intro (by clear hK; intros; first | omega | (simp_all; done) | (simp_all <;> omega)) ?_)
                refine hK _ ?_; clear hK K; refine Nav.imp ?_
                refine awp_cond (b := decide ((k : Int) < C.length)) (by simp [push_cast]) (fun hb => ?_) (fun hb => ?_) <;> (refine Nav.imp ?_)
                · have hlt : k < C.length := by simpa using hb
                  obtain ⟨y, hy⟩ := getq hlt
                  have e0 := wrap_i64 (n := (k : Int) + 1) (by omega) (by omega)
                  have hnx : opOn f a b (C.take (k + 1)) = Z ++ opRow f a b y := by rw [hZ]; unfold opOn; rw [flat_take _ hy]
                  have hZl : Z.length ≤ 2000000 := by
                    have : Z.length ≤ C.length := by rw [hZ]; exact take_flat_one' (opRow_len f a b) C k
                    omega
                  have hZ32 : (Z.length + 1) * 32 ≤ 140737488355328 := by omega
                  have g1 := row_ok a y hA ha
                  have g2 := row_ok b y hB hb0
                  have g3 := hg (rowOf a y) (rowOf b y) (rowOf_len hA y) (rowOf_len hB y) (rowOf_rv ha y) (rowOf_rv hb0 y)
                  have hl1 := rowOf_len hA y
                  have hl2 := rowOf_len hB y
                  have hsl2 := sweep_len f (rowOf a y) (rowOf b y)
                  have g4 := cloneR_ok (sweep f (rowOf a y) (rowOf b y)) (by omega)
                  have hor : opRow f a b y = if sweep f (rowOf a y) (rowOf b y) = [] then [] else [⟨y, sweep f (rowOf a y) (rowOf b y)⟩] := rfl
                  rw [hor] at hnx
                  clear hor hl1 hl2 hsl2
                  generalize sweep f (rowOf a y) (rowOf b y) = r at *
                  generalize rowOf a y = ra at *
                  generalize rowOf b y = rb at *
                  refine awp_region cx [] fun K hK => ?_
                  simp [push_cast, hy]
                  repeat (refine And.intro (by clear hK; intros; first | omega | (simp_all; done) | (simp_all <;> omega)) ?_)
                  refine hK _ ?_; clear hK K; refine Nav.imp ?_
                  refine awp_region_draw cx mixed [(3, .p (encRuns ra)), (6, .p (encRuns rb)), (7, .p (encRuns r))] fun K hK => ?_
                  simp [push_cast, g1, g2, g3]
                  repeat (refine And.intro (by clear hK; intros; first | omega | (simp_all; done) | (simp_all <;> omega)) ?_)
                  refine hK _ _ (by kernel_rfl) ?_; clear hK K; refine Nav.imp ?_
                  refine awp_region cx [] fun K hK => ?_
                  simp [push_cast]
                  repeat (refine And.intro (by clear hK; intros; first | omega | (simp_all; done) | (simp_all <;> omega)) ?_)
                  refine hK _ ?_; clear hK K; refine Nav.imp ?_
                  refine awp_cond (b := decide (0 < (r.length : Int))) (by simp [push_cast]) (fun hb => ?_) (fun hb => ?_) <;> (refine Nav.imp ?_)
                  · have hb : 0 < r.length := by simp at hb; omega
                    have hne : r ≠ [] := List.length_pos_iff.1 hb
                    rw [if_neg hne] at hnx
                    refine awp_region_draw cx mixed [(4, .f (encRuns r))] fun K hK => ?_
                    simp [push_cast, g4, hZ32]
                    repeat (refine And.intro (by clear hK; intros; first | omega | (simp_all; done) | (simp_all <;> omega)) ?_)
                    refine hK _ _ (by kernel_rfl) ?_; clear hK K; refine Nav.imp ?_
                    refine awp_region cx [] fun K hK => ?_
                    simp [push_cast, e0]
                    repeat (refine And.intro (by clear hK; intros; first | omega | (simp_all; done) | (simp_all <;> omega)) ?_)
                    refine hK _ ?_; clear hK K; refine Nav.imp ?_
                    refine ⟨(k + 1, Z ++ [⟨y, r⟩]), ⟨hlt, hnx.symm⟩, by simp only; omega, ?_⟩
                    refine weak_of [(0, some 0), (1, some 1), (2, some 2), (3, some 3), (4, some 28)] rfl (by simp [upT, up, upL, push_cast, Row.row]) (by simp [upH, upR, upL, up, push_cast, Row.row]) (by simp [namesOk, push_cast]) (by simp [olds])
                  · have hb : r = [] := by simpa using hb
                    rw [if_pos hb, List.append_nil] at hnx
                    refine awp_region cx [] fun K hK => ?_
                    simp [push_cast, e0]
                    repeat (refine And.intro (by clear hK; intros; first | omega | (simp_all; done) | (simp_all <;> omega)) ?_)
                    refine hK _ ?_; clear hK K; refine Nav.imp ?_
                    refine ⟨(k + 1, Z), ⟨hlt, hnx.symm⟩, by simp only; omega, ?_⟩
                    refine weak_of [(0, some 0), (1, some 1), (2, some 2), (3, some 3), (4, some 4)] rfl (by simp [upT, up, upL, push_cast, Row.row]) (by simp [upH, upR, upL, up, push_cast, Row.row]) (by simp [namesOk, push_cast]) (by simp [olds])
                · have hge : k = C.length := by simp at hb; omega
                  subst hge
                  rw [List.take_length, hres] at hZ
                  subst hZ
                  refine awp_freeze 4 (Z.map Row.row) rfl (by simp [push_cast, Row.row]) fun K hK => ?_
                  simp [push_cast, St.fz, fzT, fzH, fzO, fz, fzL, fzR, fzR_dr, fzR_app, fzR_set, fzL_map, Row.row]
                  refine hK _ ?_; clear hK K; refine Nav.imp ?_
                  refine awp_region cx [] fun K hK => ?_
                  simp [push_cast]
                  repeat (refine And.intro (by clear hK; intros; first | omega | (simp_all; done) | (simp_all <;> omega)) ?_)
                  refine hK _ ?_; clear hK K; refine Nav.imp ?_
                  simp [push_cast]

theorem unionR_big (a b : List Row) (hA : bigR a) (hB : bigR b) : PC Try.prog 16 [.agg (regRow a), .agg (regRow b)] (.p (.agg (regRow (opR fU a b)))) := by
  have c1 := combine_big fU rfl 39 (fun x y h1 h2 h3 h4 => union_ok x y h1 h2 h3 h4) a b hA hB
  generalize opR fU a b = r at *
  refine pc_of_awp cx (fn := Try.f16) (c := _) Try.func16 rfl rfl (Nat.le_of_ble_eq_true rfl) ?_
  rw [Try.ntmps16]; refine Nav.imp ?_
  refine awp_region cx [] fun K hK => ?_
  simp [push_cast]
  repeat (refine And.intro (by clear hK; intros; first | omega | (simp_all; done) | (simp_all <;> omega)) ?_)
  refine hK _ ?_; clear hK K; refine Nav.imp ?_
  refine awp_region cx [(2, .p (.agg (regRow r)))] fun K hK => ?_
  simp [push_cast, c1]
  repeat (refine And.intro (by clear hK; intros; first | omega | (simp_all; done) | (simp_all <;> omega)) ?_)
  refine hK _ ?_; clear hK K; refine Nav.imp ?_
  simp [push_cast]
theorem intersectR_big (a b : List Row) (hA : bigR a) (hB : bigR b) : PC Try.prog 17 [.agg (regRow a), .agg (regRow b)] (.p (.agg (regRow (opR fI a b)))) := by
  have c1 := combine_big fI rfl 40 (fun x y h1 h2 h3 h4 => intersect_ok x y h1 h2 h3 h4) a b hA hB
  generalize opR fI a b = r at *
  refine pc_of_awp cx (fn := Try.f17) (c := _) Try.func17 rfl rfl (Nat.le_of_ble_eq_true rfl) ?_
  rw [Try.ntmps17]; refine Nav.imp ?_
  refine awp_region cx [] fun K hK => ?_
  simp [push_cast]
  repeat (refine And.intro (by clear hK; intros; first | omega | (simp_all; done) | (simp_all <;> omega)) ?_)
  refine hK _ ?_; clear hK K; refine Nav.imp ?_
  refine awp_region cx [(2, .p (.agg (regRow r)))] fun K hK => ?_
  simp [push_cast, c1]
  repeat (refine And.intro (by clear hK; intros; first | omega | (simp_all; done) | (simp_all <;> omega)) ?_)
  refine hK _ ?_; clear hK K; refine Nav.imp ?_
  simp [push_cast]
theorem subtractR_big (a b : List Row) (hA : bigR a) (hB : bigR b) : PC Try.prog 36 [.agg (regRow a), .agg (regRow b)] (.p (.agg (regRow (opR fD a b)))) := by
  have c1 := combine_big fD rfl 58 (fun x y h1 h2 h3 h4 => subtract_ok x y h1 h2 h3 h4) a b hA hB
  generalize opR fD a b = r at *
  refine pc_of_awp cx (fn := Try.f36) (c := _) Try.func36 rfl rfl (Nat.le_of_ble_eq_true rfl) ?_
  rw [Try.ntmps36]; refine Nav.imp ?_
  refine awp_region cx [] fun K hK => ?_
  simp [push_cast]
  repeat (refine And.intro (by clear hK; intros; first | omega | (simp_all; done) | (simp_all <;> omega)) ?_)
  refine hK _ ?_; clear hK K; refine Nav.imp ?_
  refine awp_region cx [(2, .p (.agg (regRow r)))] fun K hK => ?_
  simp [push_cast, c1]
  repeat (refine And.intro (by clear hK; intros; first | omega | (simp_all; done) | (simp_all <;> omega)) ?_)
  refine hK _ ?_; clear hK K; refine Nav.imp ?_
  simp [push_cast]
theorem unionR_ok (a b : List Row) (hA : smallR a) (hB : smallR b) : PC Try.prog 16 [.agg (regRow a), .agg (regRow b)] (.p (.agg (regRow (opR fU a b)))) := unionR_big a b (big_of hA) (big_of hB)
theorem intersectR_ok (a b : List Row) (hA : smallR a) (hB : smallR b) : PC Try.prog 17 [.agg (regRow a), .agg (regRow b)] (.p (.agg (regRow (opR fI a b)))) := intersectR_big a b (big_of hA) (big_of hB)
theorem subtractR_ok (a b : List Row) (hA : smallR a) (hB : smallR b) : PC Try.prog 36 [.agg (regRow a), .agg (regRow b)] (.p (.agg (regRow (opR fD a b)))) := subtractR_big a b (big_of hA) (big_of hB)
end Go.Proofs.Ytknelhiejjdioaa

set_option linter.unusedVariables false
set_option linter.unusedSimpArgs false
namespace Go.Abs

def effY (P : Program) (f : FuncId) (c : XC) (ti : List (Nat × Nat)) (obj : Nat → Option Ob) (args : List AV) : Eff :=
  { val := dn (swp ti) c.r, wr := gone c.σ ++ back (swp ti) c.hp' ti,
    ob := (rnsOk c.σ c.as args ∧ hpOk obj c.σ c.hp ∧ nodupB (c.σ.map (·.2)) = true ∧ c.σ.map (·.1) = c.hp.map (·.1) ∧ nodupB (ti.map (·.1)) = true ∧ nodupB (ti.map (·.2)) = true) ∧ PX P f c.as c.hp c.pin c.hp' c.r }

/-- What a call leaves that makes objects with the names N. -/
def AfterN (g : G) (obj : Nat → Option Ob) (w : World) (N : Nat → Prop) (e : Eff) (v : Value) (w' : World) : Prop :=
  ∃ g', HRel g' (updL obj e.wr) w' ∧ Step g w g' w' ∧ Later g w g' w' ∧ (∀ k, g'.used k → g.used k ∨ N k) ∧ RepA g' w' e.val v

theorem y_sound {P : Program} {f : FuncId} {g : G} {obj : Nat → Option Ob} {w : World} (h : HRel g obj w) {c : XC} {ti : List (Nat × Nat)} {N : Nat → Prop} (hid : ∀ x, N x → ¬ g.used x) (hti : ∀ x j, find ti x = some j → N x ∨ ∃ i, (i, j) ∈ c.pin ∧ find c.σ i = some x) {args : List AV} {us : List Value} (hargs : RepAs g w args us) (hob : (effY P f c ti obj args).ob) :
    Calls P f us.toArray w fun e w' => ∃ v, e = .returned v ∧ AfterN g obj w N (effY P f c ti obj args) v w' := by
  obtain ⟨⟨ha, hhp, hσ0, hdom, ht10, ht20⟩, _, hpx⟩ := hob
  have hσ := nodup_of hσ0
  have ht1 := nodup_of ht10
  have ht2 := nodup_of ht20
  have hin : ∀ {i x}, find c.σ i = some x → (find c.hp i).isSome = true := fun {i x} hi => by
    have := find_key hi
    rw [hdom] at this
    obtain ⟨v, hv⟩ := find_some_of_key this
    rw [hv]; rfl
  let g0 : G := via g c.σ c.hp
  have hloc0 : ∀ i x, find c.σ i = some x → g0.loc i = g.loc x := fun i x hi => via_loc hi
  have hused0 : ∀ i x, find c.σ i = some x → g0.used i := fun i x hi => hin hi
  have hl0 : ∀ i L, g0.loc i = some L → ∃ x, find c.σ i = some x ∧ g.loc x = some L := fun i L hL => via_loc' hL
  have hH0 : HRel g0 (objL c.hp) w := via_rel h hhp hσ hdom
  refine (hpx g0 w us hH0 (fun _ hk => hk) (rnsOk_rep hused0 hloc0 (fun _ hb => hb) ha hargs)).mono fun e w' ⟨v, g1, he, hH1, hr1, hs1, hp1⟩ => ⟨v, he, ?_⟩
  have hown0 : ∀ b, g0.owns b → ∃ x, x ∈ c.σ.map (·.2) ∧ ∃ L, g.loc x = some L ∧ L.virt = false ∧ L.blk = b := by
    rintro b ⟨i, L, hL, hv, hb⟩
    obtain ⟨x, h1, h2⟩ := hl0 i L hL
    exact ⟨x, find_val h1, L, h2, hv, hb⟩
  have hkeep : ∀ x L, x ∉ c.σ.map (·.2) → g.loc x = some L → L.virt = false → ¬ g0.owns L.blk := by
    rintro x L hx hL hv ho
    obtain ⟨y, hy, M, hM, hvM, hb⟩ := hown0 _ ho
    have := h.inj y x M L hM hL hvM hv hb
    exact hx (this ▸ hy)
  let g2 : G := ⟨g1.ro, fun x => match find ti x with | some j => g1.loc j | none => if x ∈ c.σ.map (·.2) then none else g.loc x, fun x => g.used x ∨ find ti x ≠ none⟩
  have hg2t : ∀ x j, find ti x = some j → g2.loc x = g1.loc j := fun x j hx => by simp only [g2, hx]
  have hg2n : ∀ x, find ti x = none → g2.loc x = if x ∈ c.σ.map (·.2) then none else g.loc x := fun x hx => by simp only [g2, hx]
  have hτ : ∀ i x, find (swp ti) i = some x → find ti x = some i := fun i x hi => swp_find ht1 ht2 hi
  have hlater : Later g w g2 w' := by
    refine ⟨fun b hb => ⟨hs1.ro b hb, ?_⟩, fun x hx => .inl hx, fun x hx => ?_⟩
    · refine hs1.block b (h.ro b hb) fun ho => ?_
      obtain ⟨y, hy, M, hM, hvM, hbb⟩ := hown0 b ho
      exact ((h.live y M hM).2 hvM).2 (hbb ▸ hb)
    · cases hf : find ti x with
      | none =>
        rw [hg2n x hf]
        split
        · exact .inr rfl
        · exact .inl rfl
      | some j =>
        rcases hti x j hf with hN | ⟨i, h1, h2⟩
        · exact absurd hx (hid x hN)
        · left
          rw [hg2t x j hf, hp1 i j h1, hloc0 i x h2]
  have hobj2 : ∀ x, updL obj (effY P f c ti obj args).wr x = match find ti x with
      | some j => (find c.hp' j).map fun o => ⟨o.elem, o.m, dnR (swp ti) o.rows⟩
      | none => if x ∈ c.σ.map (·.2) then none else obj x := by
    intro x
    simp only [effY]
    rw [updL_append, updL_get (by rw [back_keys]; exact ht1), updL_get (by rw [gone_keys]; exact hσ), back_find, gone_find]
    cases find ti x with
    | some j => rfl
    | none => simp only [Option.map_none, Option.getD_none]; split <;> rfl
  refine ⟨g2, ⟨?_, ?_, ?_, ?_, hH1.ro⟩, ?_, hlater, ?_, ?_⟩
  · intro x o ho
    rw [hobj2] at ho
    cases hf : find ti x with
    | some j =>
      rw [hf] at ho
      simp only [Option.map_eq_some_iff] at ho
      obtain ⟨o1, ho1, rfl⟩ := ho
      obtain ⟨L, hL, hok⟩ := hH1.own j o1 ho1
      refine ⟨L, by rw [hg2t x j hf]; exact hL, hok.m, hok.pos, by simpa only [dnR_length] using hok.len, fun hv => by simp [hok.virt hv, dnR], fun hv => ?_, fun hv => ⟨(hok.ents hv).1, (hok.ents hv).2.imp fun es he => he.imp fun clock he => ⟨he.1, he.2.1, dnR_ents (fun i y hy => Or.inr (by rw [hτ i y hy]; simp)) (fun i y hy => hg2t y i (hτ i y hy)) (fun _ hb => hb) _ _ he.2.2⟩⟩⟩
      obtain ⟨cur, c1, c2, c3, c5⟩ := hok.cells hv
      refine ⟨cur, c1, c2, c3, fun k row hi => ?_⟩
      obtain ⟨r0, hr0, rfl⟩ := dnR_get _ _ k row hi
      obtain ⟨d1, d2⟩ := c5 k r0 hr0
      refine ⟨by rw [dnL_length]; exact d1, fun q av hq => ?_⟩
      obtain ⟨a0, ha0, rfl⟩ := dnL_get _ _ q av hq
      obtain ⟨u, q1, q2, q3⟩ := d2 q a0 ha0
      exact ⟨u, q1, q2, dn_rep (fun i y hy => Or.inr (by rw [hτ i y hy]; simp)) (fun i y hy => hg2t y i (hτ i y hy)) (fun _ hb => hb) _ _ q3⟩
    | none =>
      rw [hf] at ho
      simp only at ho
      split at ho
      · cases ho
      · rename_i hx
        obtain ⟨L, hL, hok⟩ := h.own x o ho
        exact ⟨L, by rw [hg2n x hf, if_neg hx]; exact hL, hok.later hlater fun hv => hs1.block _ ((h.live x L hL).2 hv).1 (hkeep x L hx hL hv)⟩
  · intro x hx
    rw [hobj2] at hx
    cases hf : find ti x with
    | some j =>
      rw [hf] at hx
      rw [hg2t x j hf]
      simp only [Option.map_eq_none_iff] at hx
      exact hH1.gone j hx
    | none =>
      rw [hf] at hx
      simp only at hx
      rw [hg2n x hf]
      split
      · rfl
      · rename_i hn; rw [if_neg hn] at hx; exact h.gone x hx
  · intro x L hL
    cases hf : find ti x with
    | some j =>
      rw [hg2t x j hf] at hL
      exact ⟨.inr (by rw [hf]; simp), (hH1.live j L hL).2⟩
    | none =>
      rw [hg2n x hf] at hL
      split at hL
      · cases hL
      · rename_i hx
        refine ⟨.inl (h.live x L hL).1, fun hv => ⟨Nat.lt_of_lt_of_le ((h.live x L hL).2 hv).1 hs1.size, fun hro => ?_⟩⟩
        rcases hs1.ro' _ hro with h1 | h1 | h1
        · exact ((h.live x L hL).2 hv).2 h1
        · have := ((h.live x L hL).2 hv).1; omega
        · exact hkeep x L hx hL hv h1
  · intro x y L L' hL hL' hv hv' hb
    have mix : ∀ x y L L', (∃ j, find ti x = some j) → find ti y = none → g2.loc x = some L → g2.loc y = some L' → L.virt = false → L'.virt = false → L.blk = L'.blk → False := by
      rintro x y L L' ⟨j, hx⟩ hy hL hL' hv hv' hb
      rw [hg2t x j hx] at hL
      rw [hg2n y hy] at hL'
      split at hL'
      · cases hL'
      · rename_i hny
        rcases hs1.own L.blk ⟨j, L, hL, hv, rfl⟩ with h1 | h1
        · have := ((h.live y L' hL').2 hv').1; omega
        · exact hkeep y L' hny hL' hv' (hb ▸ h1)
    cases hx : find ti x with
    | some j =>
      cases hy : find ti y with
      | some k =>
        rw [hg2t x j hx] at hL
        rw [hg2t y k hy] at hL'
        have := hH1.inj j k L L' hL hL' hv hv' hb
        subst this
        exact find_inj2 ht2 hx hy
      | none => exact (mix x y L L' ⟨j, hx⟩ hy hL hL' hv hv' hb).elim
    | none =>
      cases hy : find ti y with
      | some k => exact (mix y x L' L ⟨k, hy⟩ hx hL' hL hv' hv hb.symm).elim
      | none =>
        rw [hg2n x hx] at hL
        rw [hg2n y hy] at hL'
        split at hL
        · cases hL
        · split at hL'
          · cases hL'
          · exact h.inj x y L L' hL hL' hv hv' hb
  · refine ⟨hs1.os, hs1.tape, hs1.output, hs1.size, fun b hb hn => hs1.block b hb fun ho => hn ?_, ?_, fun b hb => hs1.ro b hb, fun b hb => ?_⟩
    · obtain ⟨x, _, L, h1, h2, h3⟩ := hown0 b ho
      exact ⟨x, L, h1, h2, h3⟩
    · rintro b ⟨x, L, hL, hv, hb⟩
      cases hf : find ti x with
      | some j =>
        rw [hg2t x j hf] at hL
        rcases hs1.own b ⟨j, L, hL, hv, hb⟩ with h1 | h1
        · exact .inl h1
        · obtain ⟨y, _, M, q1, q2, q3⟩ := hown0 b h1
          exact .inr ⟨y, M, q1, q2, q3⟩
      | none =>
        rw [hg2n x hf] at hL
        split at hL
        · cases hL
        · exact .inr ⟨x, L, hL, hv, hb⟩
    · rcases hs1.ro' b hb with h1 | h1 | h1
      · exact .inl h1
      · exact .inr (.inl h1)
      · obtain ⟨y, _, M, q1, q2, q3⟩ := hown0 b h1
        exact .inr (.inr ⟨y, M, q1, q2, q3⟩)
  · intro k hk
    rcases hk with hk | hk
    · exact .inl hk
    · cases hf : find ti k with
      | none => exact absurd hf hk
      | some j =>
        rcases hti k j hf with hN | ⟨i, h1, h2⟩
        · exact .inr hN
        · have h3 := hin h2
          obtain ⟨o, ho⟩ := Option.isSome_iff_exists.1 h3
          obtain ⟨x', o', q1, q2, _⟩ := hpOk_find hhp i o ho
          rw [h2] at q1
          cases q1
          obtain ⟨L, hL, _⟩ := h.own k o' q2
          exact .inl (h.live k L hL).1
  · exact dn_rep (fun i y hy => Or.inr (by rw [hτ i y hy]; simp)) (fun i y hy => hg2t y i (hτ i y hy)) (fun _ hb => hb) _ _ hr1

theorem wpT_sound2 {P : Program} {ty : TypeId → Option TI} (hc : Ctx P ty) {orc : List (Nat × Res)} {gs : List (Option Tmp)} {ops : Array Oper} (hgs : ∀ j : Nat, gs[j]? = (ops[j]?).map fun o : Oper => o.dst) {base nxt : Nat} {Q : Exit → Act → World → Prop} {K : St → Prop} {g0 : G} {w0 : World}
    {l2 : List Oper} {en n0 : Nat} (hQ : ∀ s g a w, s.nxt = nxt → s.n = n0 → Rel (· < base + en) g s.get s.obj s.n a w → Step g0 w0 g w → K s → wpList P ops Q l2 a w) :
    ∀ (l : List Oper) (i : Nat) (s : St) (g : G) (a : Act) (w : World), i + l.length = en → s.nxt = nxt → s.n = n0 → Rel (· < base + i) g s.get s.obj s.n a w → Step g0 w0 g w → wpT ty P orc gs base i l s K → wpList P ops Q (l ++ l2) a w
  | [], i, s, g, a, w, hle, hnx, hn0, h, hs, hk => hQ s g a w hnx hn0 (by simp at hle; rw [← hle]; exact h) hs hk
  | o :: rest, i, s, g, a, w, hle, hnx, hn0, h, hs, hk => by
    simp only [List.length_cons] at hle
    have hargs : RepAs g w (o.op.operands.toList.map s.eval) (o.op.operands.toList.map a.eval) := by
      refine RepAs.of_get (by simp) fun j av hj => ?_
      rw [List.getElem?_map] at hj ⊢
      cases hx : o.op.operands.toList[j]? with
      | none => rw [hx] at hj; cases hj
      | some x => rw [hx] at hj; cases hj; exact ⟨a.eval x, rfl, eval_rep h (fun _ => rfl) x⟩
    have relapp : ∀ (e : Eff) (g' : G) (a' : Act) (w' : World), Rel (fun k => k < base + i ∨ k = base + i) g' (putG s.get o.dst e.val) (updL s.obj e.wr) s.n a' w' → Rel (· < base + (i + 1)) g' (s.app o.dst e).get (s.app o.dst e).obj (s.app o.dst e).n a' w' := by
      intro e g' a' w' hr
      have hn : (s.app o.dst e).n = s.n := by unfold St.app St.put; cases o.dst <;> rfl
      rw [hn]
      exact ⟨hr.defers, hr.size, fun t => by rw [app_get]; exact hr.tmp t, fun id hu => by
        have := hr.used id hu
        show id < base + (i + 1)
        rcases this with hh | hh <;> omega, by
        have : (s.app o.dst e).obj = updL s.obj e.wr := funext (app_obj s o.dst e)
        rw [this]; exact hr.heap⟩
    have hnapp : ∀ e, (s.app o.dst e).nxt = nxt := fun e => by rw [← hnx]; unfold St.app St.put; cases o.dst <;> rfl
    have hna : ∀ e, (s.app o.dst e).n = s.n := fun e => by unfold St.app St.put; cases o.dst <;> rfl
    have hnput : ∀ v, (s.put o.dst v).nxt = nxt := fun v => by rw [← hnx]; unfold St.put; cases o.dst <;> rfl
    have hnn : ∀ v, (s.put o.dst v).n = s.n := fun v => by unfold St.put; cases o.dst <;> rfl
    have relput : ∀ (v : AV) (g' : G) (a' : Act) (w' : World) (U : Nat → Prop), (∀ k, U k → k < base + (i + 1)) → Rel U g' (putG s.get o.dst v) s.obj s.n a' w' → Rel (· < base + (i + 1)) g' (s.put o.dst v).get (s.put o.dst v).obj (s.put o.dst v).n a' w' := by
      intro v g' a' w' U hU hr
      rw [hnn]
      have := hr.congr (get' := (s.put o.dst v).get) (obj' := (s.put o.dst v).obj) (fun t => St.get_put s o.dst v t) (fun id => put_obj s o.dst v id)
      exact ⟨this.defers, this.size, this.tmp, fun k hk => hU k (this.used k hk), this.heap⟩
    have skipped : ∀ v, (∀ d, o.dst = some d → d < s.n) → RepA g w v undef → wpT ty P orc gs base (i + 1) rest (s.put o.dst v) K → wpList P ops Q (rest ++ l2) (a.put o.dst undef) w := by
      intro v hd hv hrest
      have hr := rel_put (U' := (· < base + i)) (dst := o.dst) (v := v) (u := undef) h h.heap ⟨fun b hb => ⟨hb, rfl⟩, fun _ hx => hx, fun _ _ => .inl rfl⟩ (fun k hk => h.used k hk) hv hd
      exact wpT_sound2 (nxt := nxt) hc hgs hQ rest (i + 1) _ g _ w (by omega) (hnput v) ((hnn v).trans hn0) (relput v g _ w _ (fun k hk => by omega) hr) hs hrest
    simp only [List.cons_append, wpList]
    unfold wpT at hk
    split at hk
    · rename_i hg
      have hw : Region.wanted o (yielded ops a.tmps) = true := by simp [Region.wanted, hg]
      rw [if_pos hw]
      left
      unfold doOp at hk
      split at hk
      · rename_i e he
        obtain ⟨hob, hd, hrest⟩ := hk
        exact op_step hc (nid := base + i) h (by simp) hargs he hob (fun d hd' => by rw [hd'] at hd; exact hd) fun g' a' w' hr hst =>
          wpT_sound2 (nxt := nxt) hc hgs hQ rest (i + 1) (s.app o.dst e) g' a' w' (by omega) (hnapp e) ((hna e).trans hn0) (relapp e g' a' w' hr) (hs.trans hst) hrest
      · exact hk.elim
    · rename_i j want hg
      split at hk
      · rename_i x hgv
        have hw := guard_wanted (a := a) hgs h.tmp hg hgv
        rw [hw]
        obtain ⟨hd, hk⟩ := hk
        have hd' : ∀ d, o.dst = some d → d < s.n := fun d hd' => by rw [hd'] at hd; exact hd
        split at hk
        · rename_i e he
          split at hk
          · rename_i hwr
            obtain ⟨hexec, hrest⟩ := hk
            cases x with
            | true =>
              rw [if_pos rfl]
              left
              obtain ⟨hso, hob⟩ := hexec rfl
              refine op_step hc (nid := base + i) h (by simp) (strips_repG hargs hso) he hob hd' fun g' a' w' hr hst => ?_
              rw [hwr] at hr
              exact wpT_sound2 (nxt := nxt) hc hgs hQ rest (i + 1) _ g' a' w' (by omega) (hnput _) ((hnn _).trans hn0) (relput _ g' a' w' _ (fun k hk => by rcases hk with hh | hh <;> omega) hr.opt) (hs.trans hst) hrest
            | false =>
              rw [if_neg (by simp)]
              exact skipped _ hd' (by simp [RepA]) hrest
          · obtain ⟨rfl, hso, hob, hrest⟩ := hk
            rw [if_pos rfl]
            left
            exact op_step hc (nid := base + i) h (by simp) (strips_repG hargs hso) he hob hd' fun g' a' w' hr hst =>
              wpT_sound2 (nxt := nxt) hc hgs hQ rest (i + 1) (s.app o.dst e) g' a' w' (by omega) (hnapp e) ((hna e).trans hn0) (relapp e g' a' w' hr) (hs.trans hst) hrest
        · obtain ⟨rfl, hrest⟩ := hk
          rw [if_neg (by simp)]
          exact skipped _ hd' (by simp [RepA]) hrest
      · exact hk.elim


/-- The new names of a call. -/
def freshOk (lo n : Nat) : List (Nat × Nat) → Prop
  | [] => True
  | (x, _) :: r => (lo ≤ x ∧ x < lo + n) ∧ freshOk lo n r
theorem freshOk_find {lo n x j : Nat} : ∀ {l : List (Nat × Nat)}, freshOk lo n l → find l x = some j → lo ≤ x ∧ x < lo + n
  | [], _, h => by simp [find] at h
  | (y, k) :: r, hl, h => by
    simp only [freshOk] at hl
    simp only [find] at h
    split at h
    · rename_i e; rw [← e]; exact hl.1
    · exact freshOk_find hl.2 h
theorem find_append' {α : Type} (x : Nat) : ∀ (a b : List (Nat × α)), find (a ++ b) x = (find a x).or (find b x)
  | [], b => by simp [find]
  | (y, k) :: r, b => by
    simp only [List.cons_append, find]
    split
    · rfl
    · exact find_append' x r b

/-- A REGION IN THE TEXT's ORDER with one call that makes m more objects than one. -/
theorem awp_region2 {P : Program} {ty : TypeId → Option TI} (hc : Ctx P ty) (orc : List (Nat × Res)) {id : Nat} {l pre post : List Oper} {o : Oper} (hl : l = pre ++ o :: post) (hg : o.guard = none) {cl : Call} {fo : Operand} (ho : o.op = .call cl) (hcal : cl.callee = .value fo) (m : Nat) (c : XC) (fr : List (Nat × Nat)) {Q : Exit → St → Prop} {s : St}
    (h : ∀ K : St → Prop, (∀ s', Q .normal s' → K s') → wpT ty P orc (l.map (·.dst)) s.nxt 0 pre { s with nxt := s.nxt + l.length + m } fun s1 =>
      match calleeA (s1.eval fo) with
      | some q => freshOk (s.nxt + pre.length) (m + 1) fr ∧ (effY P q.1 c (fr ++ pinT c.σ c.pin) s1.obj (cl.args.toList.map s1.eval ++ q.2)).ob ∧ (match o.dst with | some d => d < s1.n | none => True) ∧
          wpT ty P orc (l.map (·.dst)) (s.nxt + m) (pre.length + 1) post (s1.app o.dst (effY P q.1 c (fr ++ pinT c.σ c.pin) s1.obj (cl.args.toList.map s1.eval ++ q.2))) K
      | none => False) : AWp P (.region id l.toArray false) Q s := by
  intro g a w hr
  refine wp_region ?_
  have hgs : ∀ j : Nat, (l.map (·.dst))[j]? = (l.toArray[j]?).map fun o : Oper => o.dst := by intro j; simp
  have hlen : l.length = pre.length + 1 + post.length := by rw [hl]; simp; omega
  have hh := h _ fun _ hq => hq
  have key : wpList P l.toArray (fun e a' w' => ∃ s' g', RelS s' g' a' w' ∧ Step g w g' w' ∧ Q e s') l a w := by
    have h2 := wpT_sound2 (P := P) hc (orc := orc) (gs := l.map (·.dst)) (ops := l.toArray) hgs (base := s.nxt) (nxt := s.nxt + l.length + m)
      (Q := fun e a' w' => ∃ s' g', RelS s' g' a' w' ∧ Step g w g' w' ∧ Q e s') (g0 := g) (w0 := w) (l2 := o :: post) (en := pre.length) (n0 := s.n) (K := fun s1 =>
        match calleeA (s1.eval fo) with
        | some q => freshOk (s.nxt + pre.length) (m + 1) fr ∧ (effY P q.1 c (fr ++ pinT c.σ c.pin) s1.obj (cl.args.toList.map s1.eval ++ q.2)).ob ∧ (match o.dst with | some d => d < s1.n | none => True) ∧
            wpT ty P orc (l.map (·.dst)) (s.nxt + m) (pre.length + 1) post (s1.app o.dst (effY P q.1 c (fr ++ pinT c.σ c.pin) s1.obj (cl.args.toList.map s1.eval ++ q.2))) fun s' => Q .normal s'
        | none => False) ?_ pre 0 { s with nxt := s.nxt + l.length + m } g a w (by simp) rfl rfl ⟨hr.defers, hr.size, hr.tmp, fun id hu => by have := hr.used id hu; simpa using this, hr.heap⟩ (Step.refl g w) hh
    · rw [← hl] at h2; exact h2
    · intro s1 g1 a1 w1 hnx hn0 hrel hst hk
      simp only [wpList]
      have hw : Region.wanted o (yielded l.toArray a1.tmps) = true := by simp [Region.wanted, hg]
      rw [if_pos hw]
      left
      have hev : ∀ x : Operand, RepA g1 w1 (s1.eval x) (a1.eval x) := fun x => eval_rep hrel (fun _ => rfl) x
      cases hq : calleeA (s1.eval fo) with
      | none => rw [hq] at hk; exact hk.elim
      | some q =>
        rw [hq] at hk
        obtain ⟨hfr, hob, hd, hrest⟩ := hk
        obtain ⟨k, caps⟩ := q
        have hargs : RepAs g1 w1 (cl.args.toList.map s1.eval) (cl.args.toList.map a1.eval) := by
          refine RepAs.of_get (by simp) fun j av hj => ?_
          rw [List.getElem?_map] at hj ⊢
          cases hx : cl.args.toList[j]? with
          | none => rw [hx] at hj; cases hj
          | some x => rw [hx] at hj; cases hj; exact ⟨a1.eval x, rfl, hev x⟩
        have hf : ∃ cs : List Value, a1.eval fo = .func (.func k) #[] cs.toArray ∧ RepAs g1 w1 caps cs := by
          have hfv := hev fo
          unfold calleeA at hq
          split at hq
          · rename_i heq
            cases hq
            rw [heq] at hfv
            simp only [RepA, RepD] at hfv
            obtain ⟨cs, h1, h2⟩ := hfv
            exact ⟨cs, h1, RepAs.of_ds h2⟩
          · rename_i heq
            cases hq
            rw [heq] at hfv
            simp only [RepA] at hfv
            exact hfv
          · cases hq
        obtain ⟨cs, hcs, hrc⟩ := hf
        obtain ⟨fn, hfn, hname, hbody⟩ := hob.2.1
        have hrun : (execOp a1.eval o).run P w1 = .ok (.enter k ((cl.args.toList.map a1.eval) ++ cs).toArray) w1 := by
          unfold execOp
          simp only [ho, resolve, hcal, Deferred.ofValue, hcs, Sem.run_bind, Sem.run_pure, Result.andThen_ok, invoke, callFunc, run_program, hfn, hname, hbody, Bool.false_eq_true, if_false]
          congr 2
          simp
        have hys := y_sound (N := fun x => s.nxt + pre.length ≤ x ∧ x < s.nxt + pre.length + (m + 1)) hrel.heap (fun x hx hu => by have := hrel.used x hu; omega) (c := c) (ti := fr ++ pinT c.σ c.pin) (fun x j hxj => by
          rw [find_append'] at hxj
          cases hfx : find fr x with
          | some j' => exact .inl (freshOk_find hfr hfx)
          | none =>
            rw [hfx] at hxj
            exact .inr (pinT_find hxj)) (hargs.append hrc) hob
        refine does_calls hrun hys _ _ fun v w2 hA => ?_
        obtain ⟨g2, k1, k2, k3, k4, k5⟩ := hA
        have hput := rel_put (U' := fun x => x < s.nxt + m + (pre.length + 1)) (dst := o.dst) hrel k1 k3 (fun x hx => by
          rcases k4 x hx with hx | hx
          · have := hrel.used x hx; omega
          · omega) k5 (fun d hd' => by rw [hd'] at hd; exact hd)
        have hn : (s1.app o.dst (effY P k c (fr ++ pinT c.σ c.pin) s1.obj (cl.args.toList.map s1.eval ++ caps))).n = s1.n := by unfold St.app St.put; cases o.dst <;> rfl
        have hnx' : (s1.app o.dst (effY P k c (fr ++ pinT c.σ c.pin) s1.obj (cl.args.toList.map s1.eval ++ caps))).nxt = s.nxt + l.length + m := by rw [← hnx]; unfold St.app St.put; cases o.dst <;> rfl
        refine wpT_sound (P := P) hc (orc := orc) (gs := l.map (·.dst)) (ops := l.toArray) hgs (base := s.nxt + m) (nxt := s.nxt + l.length + m) (K := fun s' => Q .normal s') (g0 := g) (w0 := w)
          (fun s' g' a' w' h1 h2 h3 => ⟨s', g', h1, h2, h3⟩) post (pre.length + 1) _ g2 _ w2 (by omega) hnx' ?_ (hst.trans k2) hrest
        rw [hn]
        exact ⟨hput.defers, hput.size, fun t => by rw [app_get]; exact hput.tmp t, hput.used, by
          have : (s1.app o.dst (effY P k c (fr ++ pinT c.σ c.pin) s1.obj (cl.args.toList.map s1.eval ++ caps))).obj = updL s1.obj (effY P k c (fr ++ pinT c.σ c.pin) s1.obj (cl.args.toList.map s1.eval ++ caps)).wr := funext (app_obj s1 o.dst _)
          rw [this]; exact hput.heap⟩
  have := wpOps_eq_wpList (P := P) (ops := l.toArray) (Q := fun e a' w' => ∃ s' g', RelS s' g' a' w' ∧ Step g w g' w' ∧ Q e s') l 0 (by intro j; simp)
  rw [show List.range l.toArray.size = List.range' 0 l.length by simp [List.range_eq_range'], this]
  exact key
end Go.Abs
