/-
  Texts of this seat put together: TP6.
-/
import Derived.Test.YtdddknniooimmaaGreatJT15
import Derived.Test.YtdddknniooimmaaGreatJT18
import Derived.Test.YtdddknniooimmaaGreatJT9
set_option linter.unusedVariables false
set_option linter.unusedSimpArgs false
set_option maxRecDepth 100000
namespace Go.Proofs.YtdddknniooimmaaGreat
open Go.Abs Go.ChangeShapes Go.WideShapes Go.ChangeAt Go.RowKit

def zet (L : List (List Row)) : Nat := (L.map fun P => (zae P).length).sum
theorem lenR_take {L : List (List Row)} {i : Nat} {P : List Row} (h : L[i]? = some P) : zet (L.take (i + 1)) = zet (L.take i) + (zae P).length := by
 unfold zet;rw [zat h]; simp
theorem lenR_le (L : List (List Row)) (i : Nat) : zet (L.take i) <= zet L := by
 have : zet L = zet (L.take i) + zet (L.drop i) := by
  unfold zet;rw [<- List.sum_append, <- List.map_append, List.take_append_drop]
 omega
set_option maxHeartbeats 16000000 in
theorem zqu (R : List Row) (hR : zqd R) : PC Tryz.prog 3 [.agg (zp R)] (.p (.bool true)) := by
 have c0 := traced_ok;have c1 := zib R hR;cases hv : zo R with
 | false =>
  rw [hv] at c1;refine pw cx Tryz.func3 Tryz.ntmps3 ?_;refine rg cx ?_;refine rx cx [(1, .p (.bool false)), (5, .skip)] (fun K hK => by simp [push_cast, c1]; (repeat refine ob ?_); exact hK) ?_;refine awp_cd true (fun hb => ?_) fun hb => ?_
  ·refine rx cx [(0, .p (.bool true))] (fun K hK => by simp [push_cast, c0]; (repeat refine ob ?_); exact hK) ?_;simp [push_cast]
  ·simp at hb
 | true =>
  have hs := zbg hv;have c2 := nearby_ok R hs;rw [hv] at c1;cases hn : nearTB R with
  | false =>
   rw [hn] at c2;refine pw cx Tryz.func3 Tryz.ntmps3 ?_;refine rg cx ?_;refine rx cx [(1, .p (.bool true)), (5, .p (.bool false))] (fun K hK => by simp [push_cast, c1, c2]; (repeat refine ob ?_); exact hK) ?_;refine awp_cd true (fun hb => ?_) fun hb => ?_
   ·refine rx cx [(0, .p (.bool true))] (fun K hK => by simp [push_cast, c0]; (repeat refine ob ?_); exact hK) ?_;simp [push_cast]
   ·simp at hb
  | true =>
   rw [hn] at c2;have nf := nearT_facts hv hn;have pf := part_facts hv nf;have hcl : cellsOf R = zl R := by unfold cellsOf; rw [if_pos hv]
   have hcc := nf.cells;have c3 := zja R hs (by rw [hcl]; omega);have hcv := @comp_valid R;have hsum : zet (zaz R) = (zae R).length := parts_len hv;have hcol := collect_len hv;have c4 := zlu R hs (fun _ => by omega);rw [if_pos hv, <- hsum] at c4;have hlr := lenR_le (zaz R);have c5 : ∀ P ∈ zaz R, (zae P).length <= 10000000 -> PC Tryz.prog 14 [.agg (zp P)] (.p (.int .i64 ((zae P).length : Nat))) := fun P hP h => by
    have := zlu P (zbg (hcv P hP)) (fun _ => h)
    rwa [if_pos (hcv P hP)] at this
   have c6 := holesB_ok R hs nf.box hcc;have hhl := zud R hcc;have c7 : ∀ P ∈ zcf R, PC Tryz.prog 17 [.agg (zp P), .agg (zp R)] (.p (.agg (zp []))) := fun P hP => by
    have := ztn P R (zbg (zhh P hP)) hs
    rwa [hole_apart hv hP] at this
   have c8 : PC Tryz.prog 16 [.agg (zp [])] (.p (.int .i64 0)) := by
    have := rcount_ok [] ⟨by simp, by simp⟩;have e : zke [] = 0 := by decide
    rwa [e] at this
   have c9 := dilate_ok R 1 hR;have hd := near_dil hv nf;rw [hd] at c9;have hfv := zuj hv;have c10 := fillB_ok R hs nf.box hcc;have c11 := zls (zcq R) (zbg hfv) (by
    have := pf.fillc;unfold cellsOf; rw [if_pos hfv]; exact this) (by
    have h1 := pf.fill;have h2 := pf.comps;have e : (zaz (zcq R)).length = (zeb (cellsOf (zcq R)) (zao false)).length := by unfold zaz; rw [List.length_map]
    omega)
   have hdv := (zta hd).2.1;have c12 := zja (zgz R 1) (zbg hdv) (by
    have := dil_cells hv hd;unfold cellsOf; rw [if_pos hdv]; omega)
   have p1 := pf.fill;have p2 := pf.dil;have p3 := pf.comps;have hl0 : zet [] = 0 := rfl;have hltot : zet (zaz R) <= 800 := by omega
   have hfin : zet ((zaz R).take (zaz R).length) = zet (zaz R) := by rw [List.take_length]
   have q1 : ((zaz (zcq R)).length : Int) <= ((zaz R).length : Int) := by omega
   have q2 : ((zaz (zgz R 1)).length : Int) <= ((zaz R).length : Int) := by omega
   have hlt2 : ∀ (i : Nat) (P : List Row), (zaz R)[i]? = some P -> zet ((zaz R).take (i + 1)) = zet ((zaz R).take i) + (zae P).length := fun i P h => lenR_take h;clear pf nf hcv hsum hcol hd hdv hfv hcl;generalize zaz (zcq R) = CF at *;generalize zaz (zgz R 1) = CD at *;generalize zcq R = FR at *;generalize zgz R 1 = DR at *;generalize zcf R = H at *;generalize hLT : zet (zaz R) = LT at *;generalize zaz R = L at *;refine pw cx Tryz.func3 Tryz.ntmps3 ?_;refine rg cx ?_;refine rx cx [(1, .p (.bool true)), (5, .p (.bool true))] (fun K hK => by simp [push_cast, c1, c2]; (repeat refine ob ?_); exact hK) ?_;refine awp_cd false (fun hb => ?_) fun hb => ?_
   ·simp at hb
   ·refine rx cx [(1, .p (zfe L))] (fun K hK => by simp [push_cast, c3]; (repeat refine ob ?_); exact hK) ?_;refine rg cx ?_;refine rg cx ?_;refine zu (β := Nat) (fun i => ⟨83, [(1, .ptr 0 0 0), (3, .d (zfe L)), (4, .d (.int .i64 (zet (L.take i) : Nat))), (5, .d (.int .i64 i))], [(0, some ⟨24, 1, [[.d (zz R)]]⟩)], 1⟩) (fun i => i <= L.length) (fun i => L.length - i) 0 ?_ (Nat.zero_le _) ?_
    ·refine wq [(0, some 0)] (by simp [upT, upH, upR, upL, up, push_cast, hl0])
    ·intro i hi;refine Nav.imp ?_;refine rg cx ?_;refine awp_cd (decide ((i : Int) < L.length)) (fun hb => ?_) fun hb => ?_
     ·have hlt : i < L.length := by simpa using hb
      obtain ⟨P, hP⟩ := zap hlt;have hst := hlt2 i P hP;have b0 := hlr i;have b1 := hlr (i + 1);have c13 := c5 P (List.mem_of_getElem? hP) (by omega);have e1 := wI ((i : Int) + 1);generalize (zae P).length = np at *;generalize hN1 : zet (L.take (i + 1)) = N1 at *;generalize zet (L.take i) = N0 at *;have w1 := wI ((N0 : Int) + np);have hN2 : ((N1 : Nat) : Int) = (N0 : Int) + np := by omega
      refine rx cx [(5, .p (.int .i64 np))] (fun K hK => by simp [push_cast, hP, c13, w1]; (repeat refine ob ?_); exact hK) ?_;refine rx cx [] (fun K hK => by simp [push_cast, e1]; (repeat refine ob ?_); exact hK) ?_;refine ⟨i + 1, hlt, by omega, ?_⟩;refine wq [(0, some 0)] (by simp [upT, upH, upR, upL, up, push_cast, hN1, hN2])
     ·have hie : i = L.length := by simp at hb; omega
      subst hie;rw [hfin];refine rx cx [(1, .p (zfe H))] (fun K hK => by simp [push_cast, c6]; (repeat refine ob ?_); exact hK) ?_;refine rg cx ?_;refine zu (β := Nat) (fun i => ⟨83, [(1, .ptr 0 0 0), (3, .d (zfe L)), (4, .d (.int .i64 (LT : Nat))), (6, .d (zfe H)), (7, .d (.int .i64 i))], [(0, some ⟨24, 1, [[.d (zz R)]]⟩)], 1⟩) (fun i => i <= H.length) (fun i => H.length - i) 0 ?_ (Nat.zero_le _) ?_
      ·refine wk [(0, some 0)]
      ·intro i hi;refine Nav.imp ?_;refine rg cx ?_;refine awp_cd (decide ((i : Int) < H.length)) (fun hb => ?_) fun hb => ?_
       ·have hlt : i < H.length := by simpa using hb
        obtain ⟨P, hP⟩ := zap hlt;have c13 := c7 P (List.mem_of_getElem? hP);have e1 := wI ((i : Int) + 1);refine rd cx mixed [(5, .p (.agg (zp []))), (6, .p (.int .i64 0))] (fun K hK => by simp [push_cast, hP, c13, c8]; (repeat refine ob ?_); exact hK) ?_;refine awp_cd false (fun hb => ?_) fun hb => ?_
        ·simp at hb
        ·refine rx cx [] (fun K hK => by simp [push_cast, e1]; (repeat refine ob ?_); exact hK) ?_;refine ⟨i + 1, hlt, by omega, ?_⟩;refine wk [(0, some 0)]
       ·refine rx cx [(1, .p (.tup [.agg (zp DR), .int .i64 0]))] (fun K hK => by simp [push_cast, c9]; (repeat refine ob ?_); exact hK) ?_;refine rx cx [(2, .p (.int .i64 LT)), (6, .p (.agg (zp FR))), (7, .p (zfe CF)), (19, .p (zfe CD)), (26, .p (.bool true))] (fun K hK => by simp [push_cast, c4, c10, c11, c12, c0, q1, q2, p1, p2]; (repeat refine ob ?_); exact hK) ?_;simp [push_cast]
set_option maxRecDepth 100000 in
theorem zjt (os : Os) (started : os.Started) (H : Type) (enc : TypeId × Value -> H) :
  ReturnsInHanded {} Tryz.checked os 3 .any (Rows.topPartsSpec.pre6 enc Tryz.prog Tryz.f3 Rows.topPartsRow.domain false) (Rows.topPartsSpec.post enc Tryz.prog Tryz.f3 false true false false) := by
 refine returnsInHanded_of_change (C := Tryz.checked) own started (by kernel_rfl) Tryz.func3
  (ChangeSpec.witness6 (enc := enc) (C := Tryz.checked) false ⟨#[], #[zeroReg], []⟩ 8 (by kernel_rfl) (by kernel_rfl) (by kernel_rfl) (by kernel_rfl)) ?_
 intro W base args ds gs before hval hW _ _;exact zvr rfl (fun ds h => by match ds, h with | [a0], _ => rfl) laidOut (by simp only [Tryz.params3]; intro t ht; simp at ht; rcases ht with rfl <;> exact ⟨by kernel_rfl, of_decide_eq_true (by kernel_rfl)⟩) (by kernel_rfl) rfl Tryz.underlying4
  (fun xs hx => by
   simp only [Tryz.params3, hasVs] at hx;obtain ⟨x0, r0, rfl, h0, rfl⟩ := hx;obtain ⟨⟨R, hR⟩, rfl⟩ := arg_regionT h0;exact zqu R hR) W base args ds gs before hval hW

theorem topParts_holds : Rows.TopPartsSaid :=
 OpenClaim.holds_of_wide 3 Tryz.f3 rfl rfl rfl rfl rfl rfl rfl ⟨rfl, rfl, rfl, rfl, rfl⟩ rfl rfl rfl rfl rfl (by kernel_rfl) Tryz.func3 (by kernel_rfl)
  (of_decide_eq_true (by kernel_rfl)) (by unfold Func.isWrapper; first | (rw [if_pos (by decide +kernel)]; kernel_rfl) | (rw [if_neg (by decide +kernel)]; exact ⟨rfl, rfl⟩))
  (fun os started H enc _ => zjt os started H enc)

end Go.Proofs.YtdddknniooimmaaGreat
