/-
  Texts of this seat put together: A4, R2, R3, R4, R5, Q1, Q2, G1.
-/
import Derived.Test.YtdddknniooimmaaGreatJT4
set_option linter.unusedVariables false
set_option linter.unusedSimpArgs false
set_option maxRecDepth 100000
namespace Go.Proofs.YtdddknniooimmaaGreat
open Go.Abs

abbrev gRow (g : List zf) : List D := [zaj g]
abbrev encGs (G : List (List zf)) : D := .sl (G.map gRow)

set_option maxRecDepth 100000 in
theorem fine_big (l : List Run) (hl : l.length <= 9223372036854775807) : PC Tryz.prog 44 [zm l] (.p (.bool (zfm l))) := by
 refine pw cx Tryz.func44 Tryz.ntmps44 ?_;refine rg cx ?_;refine rg cx ?_;refine zu (β := Nat) (fun k => ⟨58, [(0, .d (zm l)), (3, .d (.int .i64 k))], [], 1⟩) (fun k => k <= l.length /\ (List.range k).all (fnAt l) = true) (fun k => l.length - k) 0 ?_ ⟨Nat.zero_le _, rfl⟩ ?_
 ·refine wk []
 ·intro k ⟨hk, hall⟩;refine Nav.imp ?_;refine rg cx ?_;refine awp_cd (decide ((k : Int) < l.length)) (fun hb => ?_) fun hb => ?_
  ·have hlt : k < l.length := by simpa using hb
   obtain ⟨r, hr⟩ := zap hlt;obtain ⟨p, hp⟩ : ∃ p, l[k - 1]? = some p := zap (by omega);have e0 := wI ((k : Int) + 1);have hat := ziq hr hp;obtain ⟨ra, rb⟩ := r;by_cases hk0 : k = 0
   ·subst hk0;refine rd cx mixed [] (fun K hK => by simp [push_cast, hr, Run.row]; (repeat refine ob ?_); exact hK) ?_;refine ze (by simp [push_cast] <;> exact rfl) (fun hb => ?_) (fun hb => ?_) <;> (refine Nav.imp ?_)
    ·simp at hb;refine rg cx ?_;simp [push_cast];simp only [zfm, Bool.and_eq_false_iff];refine .inl (zax hlt ?_);rw [hat]; simp; omega
    ·simp at hb;refine rx cx [] (fun K hK => by simp [push_cast, e0]; (repeat refine ob ?_); exact hK) ?_;refine ⟨1, ⟨hlt, by rw [zds, hall, hat]; simp; omega⟩, by omega, ?_⟩;refine wk []
   ·have e1 := wI ((k : Int) - 1);have e2 : ((k : Int) - 1).toNat = k - 1 := by omega
    have hk1 : (0 : Int) < k := by omega
    have hk2 : (0 : Int) <= k - 1 := by omega
    have hk3 : 0 < k := by omega
    obtain ⟨pa, pb⟩ := p;refine rd cx mixed [] (fun K hK => by simp [push_cast, hr, hp, Run.row, e1, e2, hk1, hk2, hk3]; (repeat refine ob ?_); exact hK) ?_;refine ze (by simp [push_cast] <;> exact rfl) (fun hb => ?_) (fun hb => ?_) <;> (refine Nav.imp ?_)
    ·simp [hk3] at hb;refine rg cx ?_;simp [push_cast];simp only [zfm, Bool.and_eq_false_iff];refine .inl (zax hlt ?_);rw [hat]; simp [hk0]; omega
    ·simp [hk3] at hb;refine rx cx [] (fun K hK => by simp [push_cast, e0]; (repeat refine ob ?_); exact hK) ?_;refine ⟨k + 1, ⟨hlt, by rw [zds, hall, hat]; simp [hk0]; omega⟩, by omega, ?_⟩;refine wk []
  ·have hge : k = l.length := by simp at hb; omega
   subst hge;refine rg cx ?_;simp [push_cast, zfm, hall]

def zbw (R : List Row) : Prop := R.length <= 1000000 /\ ∀ w ∈ R, w.runs.length <= 1000000
def zqd (R : List Row) : Prop := R.length <= 9223372036854775807 /\ ∀ w ∈ R, w.runs.length <= 9223372036854775807
theorem zun {R : List Row} (h : zbw R) : zqd R := ⟨by have := h.1; omega, fun w hw => by have := h.2 w hw; omega⟩

theorem zib (R : List Row) (hR : zqd R) : PC Tryz.prog 10 [.agg (zp R)] (.p (.bool (zo R))) := by
 have hl := hR.1;refine pw cx Tryz.func10 Tryz.ntmps10 ?_;refine rg cx ?_;refine rg cx ?_;refine zu (β := Nat) (fun k => ⟨49, [(1, .ptr 0 0 0), (3, .d (.int .i64 k))], [(0, some ⟨24, 1, [(zp R).map .d]⟩)], 1⟩) (fun k => k <= R.length /\ (List.range k).all (zmc R) = true) (fun k => R.length - k) 0 ?_ ⟨Nat.zero_le _, rfl⟩ ?_
 ·refine wk [(0, some 0)]
 ·intro k ⟨hk, hall⟩;refine Nav.imp ?_;refine rg cx ?_;refine awp_cd (decide ((k : Int) < R.length)) (fun hb => ?_) fun hb => ?_
  ·have hlt : k < R.length := by simpa using hb
   obtain ⟨r, hr⟩ := zap hlt;obtain ⟨p, hp⟩ : ∃ p, R[k - 1]? = some p := zap (by omega);have e0 := wI ((k : Int) + 1);have hat := zfv hr hp;have c1 := fine_big r.runs (hR.2 r (List.mem_of_getElem? hr));obtain ⟨y, ru⟩ := r;simp only at c1 hat;generalize hv : zfm ru = v at c1;rw [hv] at hat;refine rx cx [] (fun K hK => by simp [push_cast, hr, Row.row]; (repeat refine ob ?_); exact hK) ?_;by_cases h1 : okB y = true
   ·simp [okB] at h1;have h1a : ¬ y < -4096 := by omega
    have h1b : ¬ (4096 <= y) := by omega
    have h1c : okB y = true := by simp [okB]; omega
    by_cases hk0 : k = 0
    ·subst hk0;refine rx cx [(28, .p (.bool v))] (fun K hK => by simp [push_cast, h1a, h1b, hr, Row.row, c1]; (repeat refine ob ?_); exact hK) ?_;refine awp_cd (!v) (fun hb => ?_) fun hb => ?_
     ·simp at hb;refine rg cx ?_;simp [push_cast];exact zax hlt (by rw [hat, hb]; simp)
     ·simp at hb;refine rx cx [] (fun K hK => by simp [push_cast, e0]; (repeat refine ob ?_); exact hK) ?_;refine ⟨1, ⟨hlt, by rw [zds, hall, hat]; simp [h1c, hb]⟩, by omega, ?_⟩;refine wk [(0, some 0)]
    ·have e1 := wI ((k : Int) - 1);have e2 : ((k : Int) - 1).toNat = k - 1 := by omega
     have hk1 : (0 : Int) < k := by omega
     have hk2 : (0 : Int) <= k - 1 := by omega
     have hk3 : 0 < k := by omega
     obtain ⟨py, pr⟩ := p;by_cases h2 : py < y
     ·have h2' : ¬ (y <= py) := by omega
      refine rx cx [(28, .p (.bool v))] (fun K hK => by simp [push_cast, h1a, h1b, hr, hp, Row.row, c1, hk1, hk3, e1, e2, hk2, h2']; (repeat refine ob ?_); exact hK) ?_;refine awp_cd (!v) (fun hb => ?_) fun hb => ?_
      ·simp at hb;refine rg cx ?_;simp [push_cast];exact zax hlt (by rw [hat, hb]; simp)
      ·simp at hb;refine rx cx [] (fun K hK => by simp [push_cast, e0]; (repeat refine ob ?_); exact hK) ?_;refine ⟨k + 1, ⟨hlt, by rw [zds, hall, hat]; simp [h1c, hb, h2]⟩, by omega, ?_⟩;refine wk [(0, some 0)]
     ·have h2' : y <= py := by omega
      refine rx cx [(28, .skip)] (fun K hK => by simp [push_cast, h1a, h1b, hr, hp, Row.row, c1, hk1, hk3, e1, e2, hk2, h2']; (repeat refine ob ?_); exact hK) ?_;refine awp_cd true (fun hb => ?_) fun hb => ?_
      ·refine rg cx ?_;simp [push_cast];exact zax hlt (by rw [hat]; simp [h2, hk0])
      ·simp at hb
   ·have hF : zmc R k = false := by rw [hat]; simp [h1]
    by_cases h1a : y < -4096
    ·by_cases hk0 : k = 0
     ·subst hk0;refine rx cx [(28, .skip)] (fun K hK => by simp [push_cast, h1a, hr, Row.row]; (repeat refine ob ?_); exact hK) ?_;refine awp_cd true (fun hb => ?_) fun hb => ?_
      ·refine rg cx ?_;simp [push_cast];exact zax hlt hF
      ·simp at hb
     ·have e1 := wI ((k : Int) - 1);have e2 : ((k : Int) - 1).toNat = k - 1 := by omega
      obtain ⟨py, pr⟩ := p;refine rx cx [(28, .skip)] (fun K hK => by simp [push_cast, h1a, hr, hp, e1, e2, Row.row]; (repeat refine ob ?_); exact hK) ?_;refine awp_cd true (fun hb => ?_) fun hb => ?_
      ·refine rg cx ?_;simp [push_cast];exact zax hlt hF
      ·simp at hb
    ·have h1b : 4096 <= y := by simp [okB] at h1; omega
     by_cases hk0 : k = 0
     ·subst hk0;refine rx cx [(28, .skip)] (fun K hK => by simp [push_cast, h1a, h1b, hr, Row.row]; (repeat refine ob ?_); exact hK) ?_;refine awp_cd true (fun hb => ?_) fun hb => ?_
      ·refine rg cx ?_;simp [push_cast];exact zax hlt hF
      ·simp at hb
     ·have e1 := wI ((k : Int) - 1);have e2 : ((k : Int) - 1).toNat = k - 1 := by omega
      obtain ⟨py, pr⟩ := p;refine rx cx [(28, .skip)] (fun K hK => by simp [push_cast, h1a, h1b, hr, hp, e1, e2, Row.row]; (repeat refine ob ?_); exact hK) ?_;refine awp_cd true (fun hb => ?_) fun hb => ?_
      ·refine rg cx ?_;simp [push_cast];exact zax hlt hF
      ·simp at hb
  ·have hge : k = R.length := by simp at hb; omega
   subst hge;refine rg cx ?_;simp [push_cast, zo, hall]

theorem rows_at (R : List Row) {k : Nat} {r p : Row} {f z : Run} (hr : R[k]? = some r) (hp : R[k - 1]? = some p) (hf : r.runs[0]? = some f) (hz : r.runs[r.runs.length - 1]? = some z) :
  zmc R k = (okB r.y && (k == 0 || decide (p.y < r.y)) && zal r.runs && okB f.a && okB (z.b - 1)) := by
 rw [zfv hr hp, fine_iff hf hz];simp only [Bool.and_assoc]
theorem rows_nil (R : List Row) {k : Nat} {r : Row} (hr : R[k]? = some r) (h : r.runs = []) : zmc R k = false := by
 have := (List.getElem?_eq_some_iff.1 hr).1;obtain ⟨p, hp⟩ : ∃ p, R[k - 1]? = some p := zap (by omega);rw [zfv hr hp, h]; simp [zfm]

set_option maxHeartbeats 1000000 in
theorem zsl (R : List Row) (hR : zqd R) : PC Tryz.prog 53 [.agg (zp R)] (.p (.bool (zo R))) := by
 have hl := hR.1;refine pw cx Tryz.func53 Tryz.ntmps53 ?_;refine rg cx ?_;refine rg cx ?_;refine zu (β := Nat) (fun k => ⟨67, [(1, .ptr 0 0 0), (6, .d (zz R)), (7, .d (.int .i64 R.length)), (8, .d (.int .i64 k))], [(0, some ⟨24, 1, [(zp R).map .d]⟩)], 1⟩) (fun k => k <= R.length /\ (List.range k).all (zmc R) = true) (fun k => R.length - k) 0 ?_ ⟨Nat.zero_le _, rfl⟩ ?_
 ·refine wk [(0, some 0)]
 ·intro k ⟨hk, hall⟩;refine Nav.imp ?_;refine rg cx ?_;refine awp_cd (decide ((k : Int) < R.length)) (fun hb => ?_) fun hb => ?_
  ·have hlt : k < R.length := by simpa using hb
   obtain ⟨r, hr⟩ := zap hlt;obtain ⟨p, hp⟩ : ∃ p, R[k - 1]? = some p := zap (by omega);have e0 := wI ((k : Int) + 1);have e1 := wI ((k : Int) - 1);have hrl := hR.2 r (List.mem_of_getElem? hr);have c1 := ok_ok r.y;have c2 := rvalid_big r.runs hrl;have hnil := rows_nil R hr;have hcons := fun f z => @rows_at R k r p f z hr hp;obtain ⟨y, ru⟩ := r;obtain ⟨py, pr⟩ := p;simp only at c1 c2 hnil hcons hrl;have hno : zmc R k = false -> zo R = false := fun h => zax hlt h;have hy : okB y = false -> zmc R k = false := fun h => by rw [zfv hr hp]; simp [h]
   have hpy : k ≠ 0 -> y <= py -> zmc R k = false := fun h0 h => by rw [zfv hr hp]; simp [h0, show ¬ py < y by omega]
   have hrv : zal ru = false -> zmc R k = false := fun h => by
    cases hru : ru with
    | nil => exact hnil hru
    | cons a b =>
     obtain ⟨f, hf⟩ : ∃ f, ru[0]? = some f := zap (by rw [hru]; simp);obtain ⟨z, hz⟩ : ∃ f, ru[ru.length - 1]? = some f := zap (by rw [hru]; simp);rw [hcons f z hf hz, h]; simp
   generalize okB y = oy at *;generalize hrvd : zal ru = rv at c2 hrv hcons;refine rx cx [] (fun K hK => by simp [push_cast, hr, Row.row]; (repeat refine ob ?_); exact hK) ?_;cases oy with
   | false =>
    by_cases hk0 : k = 0
    ·subst hk0;refine rd cx mixed [(2, .p (.bool false)), (29, .skip)] (fun K hK => by simp [push_cast, c1, hr, Row.row]; (repeat refine ob ?_); exact hK) ?_;refine awp_cd true (fun hb => ?_) fun hb => ?_
     ·refine rg cx ?_;simp [push_cast];exact hno (hy rfl)
     ·simp at hb
    ·have e2 : ((k : Int) - 1).toNat = k - 1 := by omega
     refine rd cx mixed [(2, .p (.bool false)), (29, .skip)] (fun K hK => by simp [push_cast, c1, hp, e1, e2, Row.row]; (repeat refine ob ?_); exact hK) ?_;refine awp_cd true (fun hb => ?_) fun hb => ?_
     ·refine rg cx ?_;simp [push_cast];exact hno (hy rfl)
     ·simp at hb
   | true =>
    cases hru : ru with
    | nil =>
     subst hru;by_cases hk0 : k = 0
     ·subst hk0;refine rd cx mixed [(2, .p (.bool true)), (29, .skip)] (fun K hK => by simp [push_cast, c1, hr, Row.row]; (repeat refine ob ?_); exact hK) ?_;refine awp_cd true (fun hb => ?_) fun hb => ?_
      ·refine rg cx ?_;simp [push_cast];exact hno (hnil rfl)
      ·simp at hb
     ·have e2 : ((k : Int) - 1).toNat = k - 1 := by omega
      have hk1 : (0 : Int) < k := by omega
      have hk2 : (0 : Int) <= k - 1 := by omega
      have hk3 : 0 < k := by omega
      by_cases h2 : y <= py
      ·refine rd cx mixed [(2, .p (.bool true)), (29, .skip)] (fun K hK => by simp [push_cast, c1, hp, e1, e2, hk1, hk2, hk3, h2, Row.row]; (repeat refine ob ?_); exact hK) ?_;refine awp_cd true (fun hb => ?_) fun hb => ?_
       ·refine rg cx ?_;simp [push_cast];exact hno (hnil rfl)
       ·simp at hb
      ·refine rd cx mixed [(2, .p (.bool true)), (29, .skip)] (fun K hK => by simp [push_cast, c1, hp, e1, e2, hk1, hk2, hk3, h2, Row.row]; (repeat refine ob ?_); exact hK) ?_;refine awp_cd true (fun hb => ?_) fun hb => ?_
       ·refine rg cx ?_;simp [push_cast];exact hno (hnil rfl)
       ·simp at hb
    | cons x0 xr =>
     have hne : ru ≠ [] := by rw [hru]; simp
     rw [<- hru];have hnb : ((ru.length : Int) == 0) = false := by simp [hne]
     obtain ⟨f, hf⟩ : ∃ f, ru[0]? = some f := zap (by rw [hru]; simp);obtain ⟨z, hz⟩ : ∃ f, ru[ru.length - 1]? = some f := zap (by rw [hru]; simp);have hcons' := hcons f z hf hz;have hzb : rv = true -> zjn z = true := fun h => (zem (by rw [hrvd, h]) hz).2;have hrp : 1 <= ru.length := by rw [hru]; simp
     clear hru hcons;cases rv with
     | false =>
      by_cases hk0 : k = 0
      ·subst hk0;refine rd cx mixed [(2, .p (.bool true)), (29, .p (.bool false))] (fun K hK => by simp [push_cast, c1, c2, hr, hnb, Row.row]; (repeat refine ob ?_); exact hK) ?_;refine awp_cd true (fun hb => ?_) fun hb => ?_
       ·refine rg cx ?_;simp [push_cast];exact hno (hrv rfl)
       ·simp at hb
      ·have e2 : ((k : Int) - 1).toNat = k - 1 := by omega
       have hk1 : (0 : Int) < k := by omega
       have hk2 : (0 : Int) <= k - 1 := by omega
       have hk3 : 0 < k := by omega
       by_cases h2 : y <= py
       ·refine rd cx mixed [(2, .p (.bool true)), (29, .skip)] (fun K hK => by simp [push_cast, c1, hp, e1, e2, hk1, hk2, hk3, h2, Row.row]; (repeat refine ob ?_); exact hK) ?_;refine awp_cd true (fun hb => ?_) fun hb => ?_
        ·refine rg cx ?_;simp [push_cast];exact hno (hrv rfl)
        ·simp at hb
       ·refine rd cx mixed [(2, .p (.bool true)), (29, .p (.bool false))] (fun K hK => by simp [push_cast, c1, c2, hp, e1, e2, hk1, hk2, hk3, h2, hnb, Row.row]; (repeat refine ob ?_); exact hK) ?_;refine awp_cd true (fun hb => ?_) fun hb => ?_
        ·refine rg cx ?_;simp [push_cast];exact hno (hrv rfl)
        ·simp at hb
     | true =>
      by_cases hq : k ≠ 0 /\ y <= py
      ·obtain ⟨hk0, h2⟩ := hq;have e2 : ((k : Int) - 1).toNat = k - 1 := by omega
       have hk1 : (0 : Int) < k := by omega
       have hk2 : (0 : Int) <= k - 1 := by omega
       have hk3 : 0 < k := by omega
       refine rd cx mixed [(2, .p (.bool true)), (29, .skip)] (fun K hK => by simp [push_cast, c1, hp, e1, e2, hk1, hk2, hk3, h2, Row.row]; (repeat refine ob ?_); exact hK) ?_;refine awp_cd true (fun hb => ?_) fun hb => ?_
       ·refine rg cx ?_;simp [push_cast];exact hno (hpy hk0 h2)
       ·simp at hb
      ·have hat : zmc R k = (okB f.a && okB (z.b - 1)) := by
        rw [hcons'];by_cases h : k = 0
        ·simp [h]
        ·have : py < y := by
          apply Int.not_le.1
          exact fun h2 => hq ⟨h, h2⟩
         simp [h, this]
       apply cut_
       ·intro key;by_cases hk0 : k ≠ 0
        ·have e2 : ((k : Int) - 1).toNat = k - 1 := by omega
         have hk1 : (0 : Int) < k := by omega
         have hk2 : (0 : Int) <= k - 1 := by omega
         have hk3 : 0 < k := by omega
         have h2 : ¬ y <= py := fun h => hq ⟨hk0, h⟩;refine rd cx mixed [(2, .p (.bool true)), (29, .p (.bool true))] (fun K hK => by simp [push_cast, c1, c2, hp, e1, e2, hk1, hk2, hk3, h2, hnb, Row.row]; (repeat refine ob ?_); exact hK) ?_;refine awp_cd false (fun hb => ?_) fun hb => ?_
         ·simp at hb
         ·refine zbf (s' := ⟨67, [(1, .ptr 0 0 0), (4, .ptr 1 0 0), (6, .d (zz R)), (7, .d (.int .i64 R.length)), (8, .d (.int .i64 k))], [(0, some ⟨24, 1, [(zp R).map .d]⟩), (1, some ⟨65, 2, [(Row.row ⟨y, ru⟩).map .d]⟩)], 2⟩) ?_ key.h;refine wq [(0, some 0), (1, some 5)] (by simp [upT, upH, upR, upL, up, push_cast, Row.row])
        ·have hk0 := Classical.not_not.1 hk0;subst hk0;refine rd cx mixed [(2, .p (.bool true)), (29, .p (.bool true))] (fun K hK => by simp [push_cast, c1, c2, hr, hnb, Row.row]; (repeat refine ob ?_); exact hK) ?_;refine awp_cd false (fun hb => ?_) fun hb => ?_
         ·simp at hb
         ·refine zbf (s' := ⟨67, [(1, .ptr 0 0 0), (4, .ptr 1 0 0), (6, .d (zz R)), (7, .d (.int .i64 R.length)), (8, .d (.int .i64 (0 : Nat)))], [(0, some ⟨24, 1, [(zp R).map .d]⟩), (1, some ⟨65, 2, [(Row.row ⟨y, ru⟩).map .d]⟩)], 2⟩) ?_ key.h;refine wq [(0, some 0), (1, some 5)] (by simp [upT, upH, upR, upL, up, push_cast, Row.row])
       ·refine Nav.imp ?_;have d1 := ok_ok f.a;have d2 := ok_ok (z.b - 1);have hzf := zln (hzb rfl);have e3 := wI ((ru.length : Int) - 1);have e4 : ((ru.length : Int) - 1).toNat = ru.length - 1 := by omega
        have e5 : (0 : Int) <= (ru.length : Int) - 1 := by omega
        have e6 := wI (z.b - 1);obtain ⟨fa, fb⟩ := f;obtain ⟨za, zb⟩ := z;simp only at d1 d2 hat e6;generalize okB fa = p1 at *;generalize okB (zb - 1) = p2 at *;cases p1 with
        | false =>
         refine rx cx [(5, .p (.bool false)), (18, .skip)] (fun K hK => by simp [push_cast, hf, hz, Row.row, Run.row, d1, e3, e4, e5, e6]; (repeat refine ob ?_); exact hK) ?_;refine awp_cd true (fun hb => ?_) fun hb => ?_
         ·refine rg cx ?_;simp [push_cast];exact hno (by rw [hat]; rfl)
         ·simp at hb
        | true =>
         refine rx cx [(5, .p (.bool true)), (18, .p (.bool p2))] (fun K hK => by simp [push_cast, hf, hz, Row.row, Run.row, d1, d2, e3, e4, e5, e6]; (repeat refine ob ?_); exact hK) ?_;refine awp_cd (!p2) (fun hb => ?_) fun hb => ?_
         ·simp at hb;refine rg cx ?_;simp [push_cast];exact hno (by rw [hat, hb]; rfl)
         ·simp at hb;refine rx cx [] (fun K hK => by simp [push_cast, e0]; (repeat refine ob ?_); exact hK) ?_;refine ⟨k + 1, ⟨hlt, by rw [zds, hall, hat, hb]; rfl⟩, by omega, ?_⟩;refine wk [(0, some 0)]
  ·have hge : k = R.length := by simp at hb; omega
   subst hge;refine rg cx ?_;simp [push_cast, zo, hall]
theorem validR_ok (R : List Row) (hR : zbw R) : PC Tryz.prog 10 [.agg (zp R)] (.p (.bool (zo R))) := zib R (zun hR)
theorem zmy (R : List Row) (hR : zbw R) : PC Tryz.prog 53 [.agg (zp R)] (.p (.bool (zo R))) := zsl R (zun hR)


def zco (y : Int) (r : Run) : List zf := (List.range (r.b - r.a).toNat).map fun k : Nat => ⟨r.a + k, y⟩
def zcg (w : Row) : List zf := w.runs.flatMap (zco w.y)
def zl (R : List Row) : List zf := R.flatMap zcg
def cellsOf (R : List Row) : List zf := if zo R then zl R else []

theorem zhi {α β : Type} (f : α -> List β) {l : List α} {i : Nat} {x : α} (h : l[i]? = some x) : (l.take (i + 1)).flatMap f = (l.take i).flatMap f ++ f x := by
 rw [zat h]; simp
theorem flat_split {α β : Type} (f : α -> List β) {l : List α} {i : Nat} {x : α} (h : l[i]? = some x) : l.flatMap f = (l.take i).flatMap f ++ f x ++ (l.drop (i + 1)).flatMap f := by
 conv => lhs; rw [<- List.take_append_drop (i + 1) l, List.flatMap_append, zhi f h]
theorem zgd (y : Int) (r : Run) : (zco y r).length = (r.b - r.a).toNat := by simp [zco]

def zfu (R : List Row) (i : Nat) : List zf := (R.take i).flatMap zcg
def zjv (w : Row) (k : Nat) : List zf := (w.runs.take k).flatMap (zco w.y)
theorem rowsTo_all (R : List Row) : zfu R R.length = zl R := by simp [zfu, zl]
theorem runsTo_all (w : Row) : zjv w w.runs.length = zcg w := by simp [zjv, zcg]
theorem zqz {R : List Row} {i : Nat} {w : Row} (h : R[i]? = some w) : zfu R (i + 1) = zfu R i ++ zcg w := zhi zcg h
theorem runsTo_next {w : Row} {k : Nat} {r : Run} (h : w.runs[k]? = some r) : zjv w (k + 1) = zjv w k ++ zco w.y r := zhi (zco w.y) h
theorem ziy {l : List Run} (h : zfm l = true) {k : Nat} {r : Run} (hr : l[k]? = some r) : -4096 <= r.a /\ r.a < r.b /\ r.b <= 4096 := by
 simp only [zfm, Bool.and_eq_true] at h;have hk := (List.getElem?_eq_some_iff.1 hr).1;obtain ⟨p, hp⟩ : ∃ p, l[k - 1]? = some p := zap (by omega);have := zcc h.1 hk;rw [ziq hr hp] at this;simp at this;omega
theorem znu {l : List Run} (h : zfm l = true) : ∃ f z, l[0]? = some f /\ l[l.length - 1]? = some z /\ (-4096 <= f.a /\ f.a < f.b /\ f.b <= 4096) /\ (-4096 <= z.a /\ z.a < z.b /\ z.b <= 4096) /\ 0 < l.length := by
 have hp : 0 < l.length := by
  cases l with
  | nil => simp [zfm] at h
  | cons a l => simp
 obtain ⟨f, hf⟩ : ∃ f, l[0]? = some f := zap hp;obtain ⟨z, hz⟩ : ∃ f, l[l.length - 1]? = some f := zap (by omega);have h1 := ziy h hf;have h2 := ziy h hz;exact ⟨f, z, hf, hz, by omega, by omega, hp⟩

theorem fine_gap {l : List Run} (h : zfm l = true) {k : Nat} {r p : Run} (hr : l[k + 1]? = some r) (hp : l[k]? = some p) : p.b < r.a := by
 simp only [zfm, Bool.and_eq_true] at h;have hk := (List.getElem?_eq_some_iff.1 hr).1;have := zcc h.1 hk;rw [ziq hr (by simpa using hp)] at this;simp at this;omega
theorem zdv {R : List Row} (h : zo R = true) {i : Nat} {w : Row} (hw : R[i]? = some w) : (-4096 <= w.y /\ w.y < 4096) /\ zfm w.runs = true := by
 have hk := (List.getElem?_eq_some_iff.1 hw).1;obtain ⟨p, hp⟩ : ∃ p, R[i - 1]? = some p := zap (by omega);have := zcc h hk;rw [zfv hw hp] at this;simp [okB] at this;exact ⟨this.1.1, this.2⟩
theorem ztt {R : List Row} (h : zo R = true) {i : Nat} {w p : Row} (hw : R[i + 1]? = some w) (hp : R[i]? = some p) : p.y < w.y := by
 have hk := (List.getElem?_eq_some_iff.1 hw).1;have := zcc h hk;rw [zfv hw (by simpa using hp)] at this;simp at this;omega


theorem row_runs {R : List Row} (h : zo R = true) {w : Row} (hw : w ∈ R) {r : Run} (hr : r ∈ w.runs) : -4096 <= r.a /\ r.a < r.b /\ r.b <= 4096 := by
 obtain ⟨i, hi⟩ := List.mem_iff_getElem?.1 hw;obtain ⟨k, hk⟩ := List.mem_iff_getElem?.1 hr;exact ziy (zdv h hi).2 hk

theorem zcp {y : Int} {r : Run} {c : zf} : c ∈ zco y r ↔ c.y = y /\ r.a <= c.x /\ c.x < r.b := by
 simp only [zco, List.mem_map, List.mem_range];constructor
 ·rintro ⟨k, hk, rfl⟩;exact ⟨rfl, by simp only; omega, by simp only; omega⟩
 ·rintro ⟨h1, h2, h3⟩;refine ⟨(c.x - r.a).toNat, by omega, ?_⟩;cases c;simp only [zf.mk.injEq] at *;exact ⟨by omega, h1.symm⟩
theorem zdk {R : List Row} {c : zf} : c ∈ zl R ↔ ∃ w ∈ R, c.y = w.y /\ ∃ r ∈ w.runs, r.a <= c.x /\ c.x < r.b := by
 simp only [zl, zcg, List.mem_flatMap, zcp];constructor
 ·rintro ⟨w, hw, r, hr, h1, h2, h3⟩;exact ⟨w, hw, h1, r, hr, h2, h3⟩
 ·rintro ⟨w, hw, h1, r, hr, h2, h3⟩;exact ⟨w, hw, r, hr, h1, h2, h3⟩

theorem zvg {R : List Row} (h : zo R = true) : ∀ (j i : Nat) (w p : Row), i < j -> R[j]? = some w -> R[i]? = some p -> p.y < w.y
 | 0, i, w, p, hij, _, _ => by omega
 | j + 1, i, w, p, hij, hw, hp => by
  by_cases e : i = j
  ·subst e; exact ztt h hw hp
  ·have hj := (List.getElem?_eq_some_iff.1 hw).1;obtain ⟨q, hq⟩ : ∃ q, R[j]? = some q := zap (by omega);have h1 := zvg h j i q p (by omega) hq hp;have h2 := ztt h hw hq;omega
theorem rows_eq {R : List Row} (h : zo R = true) {w p : Row} (hw : w ∈ R) (hp : p ∈ R) (he : w.y = p.y) : w = p := by
 obtain ⟨j, hj⟩ := List.mem_iff_getElem?.1 hw;obtain ⟨i, hi⟩ := List.mem_iff_getElem?.1 hp;rcases Nat.lt_trichotomy i j with hlt | e | hlt
 ·have := zvg h j i w p hlt hj hi; omega
 ·subst e; rw [hj] at hi; exact Option.some.inj hi
 ·have := zvg h i j p w hlt hi hj; omega
theorem runs_lt {l : List Run} (h : zfm l = true) : ∀ (j i : Nat) (r p : Run), i < j -> l[j]? = some r -> l[i]? = some p -> p.b < r.a
 | 0, i, r, p, hij, _, _ => by omega
 | j + 1, i, r, p, hij, hr, hp => by
  by_cases e : i = j
  ·subst e; exact fine_gap h hr hp
  ·have hj := (List.getElem?_eq_some_iff.1 hr).1;obtain ⟨q, hq⟩ : ∃ q, l[j]? = some q := zap (by omega);have h1 := runs_lt h j i q p (by omega) hq hp;have h2 := fine_gap h hr hq;have h3 := ziy h hq;omega
theorem zbs {R : List Row} (h : zo R = true) {w : Row} (hw : w ∈ R) : (-4096 <= w.y /\ w.y < 4096) /\ zfm w.runs = true := by
 obtain ⟨i, hi⟩ := List.mem_iff_getElem?.1 hw;exact zdv h hi
theorem cells_on {R : List Row} (h : zo R = true) {c : zf} (hc : c ∈ zl R) : onG c = true := by
 obtain ⟨w, hw, hy, r, hr, h1, h2⟩ := zdk.1 hc;have h3 := zbs h hw;have h4 := row_runs h hw hr;simp [onG]; omega

def rgt (c : zf) : zf := ⟨c.x + 1, c.y⟩
def hN (l : List zf) : Nat -> zf -> List zf
 | 0, _ => []
 | n + 1, c => if c ∈ l then c :: hN l n (rgt c) else []
def hst (l : List zf) (c : zf) : Bool := !decide ((⟨c.x - 1, c.y⟩ : zf) ∈ l)

def ltY (a b : zf) : Prop := a.y < b.y \/ a.y = b.y /\ a.x < b.x
theorem ziw {R : List Row} (h : zo R = true) : R.Pairwise fun a b => a.y < b.y := by
 rw [List.pairwise_iff_getElem];intro i j hi hj hij;exact zvg h j i R[j] R[i] hij (List.getElem?_eq_getElem hj) (List.getElem?_eq_getElem hi)
theorem runs_pw {l : List Run} (h : zfm l = true) : l.Pairwise fun p r => p.b < r.a := by
 rw [List.pairwise_iff_getElem];intro i j hi hj hij;exact runs_lt h j i l[j] l[i] hij (List.getElem?_eq_getElem hj) (List.getElem?_eq_getElem hi)
theorem zhv {R : List Row} (h : zo R = true) : (zl R).Pairwise ltY := by
 unfold zl;rw [List.pairwise_flatMap];refine ⟨fun w hw => ?_, ?_⟩
 ·unfold zcg;rw [List.pairwise_flatMap];refine ⟨fun r hr => ?_, ?_⟩
  ·unfold zco;rw [List.pairwise_map];exact List.Pairwise.imp (fun {a b} hab => .inr ⟨rfl, by simp only; omega⟩) List.pairwise_lt_range
  ·refine List.Pairwise.imp_of_mem (fun {p r} hp hr hpr => ?_) (runs_pw (zbs h hw).2);intro a ha b hb;have h1 := zcp.1 ha;have h2 := zcp.1 hb;exact .inr ⟨by omega, by omega⟩
 ·refine List.Pairwise.imp_of_mem (fun {w v} hw hv hwv => ?_) (ziw h);intro a ha b hb;simp only [zcg, List.mem_flatMap] at ha hb;obtain ⟨r, hr, ha⟩ := ha;obtain ⟨p, hp, hb⟩ := hb;have h1 := zcp.1 ha;have h2 := zcp.1 hb;exact .inl (by omega)

theorem zpc {l : List zf} (h : l.Pairwise ltY) : l.Nodup :=
 h.imp fun {a b} hab e => by subst e; simp [ltY] at hab

def addRun (l : List Run) (x : Int) : List Run := match l.getLast? with
 | none => [⟨x, x + 1⟩]
 | some r => if r.b < x then l ++ [⟨x, x + 1⟩] else l.dropLast ++ [⟨r.a, max r.b (x + 1)⟩]
def zti (R : List Row) (c : zf) : List Row := match R.getLast? with
 | none => [⟨c.y, [⟨c.x, c.x + 1⟩]⟩]
 | some w => if w.y = c.y then R.dropLast ++ [⟨w.y, addRun w.runs c.x⟩] else R ++ [⟨c.y, [⟨c.x, c.x + 1⟩]⟩]
def build (l : List zf) : List Row := l.foldl zti []

theorem addRun_nil (x : Int) : addRun [] x = [⟨x, x + 1⟩] := rfl
theorem zqf (l : List Run) (r : Run) (x : Int) : addRun (l ++ [r]) x = if r.b < x then l ++ [r] ++ [⟨x, x + 1⟩] else l ++ [⟨r.a, max r.b (x + 1)⟩] := by simp [addRun]
theorem zwy (c : zf) : zti [] c = [⟨c.y, [⟨c.x, c.x + 1⟩]⟩] := rfl
theorem zom (R : List Row) (w : Row) (c : zf) : zti (R ++ [w]) c = if w.y = c.y then R ++ [⟨w.y, addRun w.runs c.x⟩] else R ++ [w] ++ [⟨c.y, [⟨c.x, c.x + 1⟩]⟩] := by simp [zti]
theorem addC_len (R : List Row) (c : zf) : (zti R c).length <= R.length + 1 := by
 rcases List.eq_nil_or_concat R with rfl | ⟨R', w, rfl⟩
 ·simp [zwy]
 ·rw [List.concat_eq_append, zom]; split <;> simp
theorem build_take {l : List zf} {k : Nat} {c : zf} (h : l[k]? = some c) : build (l.take (k + 1)) = zti (build (l.take k)) c := by
 simp [build, zat h]

theorem build_run (P : List Row) (L : List Run) (y a : Int) : ∀ (n j : Nat), ((List.range n).map fun k : Nat => (⟨a + (j + 1) + k, y⟩ : zf)).foldl zti (P ++ [⟨y, L ++ [⟨a, a + j + 1⟩]⟩]) = P ++ [⟨y, L ++ [⟨a, a + j + 1 + n⟩]⟩]
 | 0, j => by simp
 | n + 1, j => by
  rw [List.range_succ_eq_map, List.map_cons, List.foldl_cons, zom, zqf];simp only [if_true, Int.natCast_zero, Int.add_zero];have h1 : ¬ a + (j : Int) + 1 < a + ((j : Int) + 1) := by omega
  have h2 : max (a + (j : Int) + 1) (a + ((j : Int) + 1) + 1) = a + ((j + 1 : Nat) : Int) + 1 := by omega
  rw [if_neg h1, h2];have := build_run P L y a n (j + 1);rw [List.map_map];have e : ((fun k : Nat => (⟨a + ((j : Int) + 1) + k, y⟩ : zf)) ∘ Nat.succ) = fun k : Nat => (⟨a + (((j + 1 : Nat) : Int) + 1) + k, y⟩ : zf) := by
   funext k; simp; omega
  rw [e, this]
  congr 4
  simp; omega
theorem run_cells {y : Int} {r : Run} (h : r.a < r.b) : ∃ n : Nat, r.b = r.a + 1 + n /\ zco y r = ⟨r.a, y⟩ :: (List.range n).map fun k : Nat => (⟨r.a + ((0 : Nat) + 1) + k, y⟩ : zf) := by
 refine ⟨(r.b - r.a - 1).toNat, by omega, ?_⟩;unfold zco;rw [show (r.b - r.a).toNat = (r.b - r.a - 1).toNat + 1 from by omega, List.range_succ_eq_map, List.map_cons, List.map_map]
 congr 1
 ·simp
 ·apply List.map_congr_left; intro k _; simp; omega
theorem build_next (P : List Row) (L : List Run) (y : Int) (r : Run) (h : r.a < r.b) (hL : L ≠ []) (hgap : ∀ p, L.getLast? = some p -> p.b < r.a) : (zco y r).foldl zti (P ++ [⟨y, L⟩]) = P ++ [⟨y, L ++ [r]⟩] := by
 obtain ⟨n, hn, hc⟩ := run_cells (y := y) h;obtain ⟨L', p, rfl⟩ : ∃ L' p, L = L' ++ [p] := by
  rcases List.eq_nil_or_concat L with e | ⟨L', p, e⟩
  ·exact absurd e hL
  ·exact ⟨L', p, by rw [e, List.concat_eq_append]⟩
 have := hgap p (by simp);rw [hc, List.foldl_cons, zom, zqf];simp only [if_true];rw [if_pos this];have h2 := build_run P (L' ++ [p]) y r.a n 0;simp only [Int.natCast_zero, Int.add_zero, Int.zero_add] at h2 ⊢;rw [h2, <- hn]
theorem build_first (P : List Row) (y : Int) (r : Run) (h : r.a < r.b) (hP : ∀ w, P.getLast? = some w -> w.y ≠ y) : (zco y r).foldl zti P = P ++ [⟨y, [r]⟩] := by
 obtain ⟨n, hn, hc⟩ := run_cells (y := y) h;rw [hc, List.foldl_cons];have h1 : zti P ⟨r.a, y⟩ = P ++ [⟨y, [] ++ [⟨r.a, r.a + (0 : Nat) + 1⟩]⟩] := by
  rcases List.eq_nil_or_concat P with rfl | ⟨P', w, rfl⟩
  ·simp [zwy]
  ·rw [List.concat_eq_append] at hP ⊢;have := hP w (by simp);rw [zom, if_neg this]; simp
 have h2 := build_run P [] y r.a n 0;rw [h1];simp only [Int.natCast_zero, Int.add_zero, Int.zero_add, List.nil_append] at h2 ⊢;rw [h2, <- hn]
theorem build_runs (P : List Row) (y : Int) : ∀ (l L : List Run), L ≠ [] -> zfm (L ++ l) = true -> (l.flatMap (zco y)).foldl zti (P ++ [⟨y, L⟩]) = P ++ [⟨y, L ++ l⟩]
 | [], L, _, _ => by simp
 | r :: l, L, hL, hf => by
  rw [List.flatMap_cons, List.foldl_append];have hr : (L ++ r :: l)[L.length]? = some r := by simp
  have h1 := ziy hf hr;rw [build_next P L y r h1.2.1 hL]
  ·have := build_runs P y l (L ++ [r]) (by simp) (by simpa using hf);rw [this]; simp
  ·intro p hp;rw [List.getLast?_eq_getElem?] at hp;have hlp : 0 < L.length := List.length_pos_iff.2 hL;refine fine_gap hf (k := L.length - 1) (by rw [show L.length - 1 + 1 = L.length from by omega]; exact hr) ?_;rw [List.getElem?_append_left (by omega)]; exact hp
theorem build_row (P : List Row) (w : Row) (hw : zfm w.runs = true) (hP : ∀ v, P.getLast? = some v -> v.y ≠ w.y) : (zcg w).foldl zti P = P ++ [w] := by
 obtain ⟨y, l⟩ := w;cases l with
 | nil => simp [zfm] at hw
 | cons r l =>
  have h1 := ziy hw (k := 0) (r := r) (by simp);simp only [zcg, List.flatMap_cons, List.foldl_append];rw [build_first P y r h1.2.1 hP, build_runs P y l [r] (by simp) hw];simp
theorem build_rows {R : List Row} (h : zo R = true) : ∀ (n : Nat), n <= R.length -> ((R.take n).flatMap zcg).foldl zti [] = R.take n
 | 0, _ => by simp
 | n + 1, hn => by
  obtain ⟨w, hw⟩ : ∃ w, R[n]? = some w := zap (by omega);rw [zat hw, List.flatMap_append, List.foldl_append, build_rows h n (by omega)];simp only [List.flatMap_cons, List.flatMap_nil, List.append_nil];refine build_row _ w (zdv h hw).2 fun v hv => ?_;rw [List.getLast?_eq_getElem?, List.length_take, Nat.min_eq_left (by omega)] at hv;by_cases e : n = 0
  ·subst e; simp at hv
  ·rw [List.getElem?_take, if_pos (by omega)] at hv;have := ztt h (i := n - 1) (by rw [show n - 1 + 1 = n from by omega]; exact hw) hv;omega
theorem zsd {R : List Row} (h : zo R = true) : build (zl R) = R := by
 have := build_rows h R.length (Nat.le_refl _)
 rwa [List.take_length] at this

def leY (a b : zf) : Bool := decide (a.y < b.y) || (decide (a.y = b.y) && decide (a.x <= b.x))
def ztm (l : List zf) : List zf := l.mergeSort leY
theorem zot (l : List zf) : (ztm l).Perm l := List.mergeSort_perm l leY
theorem sortY_le (l : List zf) : (ztm l).Pairwise fun a b => leY a b = true :=
 List.pairwise_mergeSort (fun a b c h1 h2 => by simp [leY] at *; omega) (fun a b => by simp [leY]; omega) l
theorem leY_anti {a b : zf} (h1 : leY a b = true) (h2 : leY b a = true) : a = b := by
 cases a; cases b; simp [leY] at *; omega
theorem zos : ∀ {l l' : List zf}, l.Perm l' -> (l.Pairwise fun a b => leY a b = true) -> (l'.Pairwise fun a b => leY a b = true) -> l = l'
 | [], l', h, _, _ => by have := h.length_eq; simp at this; exact (List.length_eq_zero_iff.1 this.symm).symm
 | a :: l, [], h, _, _ => by have := h.length_eq; simp at this
 | a :: l, b :: l', h, h2, h3 => by
  have hab : a = b := by
   have ha : a ∈ b :: l' := h.subset (by simp);have hb : b ∈ a :: l := h.symm.subset (by simp);rcases List.mem_cons.1 ha with e | ha
   ·exact e
   ·rcases List.mem_cons.1 hb with e | hb
    ·exact e.symm
    ·exact leY_anti ((List.pairwise_cons.1 h2).1 b hb) ((List.pairwise_cons.1 h3).1 a ha)
  subst hab;rw [zos h.cons_inv (List.pairwise_cons.1 h2).2 (List.pairwise_cons.1 h3).2]
theorem leY_of_lt {a b : zf} (h : ltY a b) : leY a b = true := by simp [leY, ltY] at *; omega
theorem sortY_cells {R : List Row} (h : zo R = true) {l : List zf} (hp : l.Perm (zl R)) : ztm l = zl R :=
 zos ((zot l).trans hp) (sortY_le l) ((zhv h).imp fun h => leY_of_lt h)
end Go.Proofs.YtdddknniooimmaaGreat
