/-
  Texts of this seat put together: R2, R3, R4, R5, HZ1, HZ2, ON1, Q1.
-/
import Derived.Test.YtdddknniooimmaaGreatJF4
set_option linter.unusedVariables false
set_option linter.unusedSimpArgs false
set_option maxRecDepth 100000
namespace Go.Proofs.YtdddknniooimmaaGreat
open Go.Abs

set_option maxRecDepth 100000 in
theorem fine_big (l : List Run) (hl : l.length <= 9223372036854775807) : PC Tryz.prog 44 [zn l] (.p (.bool (zel l))) := by
 refine pw cx Tryz.func44 Tryz.ntmps44 ?_;refine rg cx ?_;refine rg cx ?_;refine zz (β := Nat) (fun k => ⟨58, [(0, .d (zn l)), (3, .d (.int .i64 k))], [], 1⟩) (fun k => k <= l.length /\ (List.range k).all (fnAt l) = true) (fun k => l.length - k) 0 ?_ ⟨Nat.zero_le _, rfl⟩ ?_
 ·refine wk []
 ·intro k ⟨hk, hall⟩;refine Nav.imp ?_;refine rg cx ?_;refine awp_cd (decide ((k : Int) < l.length)) (fun hb => ?_) fun hb => ?_
  ·have hlt : k < l.length := by simpa using hb
   obtain ⟨r, hr⟩ := zak hlt;obtain ⟨p, hp⟩ : ∃ p, l[k - 1]? = some p := zak (by omega);have e0 := wI ((k : Int) + 1);have hat := zie hr hp;obtain ⟨ra, rb⟩ := r;by_cases hk0 : k = 0
   ·subst hk0;refine rd cx mixed [] (fun K hK => by simp [push_cast, hr, Run.row]; (repeat refine ob ?_); exact hK) ?_;refine zd (by simp [push_cast] <;> exact rfl) (fun hb => ?_) (fun hb => ?_) <;> (refine Nav.imp ?_)
    ·simp at hb;refine rg cx ?_;simp [push_cast];simp only [zel, Bool.and_eq_false_iff];refine .inl (zal hlt ?_);rw [hat]; simp; omega
    ·simp at hb;refine rx cx [] (fun K hK => by simp [push_cast, e0]; (repeat refine ob ?_); exact hK) ?_;refine ⟨1, ⟨hlt, by rw [zbq, hall, hat]; simp; omega⟩, by omega, ?_⟩;refine wk []
   ·have e1 := wI ((k : Int) - 1);have e2 : ((k : Int) - 1).toNat = k - 1 := by omega
    have hk1 : (0 : Int) < k := by omega
    have hk2 : (0 : Int) <= k - 1 := by omega
    have hk3 : 0 < k := by omega
    obtain ⟨pa, pb⟩ := p;refine rd cx mixed [] (fun K hK => by simp [push_cast, hr, hp, Run.row, e1, e2, hk1, hk2, hk3]; (repeat refine ob ?_); exact hK) ?_;refine zd (by simp [push_cast] <;> exact rfl) (fun hb => ?_) (fun hb => ?_) <;> (refine Nav.imp ?_)
    ·simp [hk3] at hb;refine rg cx ?_;simp [push_cast];simp only [zel, Bool.and_eq_false_iff];refine .inl (zal hlt ?_);rw [hat]; simp [hk0]; omega
    ·simp [hk3] at hb;refine rx cx [] (fun K hK => by simp [push_cast, e0]; (repeat refine ob ?_); exact hK) ?_;refine ⟨k + 1, ⟨hlt, by rw [zbq, hall, hat]; simp [hk0]; omega⟩, by omega, ?_⟩;refine wk []
  ·have hge : k = l.length := by simp at hb; omega
   subst hge;refine rg cx ?_;simp [push_cast, zel, hall]

def zdi (R : List Row) : Prop := R.length <= 1000000 /\ ∀ w ∈ R, w.runs.length <= 1000000
def zoq (R : List Row) : Prop := R.length <= 9223372036854775807 /\ ∀ w ∈ R, w.runs.length <= 9223372036854775807
theorem zqt {R : List Row} (h : zdi R) : zoq R := ⟨by have := h.1; omega, fun w hw => by have := h.2 w hw; omega⟩

theorem zss (R : List Row) (hR : zoq R) : PC Tryz.prog 10 [.agg (zt R)] (.p (.bool (zo R))) := by
 have hl := hR.1;refine pw cx Tryz.func10 Tryz.ntmps10 ?_;refine rg cx ?_;refine rg cx ?_;refine zz (β := Nat) (fun k => ⟨49, [(1, .ptr 0 0 0), (3, .d (.int .i64 k))], [(0, some ⟨24, 1, [(zt R).map .d]⟩)], 1⟩) (fun k => k <= R.length /\ (List.range k).all (zmi R) = true) (fun k => R.length - k) 0 ?_ ⟨Nat.zero_le _, rfl⟩ ?_
 ·refine wk [(0, some 0)]
 ·intro k ⟨hk, hall⟩;refine Nav.imp ?_;refine rg cx ?_;refine awp_cd (decide ((k : Int) < R.length)) (fun hb => ?_) fun hb => ?_
  ·have hlt : k < R.length := by simpa using hb
   obtain ⟨r, hr⟩ := zak hlt;obtain ⟨p, hp⟩ : ∃ p, R[k - 1]? = some p := zak (by omega);have e0 := wI ((k : Int) + 1);have hat := zfe hr hp;have c1 := fine_big r.runs (hR.2 r (List.mem_of_getElem? hr));obtain ⟨y, ru⟩ := r;simp only at c1 hat;generalize hv : zel ru = v at c1;rw [hv] at hat;refine rx cx [] (fun K hK => by simp [push_cast, hr, Row.row]; (repeat refine ob ?_); exact hK) ?_;by_cases h1 : okB y = true
   ·simp [okB] at h1;have h1a : ¬ y < -4096 := by omega
    have h1b : ¬ (4096 <= y) := by omega
    have h1c : okB y = true := by simp [okB]; omega
    by_cases hk0 : k = 0
    ·subst hk0;refine rx cx [(28, .p (.bool v))] (fun K hK => by simp [push_cast, h1a, h1b, hr, Row.row, c1]; (repeat refine ob ?_); exact hK) ?_;refine awp_cd (!v) (fun hb => ?_) fun hb => ?_
     ·simp at hb;refine rg cx ?_;simp [push_cast];exact zal hlt (by rw [hat, hb]; simp)
     ·simp at hb;refine rx cx [] (fun K hK => by simp [push_cast, e0]; (repeat refine ob ?_); exact hK) ?_;refine ⟨1, ⟨hlt, by rw [zbq, hall, hat]; simp [h1c, hb]⟩, by omega, ?_⟩;refine wk [(0, some 0)]
    ·have e1 := wI ((k : Int) - 1);have e2 : ((k : Int) - 1).toNat = k - 1 := by omega
     have hk1 : (0 : Int) < k := by omega
     have hk2 : (0 : Int) <= k - 1 := by omega
     have hk3 : 0 < k := by omega
     obtain ⟨py, pr⟩ := p;by_cases h2 : py < y
     ·have h2' : ¬ (y <= py) := by omega
      refine rx cx [(28, .p (.bool v))] (fun K hK => by simp [push_cast, h1a, h1b, hr, hp, Row.row, c1, hk1, hk3, e1, e2, hk2, h2']; (repeat refine ob ?_); exact hK) ?_;refine awp_cd (!v) (fun hb => ?_) fun hb => ?_
      ·simp at hb;refine rg cx ?_;simp [push_cast];exact zal hlt (by rw [hat, hb]; simp)
      ·simp at hb;refine rx cx [] (fun K hK => by simp [push_cast, e0]; (repeat refine ob ?_); exact hK) ?_;refine ⟨k + 1, ⟨hlt, by rw [zbq, hall, hat]; simp [h1c, hb, h2]⟩, by omega, ?_⟩;refine wk [(0, some 0)]
     ·have h2' : y <= py := by omega
      refine rx cx [(28, .skip)] (fun K hK => by simp [push_cast, h1a, h1b, hr, hp, Row.row, c1, hk1, hk3, e1, e2, hk2, h2']; (repeat refine ob ?_); exact hK) ?_;refine awp_cd true (fun hb => ?_) fun hb => ?_
      ·refine rg cx ?_;simp [push_cast];exact zal hlt (by rw [hat]; simp [h2, hk0])
      ·simp at hb
   ·have hF : zmi R k = false := by rw [hat]; simp [h1]
    by_cases h1a : y < -4096
    ·by_cases hk0 : k = 0
     ·subst hk0;refine rx cx [(28, .skip)] (fun K hK => by simp [push_cast, h1a, hr, Row.row]; (repeat refine ob ?_); exact hK) ?_;refine awp_cd true (fun hb => ?_) fun hb => ?_
      ·refine rg cx ?_;simp [push_cast];exact zal hlt hF
      ·simp at hb
     ·have e1 := wI ((k : Int) - 1);have e2 : ((k : Int) - 1).toNat = k - 1 := by omega
      obtain ⟨py, pr⟩ := p;refine rx cx [(28, .skip)] (fun K hK => by simp [push_cast, h1a, hr, hp, e1, e2, Row.row]; (repeat refine ob ?_); exact hK) ?_;refine awp_cd true (fun hb => ?_) fun hb => ?_
      ·refine rg cx ?_;simp [push_cast];exact zal hlt hF
      ·simp at hb
    ·have h1b : 4096 <= y := by simp [okB] at h1; omega
     by_cases hk0 : k = 0
     ·subst hk0;refine rx cx [(28, .skip)] (fun K hK => by simp [push_cast, h1a, h1b, hr, Row.row]; (repeat refine ob ?_); exact hK) ?_;refine awp_cd true (fun hb => ?_) fun hb => ?_
      ·refine rg cx ?_;simp [push_cast];exact zal hlt hF
      ·simp at hb
     ·have e1 := wI ((k : Int) - 1);have e2 : ((k : Int) - 1).toNat = k - 1 := by omega
      obtain ⟨py, pr⟩ := p;refine rx cx [(28, .skip)] (fun K hK => by simp [push_cast, h1a, h1b, hr, hp, e1, e2, Row.row]; (repeat refine ob ?_); exact hK) ?_;refine awp_cd true (fun hb => ?_) fun hb => ?_
      ·refine rg cx ?_;simp [push_cast];exact zal hlt hF
      ·simp at hb
  ·have hge : k = R.length := by simp at hb; omega
   subst hge;refine rg cx ?_;simp [push_cast, zo, hall]

theorem rows_at (R : List Row) {k : Nat} {r p : Row} {f z : Run} (hr : R[k]? = some r) (hp : R[k - 1]? = some p) (hf : r.runs[0]? = some f) (hz : r.runs[r.runs.length - 1]? = some z) :
  zmi R k = (okB r.y && (k == 0 || decide (p.y < r.y)) && zar r.runs && okB f.a && okB (z.b - 1)) := by
 rw [zfe hr hp, fine_iff hf hz];simp only [Bool.and_assoc]
theorem rows_nil (R : List Row) {k : Nat} {r : Row} (hr : R[k]? = some r) (h : r.runs = []) : zmi R k = false := by
 have := (List.getElem?_eq_some_iff.1 hr).1;obtain ⟨p, hp⟩ : ∃ p, R[k - 1]? = some p := zak (by omega);rw [zfe hr hp, h]; simp [zel]

set_option maxHeartbeats 1000000 in
theorem zqy (R : List Row) (hR : zoq R) : PC Tryz.prog 53 [.agg (zt R)] (.p (.bool (zo R))) := by
 have hl := hR.1;refine pw cx Tryz.func53 Tryz.ntmps53 ?_;refine rg cx ?_;refine rg cx ?_;refine zz (β := Nat) (fun k => ⟨67, [(1, .ptr 0 0 0), (6, .d (zu R)), (7, .d (.int .i64 R.length)), (8, .d (.int .i64 k))], [(0, some ⟨24, 1, [(zt R).map .d]⟩)], 1⟩) (fun k => k <= R.length /\ (List.range k).all (zmi R) = true) (fun k => R.length - k) 0 ?_ ⟨Nat.zero_le _, rfl⟩ ?_
 ·refine wk [(0, some 0)]
 ·intro k ⟨hk, hall⟩;refine Nav.imp ?_;refine rg cx ?_;refine awp_cd (decide ((k : Int) < R.length)) (fun hb => ?_) fun hb => ?_
  ·have hlt : k < R.length := by simpa using hb
   obtain ⟨r, hr⟩ := zak hlt;obtain ⟨p, hp⟩ : ∃ p, R[k - 1]? = some p := zak (by omega);have e0 := wI ((k : Int) + 1);have e1 := wI ((k : Int) - 1);have hrl := hR.2 r (List.mem_of_getElem? hr);have c1 := ok_ok r.y;have c2 := rvalid_big r.runs hrl;have hnil := rows_nil R hr;have hcons := fun f z => @rows_at R k r p f z hr hp;obtain ⟨y, ru⟩ := r;obtain ⟨py, pr⟩ := p;simp only at c1 c2 hnil hcons hrl;have hno : zmi R k = false -> zo R = false := fun h => zal hlt h;have hy : okB y = false -> zmi R k = false := fun h => by rw [zfe hr hp]; simp [h]
   have hpy : k ≠ 0 -> y <= py -> zmi R k = false := fun h0 h => by rw [zfe hr hp]; simp [h0, show ¬ py < y by omega]
   have hrv : zar ru = false -> zmi R k = false := fun h => by
    cases hru : ru with
    | nil => exact hnil hru
    | cons a b =>
     obtain ⟨f, hf⟩ : ∃ f, ru[0]? = some f := zak (by rw [hru]; simp);obtain ⟨z, hz⟩ : ∃ f, ru[ru.length - 1]? = some f := zak (by rw [hru]; simp);rw [hcons f z hf hz, h]; simp
   generalize okB y = oy at *;generalize hrvd : zar ru = rv at c2 hrv hcons;refine rx cx [] (fun K hK => by simp [push_cast, hr, Row.row]; (repeat refine ob ?_); exact hK) ?_;cases oy with
   | false =>
    by_cases hk0 : k = 0
    ·subst hk0;refine rd cx mixed [(2, .p (.bool false)), (29, .skip)] (fun K hK => by simp [push_cast, c1, hr, Row.row]; (repeat refine ob ?_); exact hK) ?_;refine awp_cd true (fun hb => ?_) fun hb => ?_
     ·refine rg cx ?_;simp [push_cast];exact hno (hy rfl)
     ·simp at hb
    ·have e2 : ((k : Int) - 1).toNat = k - 1 := by omega
     refine rd cx mixed [(2, .p (.bool false)), (29, .skip)] (fun K hK => by simp [push_cast, c1, hp, e1, e2, Row.row]; (repeat refine ob ?_); exact hK) ?_;refine awp_cd true (fun hb => ?_) fun hb => ?_
     ·refine rg cx ?_;simp [push_cast];exact hno (hy rfl)
     ·simp at hb
   | true =>
    cases hru : ru with
    | nil =>
     subst hru;by_cases hk0 : k = 0
     ·subst hk0;refine rd cx mixed [(2, .p (.bool true)), (29, .skip)] (fun K hK => by simp [push_cast, c1, hr, Row.row]; (repeat refine ob ?_); exact hK) ?_;refine awp_cd true (fun hb => ?_) fun hb => ?_
      ·refine rg cx ?_;simp [push_cast];exact hno (hnil rfl)
      ·simp at hb
     ·have e2 : ((k : Int) - 1).toNat = k - 1 := by omega
      have hk1 : (0 : Int) < k := by omega
      have hk2 : (0 : Int) <= k - 1 := by omega
      have hk3 : 0 < k := by omega
      by_cases h2 : y <= py
      ·refine rd cx mixed [(2, .p (.bool true)), (29, .skip)] (fun K hK => by simp [push_cast, c1, hp, e1, e2, hk1, hk2, hk3, h2, Row.row]; (repeat refine ob ?_); exact hK) ?_;refine awp_cd true (fun hb => ?_) fun hb => ?_
       ·refine rg cx ?_;simp [push_cast];exact hno (hnil rfl)
       ·simp at hb
      ·refine rd cx mixed [(2, .p (.bool true)), (29, .skip)] (fun K hK => by simp [push_cast, c1, hp, e1, e2, hk1, hk2, hk3, h2, Row.row]; (repeat refine ob ?_); exact hK) ?_;refine awp_cd true (fun hb => ?_) fun hb => ?_
       ·refine rg cx ?_;simp [push_cast];exact hno (hnil rfl)
       ·simp at hb
    | cons x0 xr =>
     have hne : ru ≠ [] := by rw [hru]; simp
     rw [<- hru];have hnb : ((ru.length : Int) == 0) = false := by simp [hne]
     obtain ⟨f, hf⟩ : ∃ f, ru[0]? = some f := zak (by rw [hru]; simp);obtain ⟨z, hz⟩ : ∃ f, ru[ru.length - 1]? = some f := zak (by rw [hru]; simp);have hcons' := hcons f z hf hz;have hzb : rv = true -> zmu z = true := fun h => (zer (by rw [hrvd, h]) hz).2;have hrp : 1 <= ru.length := by rw [hru]; simp
     clear hru hcons;cases rv with
     | false =>
      by_cases hk0 : k = 0
      ·subst hk0;refine rd cx mixed [(2, .p (.bool true)), (29, .p (.bool false))] (fun K hK => by simp [push_cast, c1, c2, hr, hnb, Row.row]; (repeat refine ob ?_); exact hK) ?_;refine awp_cd true (fun hb => ?_) fun hb => ?_
       ·refine rg cx ?_;simp [push_cast];exact hno (hrv rfl)
       ·simp at hb
      ·have e2 : ((k : Int) - 1).toNat = k - 1 := by omega
       have hk1 : (0 : Int) < k := by omega
       have hk2 : (0 : Int) <= k - 1 := by omega
       have hk3 : 0 < k := by omega
       by_cases h2 : y <= py
       ·refine rd cx mixed [(2, .p (.bool true)), (29, .skip)] (fun K hK => by simp [push_cast, c1, hp, e1, e2, hk1, hk2, hk3, h2, Row.row]; (repeat refine ob ?_); exact hK) ?_;refine awp_cd true (fun hb => ?_) fun hb => ?_
        ·refine rg cx ?_;simp [push_cast];exact hno (hrv rfl)
        ·simp at hb
       ·refine rd cx mixed [(2, .p (.bool true)), (29, .p (.bool false))] (fun K hK => by simp [push_cast, c1, c2, hp, e1, e2, hk1, hk2, hk3, h2, hnb, Row.row]; (repeat refine ob ?_); exact hK) ?_;refine awp_cd true (fun hb => ?_) fun hb => ?_
        ·refine rg cx ?_;simp [push_cast];exact hno (hrv rfl)
        ·simp at hb
     | true =>
      by_cases hq : k ≠ 0 /\ y <= py
      ·obtain ⟨hk0, h2⟩ := hq;have e2 : ((k : Int) - 1).toNat = k - 1 := by omega
       have hk1 : (0 : Int) < k := by omega
       have hk2 : (0 : Int) <= k - 1 := by omega
       have hk3 : 0 < k := by omega
       refine rd cx mixed [(2, .p (.bool true)), (29, .skip)] (fun K hK => by simp [push_cast, c1, hp, e1, e2, hk1, hk2, hk3, h2, Row.row]; (repeat refine ob ?_); exact hK) ?_;refine awp_cd true (fun hb => ?_) fun hb => ?_
       ·refine rg cx ?_;simp [push_cast];exact hno (hpy hk0 h2)
       ·simp at hb
      ·have hat : zmi R k = (okB f.a && okB (z.b - 1)) := by
        rw [hcons'];by_cases h : k = 0
        ·simp [h]
        ·have : py < y := by
          apply Int.not_le.1
          exact fun h2 => hq ⟨h, h2⟩
         simp [h, this]
       apply cut_
       ·intro key;by_cases hk0 : k ≠ 0
        ·have e2 : ((k : Int) - 1).toNat = k - 1 := by omega
         have hk1 : (0 : Int) < k := by omega
         have hk2 : (0 : Int) <= k - 1 := by omega
         have hk3 : 0 < k := by omega
         have h2 : ¬ y <= py := fun h => hq ⟨hk0, h⟩;refine rd cx mixed [(2, .p (.bool true)), (29, .p (.bool true))] (fun K hK => by simp [push_cast, c1, c2, hp, e1, e2, hk1, hk2, hk3, h2, hnb, Row.row]; (repeat refine ob ?_); exact hK) ?_;refine awp_cd false (fun hb => ?_) fun hb => ?_
         ·simp at hb
         ·refine zby (s' := ⟨67, [(1, .ptr 0 0 0), (4, .ptr 1 0 0), (6, .d (zu R)), (7, .d (.int .i64 R.length)), (8, .d (.int .i64 k))], [(0, some ⟨24, 1, [(zt R).map .d]⟩), (1, some ⟨65, 2, [(Row.row ⟨y, ru⟩).map .d]⟩)], 2⟩) ?_ key.h;refine wq [(0, some 0), (1, some 5)] (by simp [upT, upH, upR, upL, up, push_cast, Row.row])
        ·have hk0 := Classical.not_not.1 hk0;subst hk0;refine rd cx mixed [(2, .p (.bool true)), (29, .p (.bool true))] (fun K hK => by simp [push_cast, c1, c2, hr, hnb, Row.row]; (repeat refine ob ?_); exact hK) ?_;refine awp_cd false (fun hb => ?_) fun hb => ?_
         ·simp at hb
         ·refine zby (s' := ⟨67, [(1, .ptr 0 0 0), (4, .ptr 1 0 0), (6, .d (zu R)), (7, .d (.int .i64 R.length)), (8, .d (.int .i64 (0 : Nat)))], [(0, some ⟨24, 1, [(zt R).map .d]⟩), (1, some ⟨65, 2, [(Row.row ⟨y, ru⟩).map .d]⟩)], 2⟩) ?_ key.h;refine wq [(0, some 0), (1, some 5)] (by simp [upT, upH, upR, upL, up, push_cast, Row.row])
       ·refine Nav.imp ?_;have d1 := ok_ok f.a;have d2 := ok_ok (z.b - 1);have hzf := zqk (hzb rfl);have e3 := wI ((ru.length : Int) - 1);have e4 : ((ru.length : Int) - 1).toNat = ru.length - 1 := by omega
        have e5 : (0 : Int) <= (ru.length : Int) - 1 := by omega
        have e6 := wI (z.b - 1);obtain ⟨fa, fb⟩ := f;obtain ⟨za, zb⟩ := z;simp only at d1 d2 hat e6;generalize okB fa = p1 at *;generalize okB (zb - 1) = p2 at *;cases p1 with
        | false =>
         refine rx cx [(5, .p (.bool false)), (18, .skip)] (fun K hK => by simp [push_cast, hf, hz, Row.row, Run.row, d1, e3, e4, e5, e6]; (repeat refine ob ?_); exact hK) ?_;refine awp_cd true (fun hb => ?_) fun hb => ?_
         ·refine rg cx ?_;simp [push_cast];exact hno (by rw [hat]; rfl)
         ·simp at hb
        | true =>
         refine rx cx [(5, .p (.bool true)), (18, .p (.bool p2))] (fun K hK => by simp [push_cast, hf, hz, Row.row, Run.row, d1, d2, e3, e4, e5, e6]; (repeat refine ob ?_); exact hK) ?_;refine awp_cd (!p2) (fun hb => ?_) fun hb => ?_
         ·simp at hb;refine rg cx ?_;simp [push_cast];exact hno (by rw [hat, hb]; rfl)
         ·simp at hb;refine rx cx [] (fun K hK => by simp [push_cast, e0]; (repeat refine ob ?_); exact hK) ?_;refine ⟨k + 1, ⟨hlt, by rw [zbq, hall, hat, hb]; rfl⟩, by omega, ?_⟩;refine wk [(0, some 0)]
  ·have hge : k = R.length := by simp at hb; omega
   subst hge;refine rg cx ?_;simp [push_cast, zo, hall]
theorem validR_ok (R : List Row) (hR : zdi R) : PC Tryz.prog 10 [.agg (zt R)] (.p (.bool (zo R))) := zss R (zqt hR)
theorem zpj (R : List Row) (hR : zdi R) : PC Tryz.prog 53 [.agg (zt R)] (.p (.bool (zo R))) := zqy R (zqt hR)

theorem free_cells : ∀ l : List ze, D.freess (l.map ze.row) = true
 | [] => rfl
 | c :: l => by simp [D.freess, D.frees, D.free, free_cells l]

theorem path_ok (l : List ze) (hl : l.length <= 1000000) : PC Tryz.prog 79 [zai l] (.f (.agg (zm.row ⟨2, false, l⟩))) := by
 have m1 : 16 * (l.length : Int) <= 281474976710656 := by omega
 have m2 : (l.length : Int) <= 9223372036854775807 := by omega
 have m3 : List.drop l.length (List.replicate l.length [AV.d (.int .i64 0), AV.d (.int .i64 0)]) = [] := List.drop_of_length_le (by simp);refine pw cx Tryz.func79 Tryz.ntmps79 ?_;refine rg cx ?_;refine rx cx [] (fun K hK => by simp [push_cast, m1, m2]; (repeat refine ob ?_); exact hK) ?_;have m4 : List.take l.length (l.map ze.row) = l.map ze.row := List.take_of_length_le (by simp);refine rx cx [] (fun K hK => by simp [push_cast, m3, ze.row_len]; (repeat refine ob ?_); exact hK) ?_;refine rg cx ?_;simp [push_cast, m4, free_cells]

def zaa (y : Int) (r : Run) : List ze := (List.range (r.b - r.a).toNat).map fun k : Nat => ⟨r.a + k, y⟩
def zcj (w : Row) : List ze := w.runs.flatMap (zaa w.y)
def zk (R : List Row) : List ze := R.flatMap zcj
def cellsOf (R : List Row) : List ze := if zo R then zk R else []

theorem zdr {α β : Type} (f : α -> List β) {l : List α} {i : Nat} {x : α} (h : l[i]? = some x) : (l.take (i + 1)).flatMap f = (l.take i).flatMap f ++ f x := by
 rw [zbm h]; simp
theorem ztp {α β : Type} (f : α -> List β) {l : List α} {i : Nat} {x : α} (h : l[i]? = some x) : l.flatMap f = (l.take i).flatMap f ++ f x ++ (l.drop (i + 1)).flatMap f := by
 conv => lhs; rw [<- List.take_append_drop (i + 1) l, List.flatMap_append, zdr f h]
theorem zsm (y : Int) (r : Run) {j : Nat} (hj : j < (r.b - r.a).toNat) : (zaa y r).take (j + 1) = (zaa y r).take j ++ [⟨r.a + j, y⟩] :=
 zbm (by simp [zaa, hj])
theorem zbr (y : Int) (r : Run) : (zaa y r).length = (r.b - r.a).toNat := by simp [zaa]

def zlt (R : List Row) (i : Nat) : List ze := (R.take i).flatMap zcj
theorem rowsTo_all (R : List Row) : zlt R R.length = zk R := by simp [zlt, zk]
theorem rowsTo_next {R : List Row} {i : Nat} {w : Row} (h : R[i]? = some w) : zlt R (i + 1) = zlt R i ++ zcj w := zdr zcj h
theorem zhh {l : List Run} (h : zel l = true) {k : Nat} {r : Run} (hr : l[k]? = some r) : -4096 <= r.a /\ r.a < r.b /\ r.b <= 4096 := by
 simp only [zel, Bool.and_eq_true] at h;have hk := (List.getElem?_eq_some_iff.1 hr).1;obtain ⟨p, hp⟩ : ∃ p, l[k - 1]? = some p := zak (by omega);have := zcb h.1 hk;rw [zie hr hp] at this;simp at this;omega
theorem zmv {l : List Run} (h : zel l = true) : ∃ f z, l[0]? = some f /\ l[l.length - 1]? = some z /\ (-4096 <= f.a /\ f.a < f.b /\ f.b <= 4096) /\ (-4096 <= z.a /\ z.a < z.b /\ z.b <= 4096) /\ 0 < l.length := by
 have hp : 0 < l.length := by
  cases l with
  | nil => simp [zel] at h
  | cons a l => simp
 obtain ⟨f, hf⟩ : ∃ f, l[0]? = some f := zak hp;obtain ⟨z, hz⟩ : ∃ f, l[l.length - 1]? = some f := zak (by omega);have h1 := zhh h hf;have h2 := zhh h hz;exact ⟨f, z, hf, hz, by omega, by omega, hp⟩

theorem fine_gap {l : List Run} (h : zel l = true) {k : Nat} {r p : Run} (hr : l[k + 1]? = some r) (hp : l[k]? = some p) : p.b < r.a := by
 simp only [zel, Bool.and_eq_true] at h;have hk := (List.getElem?_eq_some_iff.1 hr).1;have := zcb h.1 hk;rw [zie hr (by simpa using hp)] at this;simp at this;omega
theorem zcq {R : List Row} (h : zo R = true) {i : Nat} {w : Row} (hw : R[i]? = some w) : (-4096 <= w.y /\ w.y < 4096) /\ zel w.runs = true := by
 have hk := (List.getElem?_eq_some_iff.1 hw).1;obtain ⟨p, hp⟩ : ∃ p, R[i - 1]? = some p := zak (by omega);have := zcb h hk;rw [zfe hw hp] at this;simp [okB] at this;exact ⟨this.1.1, this.2⟩
theorem zsr {R : List Row} (h : zo R = true) {i : Nat} {w p : Row} (hw : R[i + 1]? = some w) (hp : R[i]? = some p) : p.y < w.y := by
 have hk := (List.getElem?_eq_some_iff.1 hw).1;have := zcb h hk;rw [zfe hw (by simpa using hp)] at this;simp at this;omega


def zhq (y : Int) (r : Run) : List zm := if r.b = r.a + 1 then [] else [⟨2, false, zaa y r⟩]
def zgx (y : Int) (r : Run) : List ze := if r.b = r.a + 1 then [⟨r.a, y⟩] else []
def zta (w : Row) : List zm := w.runs.flatMap (zhq w.y)
def ztb (w : Row) : List ze := w.runs.flatMap (zgx w.y)
def zha (R : List Row) : List zm := R.flatMap zta
def zcc (R : List Row) : List ze := R.flatMap ztb

theorem zvq {α β γ : Type} {f : α -> List β} {g : α -> List γ} : ∀ {l : List α}, (∀ x ∈ l, (f x).length <= (g x).length) -> (l.flatMap f).length <= (l.flatMap g).length
 | [], _ => by simp
 | x :: l, h => by
  have h1 := h x (by simp);have h2 := zvq (f := f) (g := g) (l := l) fun y hy => h y (by simp [hy]);rw [List.flatMap_cons, List.flatMap_cons, List.length_append, List.length_append];omega
theorem run_one {r : Run} (y : Int) (h : r.a < r.b) : (zhq y r).length <= (zaa y r).length /\ (zgx y r).length <= (zaa y r).length := by
 rw [zbr];unfold zhq zgx;split <;> simp <;> omega
theorem zdv {R : List Row} (h : zo R = true) {w : Row} (hw : w ∈ R) {r : Run} (hr : r ∈ w.runs) : -4096 <= r.a /\ r.a < r.b /\ r.b <= 4096 := by
 obtain ⟨i, hi⟩ := List.mem_iff_getElem?.1 hw;obtain ⟨k, hk⟩ := List.mem_iff_getElem?.1 hr;exact zhh (zcq h hi).2 hk
theorem row_le {R : List Row} (h : zo R = true) {w : Row} (hw : w ∈ R) : (zta w).length <= (zcj w).length /\ (ztb w).length <= (zcj w).length :=
 ⟨zvq fun r hr => (run_one w.y (zdv h hw hr).2.1).1, zvq fun r hr => (run_one w.y (zdv h hw hr).2.1).2⟩
theorem reg_le {R : List Row} (h : zo R = true) : (zha R).length <= (zk R).length /\ (zcc R).length <= (zk R).length :=
 ⟨zvq fun w hw => (row_le h hw).1, zvq fun w hw => (row_le h hw).2⟩

theorem part_le {α : Type} (f : Int -> Run -> List α) {R : List Row} {i k : Nat} {w : Row} {r : Run} (hw : R[i]? = some w) (hr : w.runs[k]? = some r) : ((R.take i).flatMap fun w => w.runs.flatMap (f w.y)).length + ((w.runs.take k).flatMap (f w.y)).length + (f w.y r).length <= (R.flatMap fun w => w.runs.flatMap (f w.y)).length := by
 rw [ztp (fun w : Row => w.runs.flatMap (f w.y)) hw, List.length_append, List.length_append, ztp (f w.y) hr, List.length_append, List.length_append];omega

set_option maxHeartbeats 4000000 in
theorem wide_ok (R : List Row) (hR : zdi R) (hv : zo R = true) (hn : (zk R).length <= 1000000) : PX Tryz.prog 76 [.d (.agg (zt R))] [] [] [(1, ⟨94, 3, dr ((zha R).map zm.row)⟩), (2, ⟨67, 2, dr ((zcc R).map ze.row)⟩)] (.tup [.hs 1 0 (zha R).length, .hs 2 0 (zcc R).length]) := by
 have hl := hR.1;refine zbv cx (fn := Tryz.f76) (c := _) 0 Tryz.func76 rfl rfl (lB rfl) rfl rfl fun Ls => ?_;rw [Tryz.ntmps76]; refine Nav.imp ?_;iterate 5 refine rg cx ?_
 refine zz (β := Nat × List zm × List ze × List ze) (fun b => ⟨66, [(4, .hs 1 0 b.2.1.length), (5, .hs 2 0 b.2.2.1.length), (6, .hs 3 0 b.2.2.2.length), (13, .d (zu R)), (14, .d (.int .i64 R.length)), (15, .d (.int .i64 b.1))], [(1, some ⟨94, 3, dr (b.2.1.map zm.row)⟩), (2, some ⟨67, 2, dr (b.2.2.1.map ze.row)⟩), (3, some ⟨67, 2, dr (b.2.2.2.map ze.row)⟩)], 4⟩)
  (fun b => b.1 <= R.length /\ b.2.1 = (R.take b.1).flatMap zta /\ b.2.2.1 = (R.take b.1).flatMap ztb) (fun b => R.length - b.1) (0, [], [], []) ?_ ⟨Nat.zero_le _, by simp, by simp⟩ ?_
 ·refine wk [(1, none), (2, none), (3, none)]
 ·rintro ⟨i, A, B, C⟩ ⟨hi, hA, hB⟩;simp only at hi hA hB;refine Nav.imp ?_;refine rg cx ?_;refine awp_cd (decide ((i : Int) < R.length)) (fun hb => ?_) fun hb => ?_
  ·have hlt : i < R.length := by simpa using hb
   obtain ⟨w, hw⟩ := zak hlt;have e0 := wI ((i : Int) + 1);have hwl := hR.2 w (List.mem_of_getElem? hw);have hwb := (zcq hv hw).1;refine rx cx [] (fun K hK => by simp [push_cast, hw, Row.row]; (repeat refine ob ?_); exact hK) ?_;refine rx cx [] (fun K hK => by simp [push_cast, hw, Row.row]; (repeat refine ob ?_); exact hK) ?_;refine zz (β := Nat × List zm × List ze × List ze) (fun b => ⟨66, [(4, .hs 1 0 b.2.1.length), (5, .hs 2 0 b.2.2.1.length), (6, .hs 3 0 b.2.2.2.length), (8, .ptr 4 0 0), (13, .d (zu R)), (14, .d (.int .i64 R.length)), (15, .d (.int .i64 i)), (20, .d (zn w.runs)), (21, .d (.int .i64 w.runs.length)), (22, .d (.int .i64 b.1))], [(1, some ⟨94, 3, dr (b.2.1.map zm.row)⟩), (2, some ⟨67, 2, dr (b.2.2.1.map ze.row)⟩), (3, some ⟨67, 2, dr (b.2.2.2.map ze.row)⟩), (4, some ⟨65, 2, [w.row.map .d]⟩)], 5⟩)
    (fun b => b.1 <= w.runs.length /\ b.2.1 = A ++ (w.runs.take b.1).flatMap (zhq w.y) /\ b.2.2.1 = B ++ (w.runs.take b.1).flatMap (zgx w.y)) (fun b => w.runs.length - b.1) (0, A, B, C) ?_ ⟨Nat.zero_le _, by simp, by simp⟩ ?_
   ·refine wq [(1, some 1), (2, some 2), (3, some 3), (4, some 7)] (by simp [upT, upH, upR, upL, up, push_cast, Row.row])
   ·rintro ⟨k, A', B', C'⟩ ⟨hk, hA', hB'⟩;simp only at hk hA' hB';refine Nav.imp ?_;refine rg cx ?_;refine awp_cd (decide ((k : Int) < w.runs.length)) (fun hb => ?_) fun hb => ?_
    ·have hlk : k < w.runs.length := by simpa using hb
     obtain ⟨r, hr⟩ := zak hlk;have e1 := wI ((k : Int) + 1);have hrb := zdv hv (List.mem_of_getElem? hw) (List.mem_of_getElem? hr);have hAl : A'.length <= 1000000 := by
      have h1 := part_le zhq hw hr;have h2 := (reg_le hv).1;have h3 : A'.length = ((R.take i).flatMap fun w => w.runs.flatMap (zhq w.y)).length + ((w.runs.take k).flatMap (zhq w.y)).length := by rw [hA', hA, List.length_append]; rfl
      have h4 : (zha R).length = (R.flatMap fun w => w.runs.flatMap (zhq w.y)).length := rfl;omega
     have hBl : B'.length <= 1000000 := by
      have h1 := part_le zgx hw hr;have h2 := (reg_le hv).2;have h3 : B'.length = ((R.take i).flatMap fun w => w.runs.flatMap (zgx w.y)).length + ((w.runs.take k).flatMap (zgx w.y)).length := by rw [hB', hB, List.length_append]; rfl
      have h4 : (zcc R).length = (R.flatMap fun w => w.runs.flatMap (zgx w.y)).length := rfl;omega
     have hcl : (zaa w.y r).length <= 1000000 := by rw [zbr]; omega
     have hnA : (w.runs.take (k + 1)).flatMap (zhq w.y) = (w.runs.take k).flatMap (zhq w.y) ++ zhq w.y r := zdr _ hr;have hnB : (w.runs.take (k + 1)).flatMap (zgx w.y) = (w.runs.take k).flatMap (zgx w.y) ++ zgx w.y r := zdr _ hr;have hrl := zbr w.y r;have htk := fun j => @zsm w.y r j;have et : zhq w.y r = if r.b = r.a + 1 then [] else [⟨2, false, zaa w.y r⟩] := rfl
     have es : zgx w.y r = if r.b = r.a + 1 then [⟨r.a, w.y⟩] else [] := rfl
     obtain ⟨ra, rb⟩ := r;simp only at hrb hrl htk et es;have e2 := wI (ra + 1);have hA40 : (A'.length + 1) * 40 <= 140737488355328 := by omega
     have hB16 : (B'.length + 1) * 16 <= 140737488355328 := by omega
     refine rx cx [] (fun K hK => by simp [push_cast, hr, Run.row]; (repeat refine ob ?_); exact hK) ?_;refine rx cx [] (fun K hK => by simp [push_cast, e2, Run.row]; (repeat refine ob ?_); exact hK) ?_;refine zd (by simp [push_cast] <;> exact rfl) (fun hb => ?_) (fun hb => ?_) <;> (refine Nav.imp ?_)
     ·simp at hb;rw [if_pos hb] at et es;refine rx cx [] (fun K hK => by simp [push_cast, Row.row, Run.row, hB16]; (repeat refine ob ?_); exact hK) ?_;refine rx cx [] (fun K hK => by simp [push_cast, e1]; (repeat refine ob ?_); exact hK) ?_;refine ⟨(k + 1, A', B' ++ [⟨ra, w.y⟩], C'), ⟨hlk, by rw [hA', hnA, et]; simp, by rw [hB', hnB, es]; simp⟩, by simp only; omega, ?_⟩;refine wq [(1, some 1), (2, some 23), (3, some 3), (4, some 4)] (by simp [upT, upH, upR, upL, up, push_cast, Row.row])
     ·simp at hb;rw [if_neg hb] at et es;refine rg cx ?_;refine awp_trunc 3 0 rfl (by rfl) fun K hK => ?_;simp [push_cast];refine nx hK ?_; clear hK K;refine rx cx [] (fun K hK => by simp [push_cast, Run.row]; (repeat refine ob ?_); exact hK) ?_;refine zz (β := Nat × List ze) (fun b => ⟨66, [(4, .hs 1 0 A'.length), (5, .hs 2 0 B'.length), (6, .hs 3 0 b.2.length), (8, .ptr 4 0 0), (10, .ptr 5 0 0), (11, .d (.int .i64 (ra + b.1))), (13, .d (zu R)), (14, .d (.int .i64 R.length)), (15, .d (.int .i64 i)), (20, .d (zn w.runs)), (21, .d (.int .i64 w.runs.length)), (22, .d (.int .i64 k))], [(1, some ⟨94, 3, dr (A'.map zm.row)⟩), (2, some ⟨67, 2, dr (B'.map ze.row)⟩), (3, some ⟨67, 2, dr (b.2.map ze.row)⟩), (4, some ⟨65, 2, [w.row.map .d]⟩), (5, some ⟨85, 2, [(Run.row ⟨ra, rb⟩).map .d]⟩)], 6⟩)
       (fun b => b.1 <= (rb - ra).toNat /\ b.2 = (zaa w.y ⟨ra, rb⟩).take b.1) (fun b => (rb - ra).toNat - b.1) (0, []) ?_ ⟨Nat.zero_le _, by simp⟩ ?_
      ·refine wq [(1, some 1), (2, some 2), (3, some 3), (4, some 4), (5, some 8)] (by simp [upT, upH, upR, upL, up, push_cast, Row.row, Run.row])
      ·rintro ⟨j, W⟩ ⟨hj, hW⟩;simp only at hj hW;refine Nav.imp ?_;have hWl : W.length = j := by rw [hW, List.length_take, hrl]; omega
       by_cases hjl : j < (rb - ra).toNat
       ·have hcd : ra + (j : Int) < rb := by omega
        have e3 := wI (ra + (j : Int) + 1);have hap : (W.length + 1) * 16 <= 140737488355328 := by omega
        have htk' := htk j hjl;refine rx cx [] (fun K hK => by simp [push_cast, Run.row]; (repeat refine ob ?_); exact hK) ?_;refine awp_cn true (by simp [push_cast, hcd]) (fun hb => ?_) fun hb => ?_
        ·refine rx cx [] (fun K hK => by simp [push_cast, Row.row, hap]; (repeat refine ob ?_); exact hK) ?_;refine rx cx [] (fun K hK => by simp [push_cast, e3]; (repeat refine ob ?_); exact hK) ?_;refine ⟨(j + 1, W ++ [⟨ra + j, w.y⟩]), ⟨hjl, by rw [hW, htk']⟩, by simp only; omega, ?_⟩;refine wq [(1, some 1), (2, some 2), (3, some 16), (4, some 4), (5, some 5)] (by simp [upT, upH, upR, upL, up, push_cast, Row.row, Run.row, Int.add_assoc])
        ·simp at hb
       ·have hje : j = (rb - ra).toNat := by omega
        have hcd : ¬ ra + (j : Int) < rb := by omega
        have hfull : W = zaa w.y ⟨ra, rb⟩ := by rw [hW]; exact List.take_of_length_le (by rw [hrl]; omega)
        have c1 := path_ok W (by rw [hfull]; exact hcl);rw [<- hfull] at et;have hWt : List.take W.length (W.map ze.row) = W.map ze.row := List.take_of_length_le (by simp);refine rx cx [] (fun K hK => by simp [push_cast, Run.row]; (repeat refine ob ?_); exact hK) ?_;refine awp_cn false (by simp [push_cast, hcd]) (fun hb => ?_) fun hb => ?_
        ·simp at hb
        ·refine rx cx [(2, .f (.agg (zm.row ⟨2, false, W⟩)))] (fun K hK => by simp [push_cast, c1, hWt, hA40]; (repeat refine ob ?_); exact hK) ?_;refine rx cx [] (fun K hK => by simp [push_cast, e1]; (repeat refine ob ?_); exact hK) ?_;refine ⟨(k + 1, A' ++ [⟨2, false, W⟩], B', W), ⟨hlk, by rw [hA', hnA, et]; simp, by rw [hB', hnB, es]; simp⟩, by simp only; omega, ?_⟩;refine wq [(1, some 14), (2, some 2), (3, some 3), (4, some 4)] (by simp [upT, upH, upR, upL, up, push_cast, Row.row])
    ·have hkn : k = w.runs.length := by simp at hb; omega
     subst hkn;rw [List.take_length] at hA' hB';refine rx cx [] (fun K hK => by simp [push_cast, e0]; (repeat refine ob ?_); exact hK) ?_;refine ⟨(i + 1, A', B', C'), ⟨hlt, by rw [hA', hA, zdr zta hw]; rfl, by rw [hB', hB, zdr ztb hw]; rfl⟩, by simp only; omega, ?_⟩;refine wk [(1, some 1), (2, some 2), (3, some 3)]
  ·have hin : i = R.length := by simp at hb; omega
   subst hin;rw [List.take_length] at hA hB;have hA2 : zha R = A := hA.symm;have hB2 : zcc R = B := hB.symm;rw [hA2, hB2];refine rg cx ?_;first | refine znr [(1, 1), (2, 2)] ?_ | refine zns [(1, 1), (2, 2)] ?_
   simp [push_cast];try decide

theorem hrest_ok (n : Int) (h : -1000000 <= n /\ n <= 1000000) : PC Tryz.prog 71 [.int .i64 n, .int .i64 2] (.p (.int .i64 (n % 2))) := by
 have e1 : Int.tmod n 2 = if 0 <= n then n % 2 else -((-n) % 2) := by
  split
  ·rw [Int.tmod_eq_emod_of_nonneg (by omega)]
  ·rw [<- Int.neg_neg (Int.tmod n 2), <- Int.neg_tmod, Int.tmod_eq_emod_of_nonneg (by omega)]
 have hb : -1 <= Int.tmod n 2 /\ Int.tmod n 2 <= 1 /\ (Int.tmod n 2 + 2) % 2 = n % 2 := by
  rw [e1]; split <;> omega
 have e2 : Int.tmod (Int.tmod n 2 + 2) 2 = n % 2 := by rw [Int.tmod_eq_emod_of_nonneg (by omega)]; exact hb.2.2
 clear e1;have w1 := wI (Int.tmod n 2);have w2 := wI (Int.tmod n 2 + 2);have w3 := wI (n % 2);generalize n % 2 = r at *;refine pw cx Tryz.func71 Tryz.ntmps71 ?_;refine rg cx ?_;clear hb;refine rx cx [] (fun K hK => by simp [push_cast, w1, w2, w3, e2]; (repeat refine ob ?_); exact hK) ?_;simp [push_cast]
theorem hnear_ok {a b : ze} (ha : onG a = true) (hb : onG b = true) : PC Tryz.prog 130 [.agg a.row, .agg b.row] (.p (.bool (nbT a b))) := by
 obtain ⟨w1, w2, w3, w4, b1, b2, b3, b4⟩ := wraps ha hb;have hd : zwf a b = max (a.x - b.x) (-(a.x - b.x)) + max (a.y - b.y) (-(a.y - b.y)) := by unfold zwf; omega
 have s1 := sq_bd (z := a.x - b.x) (by omega);have s2 := sq_bd (z := a.y - b.y) (by omega);have s3 := sq_one (x := a.x - b.x) (y := a.y - b.y) (by omega) (by omega);simp only [nbT, hd];have e3 : (max (a.x - b.x) (-(a.x - b.x)) + max (a.y - b.y) (-(a.y - b.y)) == 1) = ((a.x - b.x) * (a.x - b.x) + (a.y - b.y) * (a.y - b.y) == 1) := by
  rw [Bool.eq_iff_iff]; simp [s3]
 rw [e3];clear e3 s3 hd;generalize hn1 : a.x - b.x = n1 at *;generalize hn2 : a.y - b.y = n2 at *;have w6 := wI (n1 * n1);have w7 := wI (n2 * n2);have w8 := wI (n1 * n1 + n2 * n2);refine pw cx Tryz.func130 Tryz.ntmps130 ?_;refine rg cx ?_;refine rd cx mixed [] (fun K hK => by simp [push_cast, hn1, hn2, w1, w2]; (repeat refine ob ?_); exact hK) ?_;refine rx cx [] (fun K hK => by simp [push_cast, w6, w7, w8]; (repeat refine ob ?_); exact hK) ?_;simp [push_cast]
theorem hline_ok (y : Int) (r : Run) (h : -100000 <= r.a /\ r.b <= 100000) : PC Tryz.prog 73 [.int .i64 y, .agg r.row] (.o 67 2 ((zaa y r).map ze.row)) := by
 have hl := zbr y r;have htk := fun j => @zsm y r j;obtain ⟨ra, rb⟩ := r;simp only at h hl htk;refine pw cx Tryz.func73 Tryz.ntmps73 ?_;refine rg cx ?_;refine rg cx ?_;refine rx cx [] (fun K hK => by simp [push_cast, Run.row]; (repeat refine ob ?_); exact hK) ?_;refine zz (β := Nat × List ze) (fun s => ⟨22, [(0, .d (.int .i64 y)), (3, .ptr 0 0 0), (5, .hs 1 0 s.2.length), (6, .d (.int .i64 (ra + s.1)))], [(0, some ⟨85, 2, [[.d (.int .i64 ra), .d (.int .i64 rb)]]⟩), (1, some ⟨67, 2, dr (s.2.map ze.row)⟩)], 2⟩) (fun s => s.1 <= (rb - ra).toNat /\ s.2 = (zaa y ⟨ra, rb⟩).take s.1) (fun s => (rb - ra).toNat - s.1) (0, []) ?_ ⟨Nat.zero_le _, rfl⟩ ?_
 ·refine wk [(0, some 0), (1, none)]
 ·rintro ⟨k, Z⟩ ⟨hk, hZ⟩;simp only at hk hZ;refine Nav.imp ?_;refine rg cx ?_;refine awp_cd (decide (ra + (k : Int) < rb)) (fun hb => ?_) fun hb => ?_
  ·have hlt : k < (rb - ra).toNat := by simp at hb; omega
   have hn := htk k hlt;rw [<- hZ] at hn;have hZl : Z.length = k := by rw [hZ, List.length_take]; omega
   have e0 := wI (ra + (k : Int) + 1);have e1 : ra + ((k : Int) + 1) = ra + k + 1 := by omega
   have hZ16 : (Z.length + 1) * 16 <= 140737488355328 := by omega
   refine rx cx [] (fun K hK => by simp [push_cast, hZ16]; (repeat refine ob ?_); exact hK) ?_;refine rx cx [] (fun K hK => by simp [push_cast, e0]; (repeat refine ob ?_); exact hK) ?_;refine ⟨(k + 1, Z ++ [⟨ra + k, y⟩]), ⟨hlt, hn.symm⟩, by simp only; omega, ?_⟩;refine wq [(0, some 0), (1, some 11)] (by simp [upT, upH, upR, upL, up, push_cast, e1])
  ·have hke : k = (rb - ra).toNat := by simp at hb; omega
   subst hke;rw [List.take_of_length_le (by omega)] at hZ;subst hZ;refine rg cx ?_;simp [push_cast]
def backP (rs : List Run) : List (D × D) := (List.range rs.length).map fun k => (.int .i64 ((rs.length - 1 - k : Nat) : Int), .agg ((rs[rs.length - 1 - k]?).getD ⟨0, 0⟩).row)
theorem back_len (rs : List Run) : (backP rs).length = rs.length := by simp [backP]
theorem back_get {rs : List Run} {k : Nat} {r : Run} (hk : k < rs.length) (hr : rs[rs.length - 1 - k]? = some r) : (backP rs)[k]? = some (.int .i64 ((rs.length - 1 - k : Nat) : Int), .agg r.row) := by
 unfold backP;rw [List.getElem?_map, List.getElem?_range hk, Option.map_some, hr]; rfl
theorem backward_ok (rs : List Run) : PC Tryz.prog 74 [zn rs] (.p (.fn (.func 131) [.rp [zn rs]])) := by
 refine pw cx Tryz.func74 Tryz.ntmps74 ?_;refine rg cx ?_;refine rg cx ?_;simp [push_cast, zpv]
set_option maxHeartbeats 4000000 in
theorem backiter_ok (rs : List Run) (hl : rs.length <= 1000000) : IterOk2 Tryz.prog 131 [.rp [zn rs]] (backP rs) := by
 have hlen := back_len rs;have hget := fun k r => @back_get rs k r;have e0 := wI ((rs.length : Int) - 1);refine iter2_of_awi (fn := Tryz.f131) (c := _) Tryz.func131 rfl rfl (lB rfl) rfl fun m l W0 J hJ hR => ?_;rw [Tryz.ntmps131]; (repeat (first | refine zlq ?_ | refine zgt ?_ | refine ziy ?_ | refine ziz ?_ | refine zlr ?_ | refine si_n ?_ | refine si_r ?_ | refine si_x ?_ | refine bi_n ?_ | refine bi_r ?_ | refine bi_x ?_ | refine bi_y rfl ?_));rw [hlen];clear hlen;refine ztz hJ (zc cx [] fun K hK => ?_);simp [push_cast, e0]
 repeat refine ob ?_
 refine hK _ ?_; clear hK K; refine wv ?_;refine awi_loop hJ (β := Nat) (fun k => (k, ⟨19, [(0, .d (.fn (.yield l) [])), (1, .d (.rp [zn rs])), (3, .d (.int .i64 ((rs.length : Int) - 1 - k)))], [], 0⟩)) (fun k => k <= rs.length) (fun k => rs.length - k) 0 ?_ rfl (Nat.zero_le _) ?_
 ·refine wk []
 ·intro k hk
  replace hk : k <= rs.length := hk
  (repeat (first | refine zlq ?_ | refine zgt ?_ | refine ziy ?_ | refine ziz ?_ | refine zlr ?_ | refine si_n ?_ | refine si_r ?_ | refine si_x ?_ | refine bi_n ?_ | refine bi_r ?_ | refine bi_x ?_ | refine bi_y rfl ?_))
  refine ztz hJ (zc cx [] fun K hK => ?_);simp [push_cast]
  repeat refine ob ?_
  refine hK _ ?_; clear hK K; refine wv ?_;refine awi_cond (b := decide ((0 : Int) <= (rs.length : Int) - 1 - k)) (by simp [push_cast]) (fun hb => ?_) (fun hb => ?_) <;> ((repeat (first | refine zlq ?_ | refine zgt ?_ | refine ziy ?_ | refine ziz ?_ | refine zlr ?_ | refine si_n ?_ | refine si_r ?_ | refine si_x ?_ | refine bi_n ?_ | refine bi_r ?_ | refine bi_x ?_ | refine bi_y rfl ?_)))
  ·have hlt : k < rs.length := by simp at hb; omega
   obtain ⟨r, hr⟩ := zak (show rs.length - 1 - k < rs.length by omega);have hx := hget k r hlt hr;have e1 : ((rs.length : Int) - 1 - k) = ((rs.length - 1 - k : Nat) : Int) := by omega
   have e2 := wI ((rs.length : Int) - 1 - k - 1);have e3 : (rs.length : Int) - 1 - (k + 1 : Nat) = (rs.length : Int) - 1 - k - 1 := by omega
   have e4 : rs.length - 1 - k < rs.length := by omega
   rw [e1] at e2 e3;rw [e1];generalize rs.length - 1 - k = j at *;refine awi_yield2 cx hJ hR (pre := [_, _, _, _, _, _]) (post := [_]) rfl rfl rfl rfl rfl 17 rfl rfl hx rfl rfl fun K hK => ?_;simp [push_cast, hr];refine hK _ ?_;clear hK K
   (try dsimp only)
   (repeat (first | refine zlq ?_ | refine zgt ?_ | refine ziy ?_ | refine ziz ?_ | refine zlr ?_ | refine si_n ?_ | refine si_r ?_ | refine si_x ?_ | refine bi_n ?_ | refine bi_r ?_ | refine bi_x ?_ | refine bi_y rfl ?_))
   refine awi_cond (b := false) (by simp [push_cast]) (fun hb => ?_) (fun hb => ?_) <;> ((repeat (first | refine zlq ?_ | refine zgt ?_ | refine ziy ?_ | refine ziz ?_ | refine zlr ?_ | refine si_n ?_ | refine si_r ?_ | refine si_x ?_ | refine bi_n ?_ | refine bi_r ?_ | refine bi_x ?_ | refine bi_y rfl ?_)))
   ·simp at hb
   ·refine ztz hJ (zc cx [] fun K hK => ?_);simp [push_cast, e2]
    repeat refine ob ?_
    refine hK _ ?_; clear hK K; refine wv ?_;refine ⟨k + 1, hlt, by omega, rfl, ?_⟩
    dsimp only
    rw [e3];refine wk []
  ·have hke : k = rs.length := by simp at hb; omega
   exact ⟨.inl rfl, hke⟩

def zpc (l : List ze) : Nat -> List ze
 | 0 => l
 | k + 1 => match (zpc l k)[k]?, (zpc l k)[l.length - 1 - k]? with
  | some a, some b => ((zpc l k).set k b).set (l.length - 1 - k) a
  | _, _ => zpc l k
theorem revS_spec (l : List ze) : ∀ k, 2 * k <= l.length -> (zpc l k).length = l.length /\ ∀ m, m < l.length -> (zpc l k)[m]? = if m < k \/ l.length <= m + k then l[l.length - 1 - m]? else l[m]?
 | 0, _ => ⟨rfl, fun m hm => by simp only [zpc]; rw [if_neg (by omega)]⟩
 | k + 1, hk => by
  obtain ⟨h1, h2⟩ := revS_spec l k (by omega);have ha := h2 k (by omega);have hb := h2 (l.length - 1 - k) (by omega);rw [if_neg (by omega)] at ha;rw [if_neg (by omega)] at hb;obtain ⟨a, ea⟩ := zak (show k < l.length by omega);obtain ⟨b, eb⟩ := zak (show l.length - 1 - k < l.length by omega);have e : zpc l (k + 1) = ((zpc l k).set k b).set (l.length - 1 - k) a := by
   simp only [zpc, ha, hb, ea, eb]
  rw [e];refine ⟨by simp [h1], fun m hm => ?_⟩;rw [List.getElem?_set, List.getElem?_set];by_cases c1 : l.length - 1 - k = m
  ·rw [if_pos c1, if_pos (by simp [h1]; omega), if_pos (by omega), <- c1, <- ea]
   congr 1; omega
  ·rw [if_neg c1];by_cases c2 : k = m
   ·rw [if_pos c2, if_pos (by rw [h1]; omega), if_pos (by omega), <- c2, <- eb]
   ·rw [if_neg c2, h2 m hm];by_cases c3 : m < k \/ l.length <= m + k
    ·rw [if_pos c3, if_pos (by omega)]
    ·rw [if_neg c3, if_neg (by omega)]
theorem revS_next {l : List ze} {k : Nat} {a b : ze} (ha : (zpc l k)[k]? = some a) (hb : (zpc l k)[l.length - 1 - k]? = some b) : zpc l (k + 1) = ((zpc l k).set k b).set (l.length - 1 - k) a := by
 simp only [zpc, ha, hb]
theorem revS_end {l : List ze} {k : Nat} (h1 : 2 * k <= l.length) (h2 : l.length <= 2 * k + 1) : zpc l k = l.reverse := by
 obtain ⟨g1, g2⟩ := revS_spec l k h1;refine List.ext_getElem? fun m => ?_;by_cases hm : m < l.length
 ·rw [g2 m hm, List.getElem?_reverse hm];by_cases c : m < k \/ l.length <= m + k
  ·rw [if_pos c]
  ·rw [if_neg c]; congr 1; omega
 ·rw [List.getElem?_eq_none (by omega), List.getElem?_eq_none (by simp; omega)]
set_option maxHeartbeats 8000000 in
theorem reverse_px (l : List ze) (hl : l.length <= 1000000) : PX Tryz.prog 75 [.hs 0 0 l.length] [(0, ⟨67, 2, dr (l.map ze.row)⟩)] [(0, 0)] [(0, ⟨67, 2, dr (l.reverse.map ze.row)⟩)] (.tup []) := by
 have e0 := wI ((l.length : Int) - 1);have hspec := fun k h => (revS_spec l k h).1;have hnext := fun k a b => @revS_next l k a b;have hend := fun k => @revS_end l k;have h0 : zpc l 0 = l := rfl;generalize zpc l = RS at *;generalize l.reverse = LR at *;refine zbv cx (fn := Tryz.f75) (c := _) 1 Tryz.func75 rfl rfl (lB rfl) rfl rfl fun Ls => ?_;rw [Tryz.ntmps75]; refine Nav.imp ?_;refine rx cx [] (fun K hK => by simp [push_cast, e0]; (repeat refine ob ?_); exact hK) ?_;refine zz (β := Nat × List ze) (fun s => ⟨28, [(0, .hs 0 0 l.length), (28, .pin 0 (Ls 0)), (2, .d (.int .i64 s.1)), (3, .d (.int .i64 ((l.length : Int) - 1 - s.1)))], [(0, some ⟨67, 2, dr (s.2.map ze.row)⟩)], 1⟩) (fun s => 2 * s.1 <= l.length /\ s.2 = RS s.1) (fun s => l.length - s.1) (0, l) ?_ ⟨Nat.zero_le _, h0.symm⟩ ?_
 ·refine wk [(0, some 0)]
 ·rintro ⟨k, Z⟩ ⟨hk, hZ⟩;simp only at hk hZ;have hZl : Z.length = l.length := by rw [hZ]; exact hspec k hk
  refine Nav.imp ?_;refine rg cx ?_;refine awp_cd (decide ((k : Int) < (l.length : Int) - 1 - k)) (fun hb => ?_) fun hb => ?_
  ·have hlt : k < l.length - 1 - k := by simp at hb; omega
   have ej : (l.length : Int) - 1 - k = ((l.length - 1 - k : Nat) : Int) := by omega
   have e1 := wI ((k : Int) + 1);have e2 := wI (((l.length - 1 - k : Nat) : Int) - 1);have e3 : ((l.length : Int) - 1 - ((k : Int) + 1)) = ((l.length - 1 - k : Nat) : Int) - 1 := by omega
   have hjl : l.length - 1 - k < l.length := by omega
   have hnx := hnext k;obtain ⟨a, ha⟩ := zak (l := Z) (k := k) (by omega);obtain ⟨b, hb'⟩ := zak (l := Z) (k := l.length - 1 - k) (by omega);have hnx := hnext k a b (by rw [<- hZ]; exact ha) (by rw [<- hZ]; exact hb');rw [<- hZ] at hnx;rw [ej];generalize l.length - 1 - k = j at *;have hset : ((dr (Z.map ze.row)).set k (b.row.map AV.d)).set j (a.row.map AV.d) = dr ((RS (k + 1)).map ze.row) := by
    rw [hnx, List.map_set, List.map_set, dr_set, dr_set]
   obtain ⟨Y, hY⟩ : ∃ Y, Y = RS (k + 1) := ⟨_, rfl⟩
   rw [<- hY] at hset;obtain ⟨ax, ay⟩ := a;obtain ⟨bx, bz⟩ := b;simp only [ze.row, List.map_cons, List.map_nil] at hset;have hkl : k < l.length := by omega
   have hget2 : ((dr (Z.map ze.row)).set k [AV.d (.int .i64 bx), AV.d (.int .i64 bz)])[j]? = some [AV.d (.int .i64 bx), AV.d (.int .i64 bz)] := by
    rw [List.getElem?_set, if_neg (by omega)];simp [dr, hb']
   refine rd cx mixed [] (fun K hK => by simp [push_cast, ha, hb', hget2, hset]; (repeat refine ob ?_); exact hK) ?_;refine rx cx [] (fun K hK => by simp [push_cast, e1, e2]; (repeat refine ob ?_); exact hK) ?_;refine ⟨(k + 1, Y), ⟨by omega, hY⟩, by simp only; omega, ?_⟩;refine wq [(0, some 0)] (by simp [upT, upH, upR, upL, up, push_cast, e3])
  ·have hke : RS k = LR := hend k hk (by simp at hb; omega);rw [<- hZ] at hke;subst hke;first | refine znr [(0, 0)] ?_ | refine zns [(0, 0)] ?_
   simp [push_cast];try decide

def zdh (role : Int) : Option (List ze) -> List zm
 | none => []
 | some L => [⟨role, false, L⟩]
def pcS (role : Int) (cs : List ze) (ks : List Bool) : Nat -> List zm × Option (List ze)
 | 0 => ([], none)
 | k + 1 => match cs[k]?, ks[k]? with
  | some c, some true => if k = 0 \/ ks[k - 1]? ≠ some true then ((pcS role cs ks k).1 ++ zdh role (pcS role cs ks k).2, some [c]) else ((pcS role cs ks k).1, (pcS role cs ks k).2.map (· ++ [c]))
  | _, _ => pcS role cs ks k
def pcR (role : Int) (cs : List ze) (ks : List Bool) : List zm := (pcS role cs ks cs.length).1 ++ zdh role (pcS role cs ks cs.length).2
theorem pcS_off {role : Int} {cs : List ze} {ks : List Bool} {k : Nat} (h : ks[k]? = some false) : pcS role cs ks (k + 1) = pcS role cs ks k := by
 simp only [pcS, h];cases cs[k]? <;> rfl
theorem zup {role : Int} {cs : List ze} {ks : List Bool} {k : Nat} {c : ze} (hc : cs[k]? = some c) (h : ks[k]? = some true) (hn : k = 0 \/ ks[k - 1]? ≠ some true) : pcS role cs ks (k + 1) = ((pcS role cs ks k).1 ++ zdh role (pcS role cs ks k).2, some [c]) := by
 simp only [pcS, hc, h];rw [if_pos hn]
theorem pcS_on {role : Int} {cs : List ze} {ks : List Bool} {k : Nat} {c : ze} (hc : cs[k]? = some c) (h : ks[k]? = some true) (hn : ¬ (k = 0 \/ ks[k - 1]? ≠ some true)) : pcS role cs ks (k + 1) = ((pcS role cs ks k).1, (pcS role cs ks k).2.map (· ++ [c])) := by
 simp only [pcS, hc, h];rw [if_neg hn]
theorem pcS_some {role : Int} {cs : List ze} {ks : List Bool} : ∀ {k : Nat}, k <= cs.length -> k ≠ 0 -> ks[k - 1]? = some true -> ∃ L, (pcS role cs ks k).2 = some L
 | 0, _, h, _ => absurd rfl h
 | k + 1, hk, _, h => by
  obtain ⟨c, hc⟩ := zak (show k < cs.length by omega);rw [Nat.add_sub_cancel] at h;by_cases hn : k = 0 \/ ks[k - 1]? ≠ some true
  ·rw [zup hc h hn]; exact ⟨_, rfl⟩
  ·rw [pcS_on hc h hn];have hn2 : k ≠ 0 /\ ks[k - 1]? = some true := ⟨fun e => hn (.inl e), Classical.byContradiction fun e => hn (.inr e)⟩
   obtain ⟨L, hL⟩ := pcS_some (role := role) (cs := cs) (ks := ks) (k := k) (by omega) hn2.1 hn2.2;rw [hL]; exact ⟨_, rfl⟩
theorem zuq {role : Int} {cs : List ze} {ks : List Bool} : ∀ k, (pcS role cs ks k).1.length + (zdh role (pcS role cs ks k).2).length <= k /\ ∀ L, (pcS role cs ks k).2 = some L -> L.length <= k
 | 0 => ⟨by simp [pcS, zdh], fun L h => by simp [pcS] at h⟩
 | k + 1 => by
  obtain ⟨h1, h2⟩ := zuq (role := role) (cs := cs) (ks := ks) k;simp only [pcS];split
  ·split
   ·exact ⟨by rw [List.length_append]; have : (zdh role (some [‹ze›])).length = 1 := rfl; show _ + (zdh role (some [_])).length <= _; simp only [zdh, List.length_singleton] at *; omega, fun L h => by cases h; simp⟩
   ·refine ⟨?_, fun L h => ?_⟩
    ·cases hq : (pcS role cs ks k).2 <;> (rw [hq] at h1; simp [zdh] at h1 ⊢; omega)
    ·cases hq : (pcS role cs ks k).2 with
     | none => rw [hq] at h; cases h
     | some M => rw [hq] at h; cases h; have := h2 M hq; simp; omega
  ·exact ⟨by omega, fun L h => by have := h2 L h; omega⟩
abbrev encKs (ks : List Bool) : D := .sl (ks.map fun b => [.bool b])
def tlT (role : Int) : Option (List ze) -> List (List AV)
 | none => []
 | some L => [[.d (.int .i64 role), .d (.bool false), .hs 2 0 L.length]]
def clT : Option (List ze) -> List ze
 | none => []
 | some L => L
set_option maxHeartbeats 16000000 in
theorem pieces_ok (t : zm) (ks : List Bool) (hl : t.cells.length <= 65536) (hk : ks.length = t.cells.length) : PC Tryz.prog 83 [.agg t.row, encKs ks] (.p (zah (pcR t.role t.cells ks))) := by
 obtain ⟨role, cl, cs⟩ := t;simp only at hl hk;have hlen := fun k => zuq (role := role) (cs := cs) (ks := ks) k;have hsome := fun k h1 h2 h3 => pcS_some (role := role) (cs := cs) (ks := ks) (k := k) h1 h2 h3;have hR : pcR role cs ks = (pcS role cs ks cs.length).1 ++ zdh role (pcS role cs ks cs.length).2 := rfl;have hg : ∀ (i : Nat) (b : Bool), ks[i]? = some b -> (ks.map fun b => [D.bool b])[i]? = some [.bool b] := fun i b h => by rw [List.getElem?_map, h]; rfl
 rw [hR];refine pw cx Tryz.func83 Tryz.ntmps83 ?_;refine rg cx ?_;refine rg cx ?_;refine rx cx [] (fun K hK => by simp [push_cast, zm.row]; (repeat refine ob ?_); exact hK) ?_;refine zz (β := Nat × List zm × Option (List ze)) (fun b => ⟨55, [(1, .d (encKs ks)), (2, .ptr 0 0 0), (5, .hs 1 0 (b.2.1.length + (tlT role b.2.2).length)), (10, .d (zai cs)), (11, .d (.int .i64 cs.length)), (12, .d (.int .i64 b.1))], [(0, some ⟨94, 3, [[.d (.int .i64 role), .d (.bool cl), .d (zai cs)]]⟩), (1, some ⟨94, 3, dr (b.2.1.map zm.row) ++ tlT role b.2.2⟩), (2, some ⟨67, 2, dr ((clT b.2.2).map ze.row)⟩)], 3⟩) (fun b => b.1 <= cs.length /\ b.2 = pcS role cs ks b.1) (fun b => cs.length - b.1) (0, [], none) ?_ ⟨Nat.zero_le _, rfl⟩ ?_
 ·refine wq [(0, some 0), (1, none), (2, none)] (by simp [upT, upH, upR, upL, up, push_cast, tlT, clT])
 ·rintro ⟨k, P, o⟩ ⟨hk2, hst⟩;simp only at hk2 hst;have hPe : P = (pcS role cs ks k).1 := congrArg Prod.fst hst;have hoe : o = (pcS role cs ks k).2 := congrArg Prod.snd hst;obtain ⟨hl1, hl2⟩ := hlen k;rw [<- hPe, <- hoe] at hl1;rw [<- hoe] at hl2;refine Nav.imp ?_;refine rg cx ?_;refine awp_cd (decide ((k : Int) < cs.length)) (fun hb => ?_) fun hb => ?_
  ·have hlt : k < cs.length := by simpa using hb
   obtain ⟨c, hc⟩ := zak hlt;obtain ⟨b, hbk⟩ := zak (l := ks) (k := k) (by omega);have hkb := hg k b hbk;have e0 := wI ((k : Int) + 1);refine rx cx [] (fun K hK => by simp [push_cast, hc]; (repeat refine ob ?_); exact hK) ?_;refine rx cx [] (fun K hK => by simp [push_cast, hkb]; (repeat refine ob ?_); exact hK) ?_;cases b with
   | false =>
    have hnx := pcS_off (role := role) (cs := cs) hbk;refine awp_cd true (fun hb => ?_) fun hb => ?_
    ·refine rx cx [] (fun K hK => by simp [push_cast, e0]; (repeat refine ob ?_); exact hK) ?_;refine ⟨(k + 1, P, o), ⟨hlt, by rw [hnx]; exact hst⟩, by simp only; omega, ?_⟩;rcases o with _ | L
     ·refine wq [(0, some 0), (1, some 1), (2, some 2)] (by simp [upT, upH, upR, upL, up, push_cast, tlT, clT])
     ·refine wq [(0, some 0), (1, some 1), (2, some 2)] (by simp [upT, upH, upR, upL, up, push_cast, tlT, clT])
    ·simp at hb
   | true =>
    refine awp_cd false (fun hb => ?_) fun hb => ?_
    ·simp at hb
    ·have hP40 : (P.length + 1 + 1) * 40 <= 140737488355328 := by omega
     have hP41 : (P.length + 1) * 40 <= 140737488355328 := Nat.le_trans (Nat.mul_le_mul_right 40 (Nat.le_succ (P.length + 1))) hP40;rcases o with _ | L
     ·have hn : k = 0 \/ ks[k - 1]? ≠ some true := by
       by_cases h0 : k = 0
       ·exact .inl h0
       ·right
        intro hp;obtain ⟨L, hL⟩ := hsome k hk2 h0 hp;rw [<- hoe] at hL; cases hL
      have hnx := zup (role := role) hc hbk hn;rw [<- hPe, <- hoe] at hnx;simp only [zdh, List.append_nil] at hnx;have hget : (dr (P.map zm.row) ++ [[AV.d (.int .i64 role), AV.d (.bool false), AV.nl]])[P.length]? = some [AV.d (.int .i64 role), AV.d (.bool false), AV.nl] := by
       rw [List.getElem?_append_right (by simp [dr])]; simp [dr]
      have hset : ∀ v, (dr (P.map zm.row) ++ [[AV.d (.int .i64 role), AV.d (.bool false), AV.nl]]).set P.length v = dr (P.map zm.row) ++ [v] := fun v => by
       rw [List.set_append_right _ _ (by simp [dr])]; simp [dr]
      have e6 := wI ((P.length : Int));obtain ⟨x, y⟩ := c;by_cases h0 : k = 0
      ·have q0 : (k : Int) = 0 := by omega
       refine rx cx [(3, .skip), (4, .skip), (5, .skip), (6, .skip), (7, .skip), (8, .skip)] (fun K hK => by simp [push_cast, q0, h0, tlT, clT]; (repeat refine ob ?_); exact hK) ?_;refine awp_cn true (by simp [push_cast, q0, h0]) (fun hb => ?_) fun hb => ?_
       ·refine rx cx [] (fun K hK => by simp [push_cast, hP41, tlT, clT]; (repeat refine ob ?_); exact hK) ?_;refine rx cx [] (fun K hK => by simp [push_cast, hget, e6, tlT, clT]; (repeat refine ob ?_); exact hK) ?_;refine rd cx mixed [] (fun K hK => by simp [push_cast, hget, hset, tlT, clT]; (repeat refine ob ?_); exact hK) ?_;refine rx cx [] (fun K hK => by simp [push_cast, e0]; (repeat refine ob ?_); exact hK) ?_;refine ⟨(k + 1, P, some [⟨x, y⟩]), ⟨hlt, hnx.symm⟩, by simp only; omega, ?_⟩;refine wq [(0, some 0), (1, some 30), (2, some 45)] (by simp [upT, upH, upR, upL, up, push_cast, tlT, clT, q0])
       ·simp at hb
      ·obtain ⟨bp, hbp⟩ := zak (l := ks) (k := k - 1) (by omega);have hpv : bp = false := by
        cases bp with
        | false => rfl
        | true => exact absurd hbp (hn.resolve_left h0)
       subst hpv;have hpb := hg (k - 1) false hbp;have q0 : ¬ (k : Int) = 0 := by omega
       have q1 : (k : Int) - 1 = ((k - 1 : Nat) : Int) := by omega
       have q2 := wI (((k - 1 : Nat) : Int));generalize k - 1 = km at *;refine rx cx [] (fun K hK => by simp [push_cast, q0, h0, q1, q2, hpb, tlT, clT]; (repeat refine ob ?_); exact hK) ?_;refine awp_cn true (by simp [push_cast, q0, h0]) (fun hb => ?_) fun hb => ?_
       ·refine rx cx [] (fun K hK => by simp [push_cast, hP41, tlT, clT]; (repeat refine ob ?_); exact hK) ?_;refine rx cx [] (fun K hK => by simp [push_cast, hget, e6, tlT, clT]; (repeat refine ob ?_); exact hK) ?_;refine rd cx mixed [] (fun K hK => by simp [push_cast, hget, hset, tlT, clT]; (repeat refine ob ?_); exact hK) ?_;refine rx cx [] (fun K hK => by simp [push_cast, e0]; (repeat refine ob ?_); exact hK) ?_;refine ⟨(k + 1, P, some [⟨x, y⟩]), ⟨hlt, hnx.symm⟩, by simp only; omega, ?_⟩;refine wq [(0, some 0), (1, some 30), (2, some 45)] (by simp [upT, upH, upR, upL, up, push_cast, tlT, clT])
       ·simp at hb
     ·have h0 : ¬ k = 0 := fun e => by rw [e] at hoe; simp [pcS] at hoe
      have hLk := hl2 L rfl;obtain ⟨A, hA⟩ : ∃ A, A = P ++ [(⟨role, false, L⟩ : zm)] := ⟨_, rfl⟩
      have hAl : A.length = P.length + 1 := by rw [hA]; simp
      by_cases hn : k = 0 \/ ks[k - 1]? ≠ some true
      ·have hnx := zup (role := role) hc hbk hn;rw [<- hPe, <- hoe] at hnx;simp only [zdh] at hnx;rw [<- hA] at hnx;have hfold : dr (P.map zm.row) ++ [[AV.d (.int .i64 role), AV.d (.bool false), AV.d (.sl (L.map ze.row))]] = dr (A.map zm.row) := by rw [hA]; simp [dr, zm.row]
       have hget : (dr (A.map zm.row) ++ [[AV.d (.int .i64 role), AV.d (.bool false), AV.nl]])[A.length]? = some [AV.d (.int .i64 role), AV.d (.bool false), AV.nl] := by
        rw [List.getElem?_append_right (by simp [dr])]; simp [dr]
       have hset : ∀ v, (dr (A.map zm.row) ++ [[AV.d (.int .i64 role), AV.d (.bool false), AV.nl]]).set A.length v = dr (A.map zm.row) ++ [v] := fun v => by
        rw [List.set_append_right _ _ (by simp [dr])]; simp [dr]
       have e6 := wI ((A.length : Int));have hPA : P.length + 1 = A.length := hAl.symm;rw [hPA] at hP40;obtain ⟨x, y⟩ := c;obtain ⟨bp, hbp⟩ := zak (l := ks) (k := k - 1) (by omega);have hpv : bp = false := by
        cases bp with
        | false => rfl
        | true => exact absurd hbp (hn.resolve_left h0)
       subst hpv;have hpb := hg (k - 1) false hbp;have q0 : ¬ (k : Int) = 0 := by omega
       have q1 : (k : Int) - 1 = ((k - 1 : Nat) : Int) := by omega
       have q2 := wI (((k - 1 : Nat) : Int));generalize k - 1 = km at *;refine rx cx [] (fun K hK => by simp [push_cast, q0, h0, q1, q2, hpb, tlT, clT]; (repeat refine ob ?_); exact hK) ?_;refine awp_cn true (by simp [push_cast, q0, h0]) (fun hb => ?_) fun hb => ?_
       ·refine zaf 2 (L.map ze.row) rfl (by simp [push_cast, hfold, tlT, clT]) fun K hK => ?_;simp [push_cast, St.fz, fzT, fzH, fzO, fz, fzL, fzR, zbc, zat, zas, zaq, hfold, tlT, clT];refine nx hK ?_; clear hK K;rw [hPA];clear hA hfold;refine rx cx [] (fun K hK => by simp [push_cast, hP40]; (repeat refine ob ?_); exact hK) ?_;refine rx cx [] (fun K hK => by simp [push_cast, hget, e6]; (repeat refine ob ?_); exact hK) ?_;refine rd cx mixed [] (fun K hK => by simp [push_cast, hget, hset]; (repeat refine ob ?_); exact hK) ?_;refine rx cx [] (fun K hK => by simp [push_cast, e0]; (repeat refine ob ?_); exact hK) ?_;refine ⟨(k + 1, A, some [⟨x, y⟩]), ⟨hlt, hnx.symm⟩, by simp only; omega, ?_⟩;refine wq [(0, some 0), (1, some 30), (2, some 45)] (by simp [upT, upH, upR, upL, up, push_cast, tlT, clT])
       ·simp at hb
      ·have hnx := pcS_on (role := role) hc hbk hn;rw [<- hPe, <- hoe] at hnx;simp only [Option.map_some] at hnx;have hpt : ks[k - 1]? = some true := Classical.byContradiction fun e => hn (.inr e);have hpb := hg (k - 1) true hpt;have q0 : ¬ (k : Int) = 0 := by omega
       have q1 : (k : Int) - 1 = ((k - 1 : Nat) : Int) := by omega
       have q2 := wI (((k - 1 : Nat) : Int));have hL16 : (L.length + 1) * 16 <= 140737488355328 := by
        clear hP40 hP41;omega
       have hget : (dr (P.map zm.row) ++ [[AV.d (.int .i64 role), AV.d (.bool false), AV.hs 2 0 L.length]])[P.length]? = some [AV.d (.int .i64 role), AV.d (.bool false), AV.hs 2 0 L.length] := by
        rw [List.getElem?_append_right (by simp [dr])]; simp [dr]
       have hset : ∀ v, (dr (P.map zm.row) ++ [[AV.d (.int .i64 role), AV.d (.bool false), AV.hs 2 0 L.length]]).set P.length v = dr (P.map zm.row) ++ [v] := fun v => by
        rw [List.set_append_right _ _ (by simp [dr])]; simp [dr]
       have e6 := wrap_i64 (n := (P.length : Int)) (by clear hP40 hP41; omega) (by clear hP40 hP41; omega);obtain ⟨x, y⟩ := c;generalize k - 1 = km at *;refine rx cx [] (fun K hK => by simp [push_cast, q0, h0, q1, q2, hpb, tlT, clT]; (repeat refine ob ?_); exact hK) ?_;refine awp_cn false (by simp [push_cast, q0, h0]) (fun hb => ?_) fun hb => ?_
       ·simp at hb
       ·refine rx cx [] (fun K hK => by simp [push_cast, hget, e6, tlT, clT]; (repeat refine ob ?_); exact hK) ?_;refine rd cx mixed [] (fun K hK => by simp [push_cast, hget, hset, hL16, tlT, clT]; (repeat refine ob ?_); exact hK) ?_;refine rx cx [] (fun K hK => by simp [push_cast, e0]; (repeat refine ob ?_); exact hK) ?_;refine ⟨(k + 1, P, some (L ++ [⟨x, y⟩])), ⟨hlt, hnx.symm⟩, by simp only; omega, ?_⟩;refine wq [(0, some 0), (1, some 1), (2, some 38)] (by simp [upT, upH, upR, upL, up, push_cast, tlT, clT])
  ·have hke : k = cs.length := by simp at hb; omega
   subst hke;rw [<- hPe, <- hoe];rcases o with _ | L
   ·simp only [zdh, List.append_nil];refine zaf 1 (P.map zm.row) rfl (by simp [push_cast, tlT, clT]) fun K hK => ?_;simp [push_cast, St.fz, fzT, fzH, fzO, fz, fzL, fzR, zbc, zat, zas, zaq, tlT, clT];refine nx hK ?_; clear hK K;refine rg cx ?_;simp [push_cast, tlT, clT]
   ·simp only [zdh];obtain ⟨A, hA⟩ : ∃ A, A = P ++ [(⟨role, false, L⟩ : zm)] := ⟨_, rfl⟩
    have hfold : dr (P.map zm.row) ++ [[AV.d (.int .i64 role), AV.d (.bool false), AV.d (.sl (L.map ze.row))]] = dr (A.map zm.row) := by rw [hA]; simp [dr, zm.row]
    have hAl : P.length + 1 = A.length := by rw [hA]; simp
    rw [<- hA];refine zaf 2 (L.map ze.row) rfl (by simp [push_cast, hfold, tlT, clT]) fun K hK => ?_;simp [push_cast, St.fz, fzT, fzH, fzO, fz, fzL, fzR, zbc, zat, zas, zaq, hfold, tlT, clT];refine nx hK ?_; clear hK K;rw [hAl];refine zaf 1 (A.map zm.row) rfl (by simp [push_cast, tlT, clT]) fun K hK => ?_;simp [push_cast, St.fz, fzT, fzH, fzO, fz, fzL, fzR, zbc, zat, zas, zaq, tlT, clT];refine nx hK ?_; clear hK K;refine rg cx ?_;simp [push_cast]

theorem zfr {y : Int} {r : Run} {c : ze} : c ∈ zaa y r ↔ c.y = y /\ r.a <= c.x /\ c.x < r.b := by
 simp only [zaa, List.mem_map, List.mem_range];constructor
 ·rintro ⟨k, hk, rfl⟩;exact ⟨rfl, by simp only; omega, by simp only; omega⟩
 ·rintro ⟨h1, h2, h3⟩;refine ⟨(c.x - r.a).toNat, by omega, ?_⟩;cases c;simp only [ze.mk.injEq] at *;exact ⟨by omega, h1.symm⟩
theorem zbn {R : List Row} {c : ze} : c ∈ zk R ↔ ∃ w ∈ R, c.y = w.y /\ ∃ r ∈ w.runs, r.a <= c.x /\ c.x < r.b := by
 simp only [zk, zcj, List.mem_flatMap, zfr];constructor
 ·rintro ⟨w, hw, r, hr, h1, h2, h3⟩;exact ⟨w, hw, h1, r, hr, h2, h3⟩
 ·rintro ⟨w, hw, h1, r, hr, h2, h3⟩;exact ⟨w, hw, r, hr, h1, h2, h3⟩

theorem zul {R : List Row} (h : zo R = true) : ∀ (j i : Nat) (w p : Row), i < j -> R[j]? = some w -> R[i]? = some p -> p.y < w.y
 | 0, i, w, p, hij, _, _ => by omega
 | j + 1, i, w, p, hij, hw, hp => by
  by_cases e : i = j
  ·subst e; exact zsr h hw hp
  ·have hj := (List.getElem?_eq_some_iff.1 hw).1;obtain ⟨q, hq⟩ : ∃ q, R[j]? = some q := zak (by omega);have h1 := zul h j i q p (by omega) hq hp;have h2 := zsr h hw hq;omega
theorem rows_eq {R : List Row} (h : zo R = true) {w p : Row} (hw : w ∈ R) (hp : p ∈ R) (he : w.y = p.y) : w = p := by
 obtain ⟨j, hj⟩ := List.mem_iff_getElem?.1 hw;obtain ⟨i, hi⟩ := List.mem_iff_getElem?.1 hp;rcases Nat.lt_trichotomy i j with hlt | e | hlt
 ·have := zul h j i w p hlt hj hi; omega
 ·subst e; rw [hj] at hi; exact Option.some.inj hi
 ·have := zul h i j p w hlt hi hj; omega
theorem runs_lt {l : List Run} (h : zel l = true) : ∀ (j i : Nat) (r p : Run), i < j -> l[j]? = some r -> l[i]? = some p -> p.b < r.a
 | 0, i, r, p, hij, _, _ => by omega
 | j + 1, i, r, p, hij, hr, hp => by
  by_cases e : i = j
  ·subst e; exact fine_gap h hr hp
  ·have hj := (List.getElem?_eq_some_iff.1 hr).1;obtain ⟨q, hq⟩ : ∃ q, l[j]? = some q := zak (by omega);have h1 := runs_lt h j i q p (by omega) hq hp;have h2 := fine_gap h hr hq;have h3 := zhh h hq;omega
theorem runs_eq {l : List Run} (h : zel l = true) {r p : Run} (hr : r ∈ l) (hp : p ∈ l) (h1 : p.a <= r.b) (h2 : r.a <= p.b) : r = p := by
 obtain ⟨j, hj⟩ := List.mem_iff_getElem?.1 hr;obtain ⟨i, hi⟩ := List.mem_iff_getElem?.1 hp;rcases Nat.lt_trichotomy i j with hlt | e | hlt
 ·have := runs_lt h j i r p hlt hj hi; omega
 ·subst e; rw [hj] at hi; exact Option.some.inj hi
 ·have := runs_lt h i j p r hlt hi hj; omega
theorem zbx {R : List Row} (h : zo R = true) {w : Row} (hw : w ∈ R) : (-4096 <= w.y /\ w.y < 4096) /\ zel w.runs = true := by
 obtain ⟨i, hi⟩ := List.mem_iff_getElem?.1 hw;exact zcq h hi
theorem zva {R : List Row} (h : zo R = true) {w : Row} (hw : w ∈ R) {r : Run} (hr : r ∈ w.runs) {x : Int} (h1 : r.a - 1 <= x) (h2 : x <= r.b) : (⟨x, w.y⟩ : ze) ∈ zk R ↔ r.a <= x /\ x < r.b := by
 rw [zbn];constructor
 ·rintro ⟨w', hw', hy, r', hr', h3, h4⟩;simp only at hy h3 h4;have := rows_eq h hw hw' hy;subst this;have := runs_eq (zbx h hw).2 hr hr' (by omega) (by omega);subst this;exact ⟨h3, h4⟩
 ·rintro ⟨h3, h4⟩;exact ⟨w, hw, rfl, r, hr, h3, h4⟩
theorem zeg {R : List Row} (h : zo R = true) {c : ze} (hc : c ∈ zk R) : onG c = true := by
 obtain ⟨w, hw, hy, r, hr, h1, h2⟩ := zbn.1 hc;have h3 := zbx h hw;have h4 := zdv h hw hr;simp [onG]; omega

def rgt (c : ze) : ze := ⟨c.x + 1, c.y⟩
def upc (c : ze) : ze := ⟨c.x, c.y + 1⟩
def hN (l : List ze) : Nat -> ze -> List ze
 | 0, _ => []
 | n + 1, c => if c ∈ l then c :: hN l n (rgt c) else []
def hch (l : List ze) (c : ze) : List ze := hN l (4096 - c.x).toNat c
def vN (l : List ze) : Nat -> ze -> List ze
 | 0, _ => []
 | n + 1, c => if c ∈ l then c :: vN l n (upc c) else []
def vch (l : List ze) (c : ze) : List ze := vN l (4096 - c.y).toNat c
def hst (l : List ze) (c : ze) : Bool := !decide ((⟨c.x - 1, c.y⟩ : ze) ∈ l)
def vst (l : List ze) (c : ze) : Bool := !decide ((⟨c.x, c.y - 1⟩ : ze) ∈ l)
def trk (l : List ze) : zm := ⟨2, false, l⟩

theorem hch_in {l : List ze} {c : ze} (h : c ∈ l) (hx : c.x < 4096) : hch l c = c :: hch l (rgt c) := by
 unfold hch;obtain ⟨n, hn⟩ : ∃ n, (4096 - c.x).toNat = n + 1 := ⟨(4096 - c.x).toNat - 1, by omega⟩
 have h2 : (4096 - (rgt c).x).toNat = n := by simp only [rgt]; omega
 rw [hn, h2];simp [hN, h]
theorem hch_out {l : List ze} {c : ze} (h : c ∉ l) : hch l c = [] := by
 unfold hch;cases (4096 - c.x).toNat <;> simp [hN, h]
theorem vch_in {l : List ze} {c : ze} (h : c ∈ l) (hx : c.y < 4096) : vch l c = c :: vch l (upc c) := by
 unfold vch;obtain ⟨n, hn⟩ : ∃ n, (4096 - c.y).toNat = n + 1 := ⟨(4096 - c.y).toNat - 1, by omega⟩
 have h2 : (4096 - (upc c).y).toNat = n := by simp only [upc]; omega
 rw [hn, h2];simp [vN, h]
theorem vch_out {l : List ze} {c : ze} (h : c ∉ l) : vch l c = [] := by
 unfold vch;cases (4096 - c.y).toNat <;> simp [vN, h]
theorem vN_congr {l l' : List ze} (h : ∀ c, c ∈ l ↔ c ∈ l') : ∀ (n : Nat) (c : ze), vN l n c = vN l' n c
 | 0, _ => rfl
 | n + 1, c => by simp only [vN, h c, vN_congr h n]
theorem vch_congr {l l' : List ze} (h : ∀ c, c ∈ l ↔ c ∈ l') (c : ze) : vch l c = vch l' c := vN_congr h _ c
theorem vst_congr {l l' : List ze} (h : ∀ c, c ∈ l ↔ c ∈ l') (c : ze) : vst l c = vst l' c := by simp only [vst, h]

theorem zgy (y : Int) (r : Run) {j : Nat} (h : j < (r.b - r.a).toNat) : (zaa y r)[j]? = some ⟨r.a + j, y⟩ := by simp [zaa, h]
theorem zif {α β : Type} {f g : α -> List β} : ∀ {l : List α}, (∀ x ∈ l, f x = g x) -> l.flatMap f = l.flatMap g
 | [], _ => rfl
 | x :: l, h => by rw [List.flatMap_cons, List.flatMap_cons, h x (by simp), zif fun y hy => h y (by simp [hy])]

theorem hch_run {R : List Row} (h : zo R = true) {w : Row} (hw : w ∈ R) {r : Run} (hr : r ∈ w.runs) : ∀ (n j : Nat), n + j = (r.b - r.a).toNat -> hch (zk R) ⟨r.a + j, w.y⟩ = (zaa w.y r).drop j
 | 0, j, hj => by
  have hrb := zdv h hw hr;rw [hch_out, List.drop_of_length_le (by rw [zbr]; omega)];rw [zva h hw hr (by omega) (by omega)];omega
 | n + 1, j, hj => by
  have hrb := zdv h hw hr;have hm : (⟨r.a + j, w.y⟩ : ze) ∈ zk R := (zva h hw hr (by omega) (by omega)).2 ⟨by omega, by omega⟩;have ih := hch_run h hw hr n (j + 1) (by omega);rw [hch_in hm (by simp only; omega), zgd (zgy w.y r (show j < (r.b - r.a).toNat by omega))]
  congr 1
  rw [<- ih];simp only [rgt]
  congr 2
  omega
theorem hch_start {R : List Row} (h : zo R = true) {w : Row} (hw : w ∈ R) {r : Run} (hr : r ∈ w.runs) : hch (zk R) ⟨r.a, w.y⟩ = zaa w.y r := by
 have := hch_run h hw hr (r.b - r.a).toNat 0 (by omega);simpa using this

def isLong (l : List ze) : Bool := decide (1 < l.length)
def fT (l : List ze) (c : ze) : List zm := if hst l c then (if isLong (hch l c) then [trk (hch l c)] else []) else []
def fS (l : List ze) (c : ze) : List ze := if hst l c then (if isLong (hch l c) then [] else [c]) else []

theorem run_parts {R : List Row} (h : zo R = true) {w : Row} (hw : w ∈ R) {r : Run} (hr : r ∈ w.runs) : (zaa w.y r).flatMap (fT (zk R)) = zhq w.y r /\ (zaa w.y r).flatMap (fS (zk R)) = zgx w.y r := by
 have hrb := zdv h hw hr;have hc := hch_start h hw hr;have hrl := zbr w.y r;obtain ⟨n, hn⟩ : ∃ n, (r.b - r.a).toNat = n + 1 := ⟨(r.b - r.a).toNat - 1, by omega⟩
 have hcons : zaa w.y r = ⟨r.a, w.y⟩ :: (List.range n).map fun k : Nat => (⟨r.a + (k + 1), w.y⟩ : ze) := by
  unfold zaa;rw [hn, List.range_succ_eq_map, List.map_cons, List.map_map]
  congr 1
  simp
 have h0 : hst (zk R) ⟨r.a, w.y⟩ = true := by
  simp only [hst, Bool.not_eq_true', decide_eq_false_iff_not];rw [zva h hw hr (by omega) (by omega)];omega
 have h1 : ∀ c ∈ (List.range n).map fun k : Nat => (⟨r.a + (k + 1), w.y⟩ : ze), hst (zk R) c = false := by
  intro c hc;obtain ⟨k, hk, rfl⟩ := List.mem_map.1 hc;have hk : k < n := by simpa using hk
  simp only [hst, Bool.not_eq_false', decide_eq_true_eq];rw [zva h hw hr (by omega) (by omega)];omega
 have e0 : ∀ {β : Type} (f : ze -> List β), (∀ c, hst (zk R) c = false -> f c = []) -> ((List.range n).map fun k : Nat => (⟨r.a + (k + 1), w.y⟩ : ze)).flatMap f = [] := fun f hf => by
  rw [List.flatMap_eq_nil_iff];exact fun c hc => hf c (h1 c hc)
 have hl : isLong (zaa w.y r) = !decide (r.b = r.a + 1) := by
  simp only [isLong, hrl];by_cases e : r.b = r.a + 1
  ·simp [e]; omega
  ·simp [e]; omega
 constructor
 ·conv => lhs; rw [hcons, List.flatMap_cons, e0 (fT (zk R)) fun c hc => by simp [fT, hc]]
  simp only [fT, h0, hc, hl, if_true, zhq, trk];by_cases e : r.b = r.a + 1 <;> simp [e]
 ·conv => lhs; rw [hcons, List.flatMap_cons, e0 (fS (zk R)) fun c hc => by simp [fS, hc]]
  simp only [fS, h0, hc, hl, if_true, zgx];by_cases e : r.b = r.a + 1 <;> simp [e]

theorem cells_flat {β : Type} (R : List Row) (F : ze -> List β) : (zk R).flatMap F = R.flatMap fun w => w.runs.flatMap fun r => (zaa w.y r).flatMap F := by
 unfold zk;rw [List.flatMap_assoc];refine zif fun w _ => ?_;unfold zcj;rw [List.flatMap_assoc]
theorem ref_trk {R : List Row} (h : zo R = true) : (zk R).flatMap (fT (zk R)) = zha R /\ (zk R).flatMap (fS (zk R)) = zcc R := by
 constructor
 ·rw [cells_flat];exact zif fun w hw => zif fun r hr => (run_parts h hw hr).1
 ·rw [cells_flat];exact zif fun w hw => zif fun r hr => (run_parts h hw hr).2
theorem zld {R : List Row} (h : zo R = true) {c : ze} (hc : c ∈ zcc R) : c ∈ zk R := by
 rw [<- (ref_trk h).2] at hc;obtain ⟨d, hd, hcd⟩ := List.mem_flatMap.1 hc;simp only [fS] at hcd;split at hcd
 ·split at hcd
  ·simp at hcd
  ·simp at hcd; rw [hcd]; exact hd
 ·simp at hcd
end Go.Proofs.YtdddknniooimmaaGreat
