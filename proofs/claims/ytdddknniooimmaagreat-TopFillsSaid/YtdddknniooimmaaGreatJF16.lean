/-
  Texts of this seat put together: M4, M5, RW5, X5, WJ2, U2, M6, X9.
-/
import Derived.Test.YtdddknniooimmaaGreatJF15
import Derived.Test.YtdddknniooimmaaGreatJF12
import Derived.Test.YtdddknniooimmaaGreatJF5
import Derived.Test.YtdddknniooimmaaGreatJF14
import Derived.Test.YtdddknniooimmaaGreatJF9
set_option linter.unusedVariables false
set_option linter.unusedSimpArgs false
set_option maxRecDepth 100000
namespace Go.Proofs.YtdddknniooimmaaGreat
open Go.Abs

def OkL (l : List Run) : Prop := zfm l /\ ∀ r ∈ l, -4160 <= r.a /\ r.b <= 4160
theorem OkL.nil : OkL [] := ⟨⟨by simp, by simp⟩, by simp⟩
theorem OkL.rv {l : List Run} (h : OkL l) : zar l = true := apart_rv h.1 h.2
theorem OkL.len {l : List Run} (h : OkL l) : l.length <= 8320 := apart_small h.1 h.2
theorem OkL.sweep {f : Bool -> Bool -> Bool} (hf : f false false = false) {a b : List Run} (ha : OkL a) (hb : OkL b) : OkL (sweep f a b) := by
 obtain ⟨h1, h2⟩ := zdt hf ha.rv hb.rv;refine ⟨h1, zeq h1 fun x hx => ?_⟩;rw [h2] at hx;cases q1 : inR a x with
 | true => obtain ⟨r, hr, h3, h4⟩ := zbe.1 q1; have := ha.2 r hr; omega
 | false =>
  cases q2 : inR b x with
  | true => obtain ⟨r, hr, h3, h4⟩ := zbe.1 q2; have := hb.2 r hr; omega
  | false => rw [q1, q2, hf] at hx; cases hx
def OkM (M : List (Int × List Run)) : Prop := ∀ y, OkL (zhc M y)
def wj (f : Bool -> Bool -> Bool) (M : List (Int × List Run)) (y : Int) : Nat -> List Run
 | 0 => zhc M y
 | j + 1 => sweep f (wj f M y j) (zhc M (y + 1 + j))
theorem wj_ok {f : Bool -> Bool -> Bool} (hf : f false false = false) {M : List (Int × List Run)} (hM : OkM M) (y : Int) : ∀ j, OkL (wj f M y j)
 | 0 => hM y
 | j + 1 => (wj_ok hf hM y j).sweep hf (hM _)
theorem wj_U {M : List (Int × List Run)} (hM : OkM M) (y x : Int) : ∀ j : Nat, inR (wj fU M y j) x = true ↔ ∃ i : Nat, i <= j /\ inR (zhc M (y + i)) x = true
 | 0 => by
  simp only [wj, Nat.le_zero];constructor
  ·intro h; exact ⟨0, rfl, by simpa using h⟩
  ·rintro ⟨i, rfl, h⟩; simpa using h
 | j + 1 => by
  have ih := wj_U hM y x j;simp only [wj, (zdt (f := fU) rfl (wj_ok (f := fU) rfl hM y j).rv (hM (y + 1 + j)).rv).2, fU, Bool.or_eq_true, ih];constructor
  ·rintro (⟨i, hi, h⟩ | h)
   ·exact ⟨i, by omega, h⟩
   ·exact ⟨j + 1, Nat.le_refl _, by rw [show y + ((j + 1 : Nat) : Int) = y + 1 + j by omega]; exact h⟩
  ·rintro ⟨i, hi, h⟩;by_cases e : i = j + 1
   ·subst e; right; rw [show y + ((j + 1 : Nat) : Int) = y + 1 + j by omega] at h; exact h
   ·exact .inl ⟨i, by omega, h⟩
theorem wj_I {M : List (Int × List Run)} (hM : OkM M) (y x : Int) : ∀ j : Nat, inR (wj fI M y j) x = true ↔ ∀ i : Nat, i <= j -> inR (zhc M (y + i)) x = true
 | 0 => by
  simp only [wj, Nat.le_zero];constructor
  ·rintro h i rfl; simpa using h
  ·intro h; simpa using h 0 rfl
 | j + 1 => by
  have ih := wj_I hM y x j;simp only [wj, (zdt (f := fI) rfl (wj_ok (f := fI) rfl hM y j).rv (hM (y + 1 + j)).rv).2, fI, Bool.and_eq_true, ih];constructor
  ·rintro ⟨h1, h2⟩ i hi;by_cases e : i = j + 1
   ·subst e; rw [show y + ((j + 1 : Nat) : Int) = y + 1 + j by omega]; exact h2
   ·exact h1 i (by omega)
  ·intro h;refine ⟨fun i hi => h i (by omega), ?_⟩;have := h (j + 1) (Nat.le_refl _);rw [show y + ((j + 1 : Nat) : Int) = y + 1 + j by omega] at this; exact this
def rowW (f : Bool -> Bool -> Bool) (M : List (Int × List Run)) (y : Int) (K : Nat) : List Run := wj f M (y - K) (2 * K)

set_option maxHeartbeats 2000000 in
theorem wrow_ok (f : Bool -> Bool -> Bool) (hf : f false false = false) (g : FuncId) (hg : ∀ a b : List Run, a.length <= 1000000 -> b.length <= 1000000 -> zar a = true -> zar b = true -> PC Tryz.prog g [zn a, zn b] (.p (zn (sweep f a b))))
  (M : List (Int × List Run)) (hM : OkM M) (y : Int) (K : Nat) (hy : -10000 <= y /\ y <= 10000) (hK : K <= 64) :
  PC Tryz.prog 64 [.agg [.mp (zhz M), .fn (.func g) []], .int .i64 y, .int .i64 K] (.p (zn (rowW f M y K))) := by
 have hok := fun j => wj_ok hf hM (y - K) j;have h0 : wj f M (y - K) 0 = zhc M (y - K) := rfl;have hs : ∀ j : Nat, wj f M (y - K) (j + 1) = sweep f (wj f M (y - K) j) (zhc M (y - K + 1 + j)) := fun j => rfl;have hr : rowW f M y K = wj f M (y - K) (2 * K) := rfl;rw [hr];clear hr;generalize wj f M (y - K) = W at *;have e1 := wI (y - (K : Int));have e2 := wI (y - (K : Int) + 1);have e3 := wI (y + (K : Int));have hl0 := look_mp (y - K) M;refine pw cx Tryz.func64 Tryz.ntmps64 ?_;refine rg cx ?_;refine rx cx [(5, .p (zn (zhc M (y - K))))] (fun K hK => by simp [push_cast, e1, hl0]; (repeat refine ob ?_); exact hK) ?_;rw [<- h0];refine rx cx [] (fun K hK => by simp [push_cast, e1, e2]; (repeat refine ob ?_); exact hK) ?_;refine zz (β := Nat) (fun j => ⟨35, [(1, .d (.int .i64 y)), (2, .d (.int .i64 K)), (3, .ptr 0 0 0), (7, .d (zn (W j))), (8, .d (.int .i64 (y - K + 1 + j)))], [(0, some ⟨89, 2, [[.d (.mp (zhz M)), .d (.fn (.func g) [])]]⟩)], 1⟩) (fun j => j <= 2 * K) (fun j => 2 * K - j) 0 ?_ (Nat.zero_le _) ?_
 ·refine wk [(0, some 0)]
 ·intro j hj
  replace hj : j <= 2 * K := hj
  refine Nav.imp ?_;by_cases hlt : j < 2 * K
  ·have q1 : y - (K : Int) + 1 + j <= y + K := by omega
   have e4 := wI (y - (K : Int) + 1 + j + 1);have hl := look_mp (y - K + 1 + j) M;have hA := hok j;have hB := hM (y - K + 1 + j);have c1 := hg (W j) (zhc M (y - K + 1 + j)) (by have := hA.len; omega) (by have := hB.len; omega) hA.rv hB.rv;rw [<- hs j] at c1;refine rx cx [] (fun K hK => by simp [push_cast, e3]; (repeat refine ob ?_); exact hK) ?_;refine awp_cn true (by simp [push_cast, q1]) (fun hb => ?_) fun hb => ?_
   ·refine rx cx [(6, .p (zn (zhc M (y - K + 1 + j)))), (7, .p (zn (W (j + 1))))] (fun K hK => by simp [push_cast, hl, c1]; (repeat refine ob ?_); exact hK) ?_;refine rx cx [] (fun K hK => by simp [push_cast, e4]; (repeat refine ob ?_); exact hK) ?_;refine ⟨j + 1, by show j + 1 <= 2 * K; omega, by show 2 * K - (j + 1) < 2 * K - j; omega, ?_⟩;refine wq [(0, some 0)] (by simp [upT, upH, upR, upL, up, push_cast, Int.add_assoc])
   ·simp at hb
  ·have hje : j = 2 * K := by omega
   subst hje;have q1 : y + (K : Int) < y - K + 1 + 2 * K := by omega
   refine rx cx [] (fun K hK => by simp [push_cast, e3]; (repeat refine ob ?_); exact hK) ?_;refine awp_cn false (by simp [push_cast, q1]) (fun hb => ?_) fun hb => ?_
   ·simp at hb
   ·refine rg cx ?_;simp [push_cast]

def zdf (F : List Run -> List Run) (R : List Row) : List (Int × List Run) := R.foldl (fun M w => zgj M w.y (F w.runs)) []
theorem rowMap_take {F : List Run -> List Run} {R : List Row} {i : Nat} {w : Row} (h : R[i]? = some w) : zdf F (R.take (i + 1)) = zgj (zdf F (R.take i)) w.y (F w.runs) := by simp [zdf, zbm h]
theorem rowOf_cons (w : Row) (R : List Row) (y : Int) : zab (w :: R) y = if w.y = y then w.runs else zab R y := by
 unfold zab;rw [List.find?_cons];by_cases h : w.y = y <;> simp [h]
theorem rowMap_from (F : List Run -> List Run) : ∀ (R : List Row) (M : List (Int × List Run)) (y : Int), (R.Pairwise fun a b => a.y < b.y) ->
  zhc (R.foldl (fun M w => zgj M w.y (F w.runs)) M) y = if (∃ w ∈ R, w.y = y) then F (zab R y) else zhc M y
 | [], M, y, _ => by simp
 | w :: R, M, y, h => by
  obtain ⟨h1, h2⟩ := List.pairwise_cons.1 h;rw [List.foldl_cons, rowMap_from F R _ y h2, rowOf_cons, mget_put];by_cases hr : ∃ v ∈ R, v.y = y
  ·obtain ⟨v, hv, e⟩ := hr;have hne : w.y ≠ y := by have := h1 v hv; omega
   rw [if_pos ⟨v, hv, e⟩, if_pos ⟨v, by simp [hv], e⟩, if_neg hne]
  ·rw [if_neg hr];by_cases e : w.y = y
   ·rw [if_pos e.symm, if_pos ⟨w, by simp, e⟩, if_pos e]
   ·rw [if_neg (Ne.symm e), if_neg];rintro ⟨v, hv, e'⟩;rcases List.mem_cons.1 hv with rfl | hv
    ·exact e e'
    ·exact hr ⟨v, hv, e'⟩
theorem rowMap_get {F : List Run -> List Run} (h0 : F [] = []) {R : List Row} (hv : R.Pairwise fun a b => a.y < b.y) (y : Int) : zhc (zdf F R) y = F (zab R y) := by
 unfold zdf;rw [rowMap_from F R [] y hv];split
 ·rfl
 ·rename_i h;rw [zhx (fun w hw e => h ⟨w, hw, e⟩), h0];rfl

theorem zuz {K : Int} {l : List Run} {q : Run} : q ∈ zuk K l ↔ ∃ r ∈ l, r.a + K < r.b - K /\ q = ⟨r.a + K, r.b - K⟩ := by
 unfold zuk zsx;rw [List.mem_flatMap];refine exists_congr fun r => and_congr_right fun _ => ?_;split
 ·rename_i h; simp [h]
 ·rename_i h; simp [h]
theorem shrK_in {K : Int} {l : List Run} {x : Int} : inR (zuk K l) x = true ↔ ∃ r ∈ l, r.a + K <= x /\ x < r.b - K := by
 rw [zbe];constructor
 ·rintro ⟨q, hq, h⟩;obtain ⟨r, hr, _, rfl⟩ := zuz.1 hq;exact ⟨r, hr, h⟩
 ·rintro ⟨r, hr, h1, h2⟩;exact ⟨_, zuz.2 ⟨r, hr, by omega, rfl⟩, h1, h2⟩
theorem shrK_ok {K : Int} (hK : 0 <= K) {l : List Run} (h : zfm l) (hb : ∀ r ∈ l, -4096 <= r.a /\ r.b <= 4096) : OkL (zuk K l) := by
 refine ⟨⟨fun q hq => ?_, ?_⟩, fun q hq => ?_⟩
 ·obtain ⟨r, hr, h1, rfl⟩ := zuz.1 hq; exact h1
 ·refine flat_pw (P := fun p r => p.b < r.a) (fun r => shrRun_len K r) (fun a b x y hab hx hy => ?_) h.2;unfold zsx at hx hy;split at hx <;> simp at hx
  split at hy <;> simp at hy
  subst hx; subst hy;simp only; omega
 ·obtain ⟨r, hr, h1, rfl⟩ := zuz.1 hq;have := hb r hr;simp only; omega
theorem shrK_all {K : Nat} {l : List Run} (h : zfm l) (x : Int) : inR (zuk K l) x = true ↔ ∀ d : Int, -K <= d -> d <= K -> inR l (x + d) = true := by
 rw [shrK_in];constructor
 ·rintro ⟨r, hr, h1, h2⟩ d d1 d2;exact zbe.2 ⟨r, hr, by omega, by omega⟩
 ·intro hall;obtain ⟨r, hr, h1, h2⟩ := zbe.1 (hall (-K) (by omega) (by omega));refine ⟨r, hr, by omega, ?_⟩;apply Classical.byContradiction
  intro hn;obtain ⟨p, hp, h3, h4⟩ := zbe.1 (hall (r.b - x) (by omega) (by omega));have hrb := h.1 r hr;have hpb := h.1 p hp;have hne : r ≠ p := by rintro rfl; omega
  obtain ⟨i, hi⟩ := List.getElem?_of_mem hr;obtain ⟨j, hj⟩ := List.getElem?_of_mem hp;have hpw := List.pairwise_iff_getElem.1 h.2;obtain ⟨hi1, hi2⟩ := List.getElem?_eq_some_iff.1 hi;obtain ⟨hj1, hj2⟩ := List.getElem?_eq_some_iff.1 hj;rcases (by omega : i < j \/ i = j \/ j < i) with q | q | q
  ·have := hpw i j hi1 hj1 q; rw [hi2, hj2] at this; omega
  ·subst q; rw [hi2] at hj2; exact hne hj2
  ·have := hpw j i hj1 hi1 q; rw [hi2, hj2] at this; omega

def zsa (K : Nat) (l : List Run) : List Run := shrB l K
theorem shrF_nil (K : Nat) : zsa K [] = [] := by unfold zsa shrB zuk; simp
theorem shrF_eq {l : List Run} (h : zar l = true) {K : Nat} (hK : K <= 64) : zsa K l = zuk K l := by
 unfold zsa shrB;rw [if_pos (by rw [h]; simp; omega)]
theorem zlg {R : List Row} (hv : zo R = true) (y : Int) : zfm (zab R y) /\ ∀ r ∈ zab R y, -4096 <= r.a /\ r.b <= 4096 := by
 rcases zdw hv y with ⟨w, hw, _, e⟩ | ⟨_, e⟩
 ·rw [e]; exact (zdl.1 (zbx hv hw).2).2
 ·rw [e]; exact ⟨⟨by simp, by simp⟩, by simp⟩
theorem eroM_get {R : List Row} (hv : zo R = true) {K : Nat} (hK : K <= 64) (y : Int) : zhc (zdf (zsa K) R) y = zuk K (zab R y) := by
 rw [rowMap_get (shrF_nil K) (zht.1 hv).2, shrF_eq (zed hv y) hK]
theorem eroM_ok {R : List Row} (hv : zo R = true) {K : Nat} (hK : K <= 64) : OkM (zdf (zsa K) R) := fun y => by
 rw [eroM_get hv hK];exact shrK_ok (by omega) (zlg hv y).1 (zlg hv y).2

def zsd (R : List Row) (K : Nat) (w : Row) : List Run := rowW fI (zdf (zsa K) R) w.y K
def zkq (R : List Row) (k : Int) : List Row := if zcy R k then mapR (zsd R k.toNat) R else []
def aroundC (R : List Row) (K : Nat) (c : ze) : Prop := ∀ dx dy : Int, -K <= dx -> dx <= K -> -K <= dy -> dy <= K -> (⟨c.x + dx, c.y + dy⟩ : ze) ∈ zk R
theorem eroF_in {R : List Row} (hv : zo R = true) {K : Nat} (hK : K <= 64) (w : Row) (x : Int) : inR (zsd R K w) x = true ↔ aroundC R K ⟨x, w.y⟩ := by
 unfold zsd rowW;rw [wj_I (eroM_ok hv hK)];constructor
 ·intro h dx dy h1 h2 h3 h4;have h5 := h (dy + K).toNat (by omega);rw [show w.y - (K : Int) + ((dy + K).toNat : Int) = w.y + dy by omega, eroM_get hv hK, shrK_all (zlg hv _).1] at h5;exact (zke hv ⟨x + dx, w.y + dy⟩).2 (h5 dx h1 h2)
 ·intro h i hi;rw [eroM_get hv hK, shrK_all (zlg hv _).1];intro d h1 h2;have h5 := h d (i - K) h1 h2 (by omega) (by omega);have h6 := (zke hv _).1 h5;rw [show w.y - (K : Int) + (i : Int) = w.y + ((i : Int) - K) by omega];exact h6
theorem eroF_ok {R : List Row} (hv : zo R = true) {K : Nat} (hK : K <= 64) (w : Row) : OkL (zsd R K w) := wj_ok rfl (eroM_ok hv hK) _ _
theorem zmz {R : List Row} {k : Int} (h : zcy R k = true) : zo (zkq R k) = true /\ ∀ c, c ∈ zk (zkq R k) ↔ aroundC R k.toNat c := by
 have e : zkq R k = mapR (zsd R k.toNat) R := by unfold zkq; rw [if_pos h]
 simp only [zcy, Bool.and_eq_true, decide_eq_true_eq] at h;obtain ⟨⟨k1, k2⟩, hv⟩ := h;have hK : k.toNat <= 64 := by omega
 rw [e];refine ⟨mapR_valid hv fun w hw hne => zdl.2 ⟨hne, (eroF_ok hv hK w).1, zeq (eroF_ok hv hK w).1 fun x hx => ?_⟩, fun c => ?_⟩
 ·have := (eroF_in hv hK w x).1 hx 0 0 (by omega) (by omega) (by omega) (by omega);have := zje (zeg hv this);simp only at this; omega
 ·rw [mapR_cells];constructor
  ·rintro ⟨w, hw, hy, hr⟩;have := (eroF_in hv hK w c.x).1 hr;rw [<- hy] at this; exact this
  ·intro hc;have h0 := hc 0 0 (by omega) (by omega) (by omega) (by omega);obtain ⟨w, hw, hy, _⟩ := zbn.1 h0;simp only [Int.add_zero] at hy;refine ⟨w, hw, hy, (eroF_in hv hK w c.x).2 ?_⟩;rw [<- hy]; exact hc
theorem ero_valid (R : List Row) (k : Int) : zo (zkq R k) = true := by
 cases h : zcy R k with
 | true => exact (zmz h).1
 | false => unfold zkq; rw [h]; rfl

set_option maxHeartbeats 4000000 in
theorem erode_ok (R : List Row) (k : Int) (hR : zoq R) : PC Tryz.prog 70 [.agg (zt R), .int .i64 k] (.p (.agg (zt (zkq R k)))) := by
 have c0 := mvalid_big R k hR;have hE : zkq R k = if zcy R k then mapR (zsd R k.toNat) R else [] := rfl
 cases hq : zcy R k with
 | false =>
  rw [hq] at c0 hE;rw [hE];refine pw cx Tryz.func70 Tryz.ntmps70 ?_;refine rg cx ?_;refine rg cx ?_;refine rx cx [(2, .p (.bool false))] (fun K hK => by simp [push_cast, c0]; (repeat refine ob ?_); exact hK) ?_;refine awp_cd true (fun hb => ?_) fun hb => ?_
  ·refine rg cx ?_;simp [push_cast]
  ·simp at hb
 | true =>
  rw [hq] at c0 hE;rw [if_pos rfl] at hE;simp only [zcy, Bool.and_eq_true, decide_eq_true_eq] at hq;obtain ⟨⟨k1, k2⟩, hv⟩ := hq
  replace hR := zce hv
  have hl := hR.1;obtain ⟨K, rfl⟩ : ∃ K : Nat, k = K := ⟨k.toNat, by omega⟩
  have hK : K <= 64 := by omega
  rw [Int.toNat_natCast] at hE;rw [hE];clear hE;have hFd : ∀ w : Row, zsd R K w = rowW fI (zdf (zsa K) R) w.y K := fun w => rfl;have hFok := fun w => eroF_ok hv hK w;have hMok := eroM_ok hv hK;have hMt := fun i w => @rowMap_take (zsa K) R i w;have hM0 : zdf (zsa K) (R.take 0) = [] := rfl;have hMe : zdf (zsa K) (R.take R.length) = zdf (zsa K) R := by rw [List.take_length]
  have hFt := fun i w => @mapR_take (zsd R K) R i w;have hFl := fun i => mapR_len (zsd R K) (R.take i);have hF0 : mapR (zsd R K) (R.take 0) = [] := rfl;have hFe : mapR (zsd R K) (R.take R.length) = mapR (zsd R K) R := by rw [List.take_length]
  have hFr : ∀ w, zqa (zsd R K) w = if zsd R K w = [] then [] else [⟨w.y, zsd R K w⟩] := fun w => rfl
  generalize zsd R K = F at *;generalize hMM : zdf (zsa K) R = MM at *;refine pw cx Tryz.func70 Tryz.ntmps70 ?_;refine rg cx ?_;refine rg cx ?_;refine rx cx [(2, .p (.bool true))] (fun K hK => by simp [push_cast, c0]; (repeat refine ob ?_); exact hK) ?_;refine awp_cd false (fun hb => ?_) fun hb => ?_
  ·simp at hb
  ·refine rx cx [] (fun K hK => by simp [push_cast, mp_nil]; (repeat refine ob ?_); exact hK) ?_;refine rg cx ?_;refine zz (β := Nat × List (Int × List Run)) (fun b => ⟨63, [(1, .d (.int .i64 K)), (2, .ptr 0 0 0), (4, .ptr 1 0 0), (5, .ptr 2 0 0), (6, .ptr 4 0 0), (20, .d (zu R)), (21, .d (.int .i64 R.length)), (22, .d (.int .i64 b.1))], [(0, some ⟨24, 1, [(zt R).map .d]⟩), (1, some ⟨24, 1, [[.nl]]⟩), (2, some ⟨24, 1, [[.nl]]⟩), (3, some ⟨87, mapM, dr (zhz b.2)⟩), (4, some ⟨89, 2, [[.hm 3, .d (.fn (.func 128) [])]]⟩)], 5⟩) (fun b => b.1 <= R.length /\ b.2 = zdf (zsa K) (R.take b.1)) (fun b => R.length - b.1) (0, []) ?_ ⟨Nat.zero_le _, hM0.symm⟩ ?_
   ·refine wq [(0, some 0), (1, some 1), (2, some 2), (3, some 7), (4, some 9)] (by simp [upT, upH, upR, upL, up, push_cast, mp_nil])
   ·rintro ⟨i, M⟩ ⟨hi, hM⟩;simp only at hi hM;refine Nav.imp ?_;refine rg cx ?_;refine awp_cd (decide ((i : Int) < R.length)) (fun hb => ?_) fun hb => ?_
    ·have hlt : i < R.length := by simpa using hb
     obtain ⟨w, hw⟩ := zak hlt;have e0 := wI ((i : Int) + 1);have hwl := hR.2 w (List.mem_of_getElem? hw);have c1 := shrink_ok w.runs K hwl;have hsf : shrB w.runs K = zsa K w.runs := rfl;rw [hsf] at c1;have hnx := hMt i w hw;rw [<- hM] at hnx;clear hsf;generalize zsa K w.runs = s at *;have hput := putR_mp w.y s M;refine rx cx [] (fun K hK => by simp [push_cast, hw, Row.row]; (repeat refine ob ?_); exact hK) ?_;refine rd cx mixed [(7, .p (zn s))] (fun K hK => by simp [push_cast, c1, hput, Row.row]; (repeat refine ob ?_); exact hK) ?_;refine rx cx [] (fun K hK => by simp [push_cast, e0]; (repeat refine ob ?_); exact hK) ?_;refine ⟨(i + 1, zgj M w.y s), ⟨hlt, hnx.symm⟩, by simp only; omega, ?_⟩;refine wk [(0, some 0), (1, some 1), (2, some 2), (3, some 3), (4, some 4)]
    ·have hge : i = R.length := by simp at hb; omega
     subst hge;rw [hMe] at hM;subst hM;refine zaf 3 (zhz M) rfl (by simp [push_cast]) fun K hK => ?_;simp [push_cast, St.fz, fzT, fzH, fzO, fz, fzL, fzR, zbc, zat, zas, zaq];refine nx hK ?_; clear hK K;refine rg cx ?_;refine zz (β := Nat × List Row) (fun s => ⟨63, [(1, .d (.int .i64 K)), (4, .ptr 1 0 0), (5, .ptr 2 0 0), (6, .ptr 4 0 0), (36, .d (zu R)), (37, .d (.int .i64 R.length)), (38, .d (.int .i64 s.1))], [(1, some ⟨24, 1, [[.nl]]⟩), (2, some ⟨24, 1, [[.hs 3 0 s.2.length]]⟩), (3, some ⟨65, 2, dr (s.2.map Row.row)⟩), (4, some ⟨89, 2, [[.d (.mp (zhz M)), .d (.fn (.func 128) [])]]⟩)], 5⟩) (fun s => s.1 <= R.length /\ s.2 = mapR F (R.take s.1)) (fun s => R.length - s.1) (0, []) ?_ ⟨Nat.zero_le _, hF0.symm⟩ ?_
     ·refine wk [(1, some 1), (2, some 2), (3, none), (4, some 4)]
     ·rintro ⟨i, Z⟩ ⟨hi, hZ⟩;simp only at hi hZ;refine Nav.imp ?_;refine rg cx ?_;refine awp_cd (decide ((i : Int) < R.length)) (fun hb => ?_) fun hb => ?_
      ·have hlt : i < R.length := by simpa using hb
       obtain ⟨w, hw⟩ := zak hlt;have hwm := List.mem_of_getElem? hw;have e0 := wI ((i : Int) + 1);have hwb := (zcq hv hw).1;have c2 := wrow_ok fI rfl 128 (fun a b h1 h2 h3 h4 => intersect_ok a b h1 h2 h3 h4) M hMok w.y K (by omega) hK;rw [<- hFd w] at c2;have hul := (hFok w).len;have hnx := hFt i w hw;rw [hFr, <- hZ] at hnx;have hZl : Z.length <= 1000000 := by have := hFl i; rw [<- hZ] at this; simp at this; omega
       have hZ32 : (Z.length + 1) * 32 <= 140737488355328 := by omega
       have hu16 : (0 + (F w).length) * 16 <= 140737488355328 := by omega
       generalize F w = u at *;refine rx cx [] (fun K hK => by simp [push_cast, hw, Row.row]; (repeat refine ob ?_); exact hK) ?_;refine rx cx [(4, .p (zn u))] (fun K hK => by simp [push_cast, c2, Row.row]; (repeat refine ob ?_); exact hK) ?_;refine rg cx ?_;cases hu : u with
       | nil =>
        rw [hu] at hnx;simp only [if_true, List.append_nil] at hnx;refine awp_cn false (by simp [push_cast, hu]) (fun hb => ?_) fun hb => ?_
        ·simp at hb
        ·refine rx cx [] (fun K hK => by simp [push_cast, e0]; (repeat refine ob ?_); exact hK) ?_;refine ⟨(i + 1, Z), ⟨hlt, hnx.symm⟩, by simp only; omega, ?_⟩;refine wk [(1, some 1), (2, some 2), (3, some 3), (4, some 4)]
       | cons q u' =>
        have hne : ¬ u = [] := by rw [hu]; simp
        have hpos : 0 < u.length := by rw [hu]; simp
        rw [if_neg hne] at hnx;rw [<- hu];clear hu;refine awp_cn true (by simp [push_cast, hpos]) (fun hb => ?_) fun hb => ?_
        ·refine rd cx mixed [] (fun K hK => by simp [push_cast, hZ32, hu16, Row.row]; (repeat refine ob ?_); exact hK) ?_;refine zaf 25 (u.map Run.row) rfl (by simp [push_cast]) fun K hK => ?_;simp [push_cast, St.fz, fzT, fzH, fzO, fz, fzL, fzR, zbc, zat, zas, zaq];refine nx hK ?_; clear hK K;refine rx cx [] (fun K hK => by simp [push_cast, e0]; (repeat refine ob ?_); exact hK) ?_;refine ⟨(i + 1, Z ++ [⟨w.y, u⟩]), ⟨hlt, hnx.symm⟩, by simp only; omega, ?_⟩;refine wq [(1, some 1), (2, some 2), (3, some 28), (4, some 4)] (by simp [upT, upH, upR, upL, up, push_cast, Row.row])
        ·simp at hb
      ·have hge : i = R.length := by simp at hb; omega
       subst hge;rw [hFe] at hZ;rw [<- hZ];have ht2 : List.take Z.length (Z.map Row.row) = Z.map Row.row := List.take_of_length_le (by simp);refine zaf 3 (Z.map Row.row) rfl (by simp [push_cast, Row.row, ht2]) fun K hK => ?_;simp [push_cast, St.fz, fzT, fzH, fzO, fz, fzL, fzR, zbc, zat, zas, zaq, Row.row, ht2];refine nx hK ?_; clear hK K;refine rg cx ?_;simp [push_cast]

theorem ring_S (S : ze -> Bool) (e : ze) : (∃ y, isC S y = true /\ (e = zae y.h y.p \/ ((suc S y).h = y.h.r /\ e = zae y.h y.q))) ↔ S e = true /\ ∃ dx dy : Int, (-1 <= dx /\ dx <= 1) /\ (-1 <= dy /\ dy <= 1) /\ S ⟨e.x + dx, e.y + dy⟩ = false := by
 constructor
 ·rintro ⟨⟨⟨x, y⟩, h⟩, hc, he⟩;simp only [isC, Bool.and_eq_true, Bool.not_eq_true'] at hc;obtain ⟨h1, h2⟩ := hc;rcases he with rfl | ⟨hr, rfl⟩
  ·refine ⟨h1, ?_⟩;cases h
   ·exact ⟨0, -1, by omega, by omega, by rw [<- h2]; simp only [zae, zfg]; congr 2 <;> omega⟩
   ·exact ⟨1, 0, by omega, by omega, by rw [<- h2]; simp only [zae, zfg]; congr 2 <;> omega⟩
   ·exact ⟨0, 1, by omega, by omega, by rw [<- h2]; simp only [zae, zfg]; congr 2 <;> omega⟩
   ·exact ⟨-1, 0, by omega, by omega, by rw [<- h2]; simp only [zae, zfg]; congr 2 <;> omega⟩
  ·have hr : nxH S (stp h ⟨x, y⟩) h = h.r := hr;unfold nxH at hr;have n1 : isC S ⟨stp h ⟨x, y⟩, h.l⟩ = false := by
    cases hc : isC S ⟨stp h ⟨x, y⟩, h.l⟩ with
    | false => rfl
    | true => rw [if_pos hc] at hr; cases h <;> simp [Hd.l, Hd.r] at hr
   simp only [isC, Bool.and_eq_false_iff, Bool.not_eq_false'] at n1;have hq : Crk.q ⟨⟨x, y⟩, h⟩ = stp h ⟨x, y⟩ := rfl;rw [hq];cases h
   ·simp only [zae, zfg, stp, Hd.l, Int.add_sub_cancel] at *;rcases n1 with n1 | n1
    ·rw [h1] at n1; cases n1
    ·exact ⟨n1, -1, -1, by omega, by omega, by rw [<- h2]; congr 2 <;> omega⟩
   ·simp only [zae, zfg, stp, Hd.l, Int.add_sub_cancel] at *;rcases n1 with n1 | n1
    ·rw [h1] at n1; cases n1
    ·exact ⟨n1, 1, -1, by omega, by omega, by rw [<- h2]; congr 2 <;> omega⟩
   ·simp only [zae, zfg, stp, Hd.l, Int.sub_add_cancel] at *;rcases n1 with n1 | n1
    ·rw [h1] at n1; cases n1
    ·exact ⟨n1, 1, 1, by omega, by omega, by rw [<- h2]; congr 2 <;> omega⟩
   ·simp only [zae, zfg, stp, Hd.l, Int.sub_add_cancel] at *;rcases n1 with n1 | n1
    ·rw [h1] at n1; cases n1
    ·exact ⟨n1, -1, 1, by omega, by omega, by rw [<- h2]; congr 2 <;> omega⟩
 ·obtain ⟨x, y⟩ := e;rintro ⟨h1, dx, dy, hx, hy, hf⟩;simp only at hf;by_cases a1 : S ⟨x, y - 1⟩ = false
  ·exact ⟨⟨⟨x, y⟩, .e⟩, by simp [isC, zae, zfg, h1, a1], .inl rfl⟩
  by_cases a2 : S ⟨x + 1, y⟩ = false
  ·exact ⟨⟨⟨x + 1, y⟩, .n⟩, by simp [isC, zae, zfg, h1, a2], .inl (by simp [zae])⟩
  by_cases a3 : S ⟨x, y + 1⟩ = false
  ·exact ⟨⟨⟨x + 1, y + 1⟩, .w⟩, by simp [isC, zae, zfg, h1, a3], .inl (by simp [zae])⟩
  by_cases a4 : S ⟨x - 1, y⟩ = false
  ·exact ⟨⟨⟨x, y + 1⟩, .s⟩, by simp [isC, zae, zfg, h1, a4], .inl (by simp [zae])⟩
  have b1 : S ⟨x, y - 1⟩ = true := by simpa using a1
  have b2 : S ⟨x + 1, y⟩ = true := by simpa using a2
  have b3 : S ⟨x, y + 1⟩ = true := by simpa using a3
  have b4 : S ⟨x - 1, y⟩ = true := by simpa using a4
  clear a1 a2 a3 a4;have hcase : (dx = -1 /\ dy = -1) \/ (dx = 1 /\ dy = -1) \/ (dx = 1 /\ dy = 1) \/ (dx = -1 /\ dy = 1) := by
   have hx3 : dx = -1 \/ dx = 0 \/ dx = 1 := by omega
   have hy3 : dy = -1 \/ dy = 0 \/ dy = 1 := by omega
   rcases hx3 with rfl | rfl | rfl <;> rcases hy3 with rfl | rfl | rfl
   ·exact .inl ⟨rfl, rfl⟩
   ·rw [show x + -1 = x - 1 by omega, Int.add_zero, b4] at hf; cases hf
   ·exact .inr (.inr (.inr ⟨rfl, rfl⟩))
   ·rw [show y + -1 = y - 1 by omega, Int.add_zero, b1] at hf; cases hf
   ·rw [Int.add_zero, Int.add_zero, h1] at hf; cases hf
   ·rw [Int.add_zero, b3] at hf; cases hf
   ·exact .inr (.inl ⟨rfl, rfl⟩)
   ·rw [Int.add_zero, b2] at hf; cases hf
   ·exact .inr (.inr (.inl ⟨rfl, rfl⟩))
  rcases hcase with ⟨rfl, rfl⟩ | ⟨rfl, rfl⟩ | ⟨rfl, rfl⟩ | ⟨rfl, rfl⟩
  ·rw [show x + -1 = x - 1 by omega, show y + -1 = y - 1 by omega] at hf;refine ⟨⟨⟨x - 1, y⟩, .e⟩, by simp [isC, zae, zfg, b4, hf], .inr ⟨?_, by simp [Crk.q, stp, zae]⟩⟩
   show nxH S (stp .e ⟨x - 1, y⟩) .e = _
   simp [nxH, isC, zae, zfg, stp, Hd.l, Hd.r, h1, b1, b4]
  ·rw [show y + -1 = y - 1 by omega] at hf;refine ⟨⟨⟨x + 1, y - 1⟩, .n⟩, by simp [isC, zae, zfg, b1, hf], .inr ⟨?_, by simp [Crk.q, stp, zae]⟩⟩
   show nxH S (stp .n ⟨x + 1, y - 1⟩) .n = _
   simp [nxH, isC, zae, zfg, stp, Hd.l, Hd.r, h1, b1, b2]
  ·refine ⟨⟨⟨x + 1 + 1, y + 1⟩, .w⟩, by simp [isC, zae, zfg, b2, hf], .inr ⟨?_, by simp [Crk.q, stp, zae]⟩⟩
   show nxH S (stp .w ⟨x + 1 + 1, y + 1⟩) .w = _
   simp [nxH, isC, zae, zfg, stp, Hd.l, Hd.r, h1, b2, b3]
  ·rw [show x + -1 = x - 1 by omega] at hf;refine ⟨⟨⟨x, y + 1 + 1⟩, .s⟩, by simp [isC, zae, zfg, b3, hf], .inr ⟨?_, by simp [Crk.q, stp, zae]⟩⟩
   show nxH S (stp .s ⟨x, y + 1 + 1⟩) .s = _
   simp [nxH, isC, zae, zfg, stp, Hd.l, Hd.r, h1, b3, b4]
theorem ring_tracks {X : List Row} (hv : zo X = true) (hbig : (zbk X).length <= 10000) {Ls : List (List Crk)} (hL : Lps (Sof X) Ls) : (∀ L ∈ Ls, zap (zjz L) = true) /\ ∀ e, (∃ L ∈ Ls, e ∈ zcm L) ↔ e ∈ zk X /\ e ∉ zk (zkq X 1) := by
 have hS : ∀ c, Sof X c = true ↔ c ∈ zk X := fun c => (zke hv c).symm;have hq : zcy X 1 = true := by simp [zcy, hv]
 obtain ⟨_, he⟩ := zmz hq;have hone : (1 : Int).toNat = 1 := rfl;rw [hone] at he;have hfl := (zvc (zcx hv) (zeu hv) hL).length_eq;have hisC : ∀ L ∈ Ls, ∀ y ∈ L, isC (Sof X) y = true := fun L hLm y hy => by
  obtain ⟨c, n, hc, pc, rfl, _⟩ := hL.each L hLm;exact znu hc hy
 have hmem : ∀ e, (∃ L ∈ Ls, e ∈ zcm L) ↔ e ∈ zk X /\ e ∉ zk (zkq X 1) := fun e => by
  have h1 := ring_S (Sof X) e;have h2 : (∃ L ∈ Ls, e ∈ zcm L) ↔ ∃ y, isC (Sof X) y = true /\ (e = zae y.h y.p \/ ((suc (Sof X) y).h = y.h.r /\ e = zae y.h y.q)) := by
   constructor
   ·rintro ⟨L, hLm, hm⟩;obtain ⟨y, hy, hh⟩ := ((zph (hL.each L hLm)).2.2.2 e).1 hm;exact ⟨y, hisC L hLm y hy, hh⟩
   ·rintro ⟨y, hy, hh⟩;obtain ⟨L, hLm, hyL⟩ := hL.cover y hy;exact ⟨L, hLm, ((zph (hL.each L hLm)).2.2.2 e).2 ⟨y, hyL, hh⟩⟩
  rw [h2, h1, hS, he];constructor
  ·rintro ⟨g1, dx, dy, g2, g3, g4⟩;refine ⟨g1, fun ha => ?_⟩;have := (hS _).2 (ha dx dy (by omega) (by omega) (by omega) (by omega));rw [this] at g4; cases g4
  ·rintro ⟨g1, g2⟩;refine ⟨g1, ?_⟩;apply Classical.byContradiction
   intro hn;refine g2 fun dx dy q1 q2 q3 q4 => ?_;rw [<- hS];cases hc : Sof X ⟨e.x + dx, e.y + dy⟩ with
   | true => rfl
   | false => exact absurd ⟨dx, dy, ⟨by omega, by omega⟩, ⟨by omega, by omega⟩, hc⟩ hn
 refine ⟨fun L hLm => ?_, hmem⟩;obtain ⟨f1, f2, f3, _⟩ := zph (hL.each L hLm);have hlen := walkW_len L;have hml := zvp hLm;have hon : ∀ c ∈ zcm L, onG c = true := fun c hc => zeg hv ((hmem c).1 ⟨L, hLm, hc⟩).1;have hch : (List.range (zcm L).length).all (okAt (zcm L)) = true := chain_ok hon f2;unfold zap;simp only [zjz];rw [hch, Bool.and_true, Bool.and_eq_true];constructor
 ·simp only [zhy, Bool.and_eq_true, decide_eq_true_eq];omega
 ·obtain ⟨a, ha⟩ := zak (l := zcm L) (k := (zcm L).length - 1) (by omega);obtain ⟨b, hb⟩ := zak (l := zcm L) (k := 0) (by omega);have h3 := f3 a b (by rw [List.getLast?_eq_getElem?]; exact ha) (by rw [List.head?_eq_getElem?]; exact hb);simp only [zma, ha, hb, Bool.not_true, Bool.false_or, Bool.or_eq_true];rcases h3 with h3 | h3
  ·left; rw [h3]; rfl
  ·exact .inr h3

theorem take_flat_one' {α β : Type} {f : α -> List β} (h : ∀ x, (f x).length <= 1) (l : List α) (k : Nat) : ((l.take k).flatMap f).length <= l.length := by
 have key : ∀ m : List α, (m.flatMap f).length <= m.length := by
  intro m;induction m with
  | nil => simp
  | cons x m ih => have := h x; rw [List.flatMap_cons, List.length_append, List.length_cons]; omega
 have := key (l.take k);simp at this ⊢; omega
theorem swOut_len (now o : Bool) (out : List Run) (x : Int) : (zji now o out x).length <= out.length + 1 := by
 unfold zji;split
 ·simp
 ·split
  ·simp;try omega
  ·omega
theorem swF_len (f : Bool -> Bool -> Bool) (a b : List Run) : ∀ (n p q : Nat) (out : List Run) (o : Bool), (swF f a b n p q out o).length <= out.length + n
 | 0, _, _, out, _ => by simp [swF]
 | n + 1, p, q, out, o => by
  unfold swF;split
  ·omega
  ·refine Nat.le_trans (swF_len f a b n _ _ _ _) ?_;have := swOut_len (f (swP a (swX a b p q) p % 2 == 1) (swP b (swX a b p q) q % 2 == 1)) o out (swX a b p q);omega
theorem sweep_len (f : Bool -> Bool -> Bool) (a b : List Run) : (sweep f a b).length <= 2 * a.length + 2 * b.length := by
 unfold sweep;split
 ·simpa using swF_len f a b (2 * a.length + 2 * b.length) 0 0 [] false
 ·simp
theorem zrf {R : List Row} (hR : zdi R) (y : Int) : (zab R y).length <= 1000000 := by
 unfold zab;split
 ·rename_i w h; exact hR.2 w (List.mem_of_find?_eq_some h)
 ·simp
theorem opRow_len (f : Bool -> Bool -> Bool) (a b : List Row) (y : Int) : (zut f a b y).length <= 1 := by unfold zut; split <;> simp
def ysK (a b : List Row) (k : Nat) : List Int := if k = 0 then [] else if k = 1 then a.map Row.y else a.map Row.y ++ b.map Row.y

set_option maxHeartbeats 4000000 in
theorem combine_big (f : Bool -> Bool -> Bool) (hf : f false false = false) (g : FuncId) (hg : ∀ x y : List Run, x.length <= 1000000 -> y.length <= 1000000 -> zar x = true -> zar y = true -> PC Tryz.prog g [zn x, zn y] (.p (zn (sweep f x y)))) (a b : List Row) (hA : zoq a) (hB : zoq b) :
  PC Tryz.prog 126 [.agg (zt a), .agg (zt b), .fn (.func g) []] (.p (.agg (zt (opR f a b)))) := by
 have c1 := zqy a hA;have c2 := zqy b hB;have hop : opR f a b = if zo a && zo b then zuu f a b (zku (allY a b)) else [] := rfl
 cases ha : zo a with
 | false =>
  rw [ha] at c1;have h0 : opR f a b = [] := by rw [hop, ha]; simp
  rw [h0];refine pw cx Tryz.func126 Tryz.ntmps126 ?_;refine rg cx ?_;refine rx cx [(1, .p (.bool false)), (5, .skip)] (fun K hK => by simp [push_cast, c1]; (repeat refine ob ?_); exact hK) ?_;refine awp_cd true (fun hb => ?_) fun hb => ?_
  ·refine rg cx ?_;simp [push_cast]
  ·simp at hb
 | true =>
  rw [ha] at c1;cases hb0 : zo b with
  | false =>
   rw [hb0] at c2;have h0 : opR f a b = [] := by rw [hop, ha, hb0]; simp
   rw [h0];refine pw cx Tryz.func126 Tryz.ntmps126 ?_;refine rg cx ?_;refine rx cx [(1, .p (.bool true)), (5, .p (.bool false))] (fun K hK => by simp [push_cast, c1, c2]; (repeat refine ob ?_); exact hK) ?_;refine awp_cd true (fun hb => ?_) fun hb => ?_
   ·refine rg cx ?_;simp [push_cast]
   ·simp at hb
  | true =>
   rw [hb0] at c2
   replace hA := zce ha
   replace hB := zce hb0
   have hal := hA.1;have hbl := hB.1;have hon := fun ys hp hys => @opR_on f hf a b ha hb0 ys hp hys;clear hop;generalize opR f a b = res at *;refine pw cx Tryz.func126 Tryz.ntmps126 ?_;refine rg cx ?_;refine rx cx [(1, .p (.bool true)), (5, .p (.bool true))] (fun K hK => by simp [push_cast, c1, c2]; (repeat refine ob ?_); exact hK) ?_;refine awp_cd false (fun hb => ?_) fun hb => ?_
   ·simp at hb
   ·refine rg cx ?_;refine rg cx ?_;refine zz (β := Nat × List Int) (fun s => ⟨76, [(2, .d (.fn (.func g) [])), (3, .ptr 0 0 0), (4, .ptr 1 0 0), (6, .ptr 2 0 0), (7, .hs 3 0 s.2.length), (27, .d (.agg [zu a, zu b])), (28, .d (.int .i64 s.1))], [(0, some ⟨24, 1, [(zt a).map .d]⟩), (1, some ⟨24, 1, [(zt b).map .d]⟩), (2, some ⟨24, 1, [[.nl]]⟩), (3, some ⟨3, 1, dr (s.2.map zcp)⟩)], 4⟩) (fun s => s.1 <= 2 /\ s.2 = ysK a b s.1) (fun s => 2 - s.1) (0, []) ?_ ⟨by simp only; omega, by simp [ysK]⟩ ?_
    ·refine wk [(0, some 0), (1, some 1), (2, some 2), (3, none)]
    ·rintro ⟨k, Y⟩ ⟨hk, hY⟩;simp only at hk hY;refine Nav.imp ?_;have hYl : Y.length <= 2000000 := by
      rw [hY]; unfold ysK; split <;> (try split) <;> simp <;> omega
     by_cases hk2 : k < 2
     ·obtain ⟨R, hR⟩ : ∃ R, R = if k = 0 then a else b := ⟨_, rfl⟩
      have hRl : R.length <= 1000000 := by rw [hR]; split <;> omega
      have hnx : ysK a b (k + 1) = Y ++ R.map Row.y := by
       rw [hY, hR];rcases (by omega : k = 0 \/ k = 1) with rfl | rfl <;> simp [ysK]
      have hYK : Y.length + R.length <= 2000000 := by
       have : (Y ++ R.map Row.y).length <= a.length + b.length := by
        rw [<- hnx]; unfold ysK; split <;> (try split) <;> simp <;> omega
       simp at this; omega
      have e0 := wI ((k : Int) + 1);have hk2' : (k : Int) < 2 := by omega
      clear hY;apply cut_
      ·intro key;rcases (by omega : k = 0 \/ k = 1) with hk0 | hk0
       ·have hR : R = a := by rw [hR, hk0]; rfl
        refine rx cx [] (fun K hK => by simp [push_cast, hk0]; (repeat refine ob ?_); exact hK) ?_;refine awp_cn true (by simp [push_cast, hk0]) (fun hb => ?_) fun hb => ?_
        ·refine rx cx [] (fun K hK => by simp [push_cast, hk0]; (repeat refine ob ?_); exact hK) ?_;refine zby (s' := ⟨76, [(2, .d (.fn (.func g) [])), (3, .ptr 0 0 0), (4, .ptr 1 0 0), (6, .ptr 2 0 0), (7, .hs 3 0 Y.length), (9, .ptr 4 0 0), (27, .d (.agg [zu a, zu b])), (28, .d (.int .i64 k))], [(0, some ⟨24, 1, [(zt a).map .d]⟩), (1, some ⟨24, 1, [(zt b).map .d]⟩), (2, some ⟨24, 1, [[.nl]]⟩), (3, some ⟨3, 1, dr (Y.map zcp)⟩), (4, some ⟨24, 1, [(zt R).map .d]⟩)], 5⟩) ?_ key.h;refine wq [(0, some 0), (1, some 1), (2, some 2), (3, some 3), (4, some 6)] (by simp [upT, upH, upR, upL, up, push_cast, hk0, hR])
        ·simp at hb
       ·have hR : R = b := by rw [hR, hk0]; rfl
        refine rx cx [] (fun K hK => by simp [push_cast, hk0]; (repeat refine ob ?_); exact hK) ?_;refine awp_cn true (by simp [push_cast, hk0]) (fun hb => ?_) fun hb => ?_
        ·refine rx cx [] (fun K hK => by simp [push_cast, hk0]; (repeat refine ob ?_); exact hK) ?_;refine zby (s' := ⟨76, [(2, .d (.fn (.func g) [])), (3, .ptr 0 0 0), (4, .ptr 1 0 0), (6, .ptr 2 0 0), (7, .hs 3 0 Y.length), (9, .ptr 4 0 0), (27, .d (.agg [zu a, zu b])), (28, .d (.int .i64 k))], [(0, some ⟨24, 1, [(zt a).map .d]⟩), (1, some ⟨24, 1, [(zt b).map .d]⟩), (2, some ⟨24, 1, [[.nl]]⟩), (3, some ⟨3, 1, dr (Y.map zcp)⟩), (4, some ⟨24, 1, [(zt R).map .d]⟩)], 5⟩) ?_ key.h;refine wq [(0, some 0), (1, some 1), (2, some 2), (3, some 3), (4, some 6)] (by simp [upT, upH, upR, upL, up, push_cast, hk0, hR])
        ·simp at hb
      ·refine Nav.imp ?_;refine rg cx ?_;refine zz (β := Nat × List Int) (fun s => ⟨76, [(2, .d (.fn (.func g) [])), (3, .ptr 0 0 0), (4, .ptr 1 0 0), (6, .ptr 2 0 0), (7, .hs 3 0 s.2.length), (27, .d (.agg [zu a, zu b])), (28, .d (.int .i64 k)), (32, .d (zu R)), (33, .d (.int .i64 R.length)), (34, .d (.int .i64 s.1))], [(0, some ⟨24, 1, [(zt a).map .d]⟩), (1, some ⟨24, 1, [(zt b).map .d]⟩), (2, some ⟨24, 1, [[.nl]]⟩), (3, some ⟨3, 1, dr (s.2.map zcp)⟩)], 4⟩) (fun s => s.1 <= R.length /\ s.2 = Y ++ (R.take s.1).map Row.y) (fun s => R.length - s.1) (0, Y) ?_ ⟨Nat.zero_le _, by simp⟩ ?_
       ·refine wk [(0, some 0), (1, some 1), (2, some 2), (3, some 3)]
       ·rintro ⟨j, Z⟩ ⟨hj, hZ⟩;simp only at hj hZ;refine Nav.imp ?_;refine rg cx ?_;refine awp_cd (decide ((j : Int) < R.length)) (fun hb => ?_) fun hb => ?_
        ·have hjl : j < R.length := by simpa using hb
         obtain ⟨w, hw⟩ := zak hjl;have e1 := wI ((j : Int) + 1);have hZl : Z.length <= 2000000 := by rw [hZ]; simp; omega
         have hZ8 : (Z.length + 1) * 8 <= 140737488355328 := by omega
         have hnz : Y ++ (R.take (j + 1)).map Row.y = Z ++ [w.y] := by rw [zbm hw, List.map_append, hZ]; simp
         obtain ⟨wy, wr⟩ := w;simp only at hnz;refine rx cx [] (fun K hK => by simp [push_cast, hw, Row.row]; (repeat refine ob ?_); exact hK) ?_;refine rx cx [] (fun K hK => by simp [push_cast, hZ8, Row.row]; (repeat refine ob ?_); exact hK) ?_;refine rx cx [] (fun K hK => by simp [push_cast, e1]; (repeat refine ob ?_); exact hK) ?_;refine ⟨(j + 1, Z ++ [wy]), ⟨hjl, hnz.symm⟩, by simp only; omega, ?_⟩;refine wk [(0, some 0), (1, some 1), (2, some 2), (3, some 13)]
        ·have hjn : j = R.length := by simp at hb; omega
         subst hjn;rw [List.take_length, <- hnx] at hZ;refine rx cx [] (fun K hK => by simp [push_cast, e0]; (repeat refine ob ?_); exact hK) ?_;refine ⟨(k + 1, Z), ⟨by simp only; omega, hZ⟩, by simp only; omega, ?_⟩;refine wk [(0, some 0), (1, some 1), (2, some 2), (3, some 3)]
     ·have hk2 : k = 2 := by omega
      subst hk2;have hY : Y = a.map Row.y ++ b.map Row.y := by rw [hY]; simp [ysK]
      have d1 := sortInts_px Y (by omega);have hsrt : (Y.mergeSort fun x y => decide (x <= y)) = allY a b := by rw [hY]; rfl
      rw [hsrt] at d1;have hsl : (allY a b).length = Y.length := by rw [<- hsrt]; exact List.length_mergeSort Y
      have d2 := compactInts_px (allY a b) (by omega);obtain ⟨q1, q2⟩ := compact_sorted (allY_le a b);have hcl := Go.Lib.compact_length_le (allY a b);have hres := hon (Go.Lib.compact (allY a b)) q1 (fun w hw => by
       rw [q2, (allY_perm a b).mem_iff, List.mem_append];rcases hw with h | h
       ·exact .inl (List.mem_map_of_mem h)
       ·exact .inr (List.mem_map_of_mem h))
      clear hon q1 q2 hsrt hY;generalize allY a b = S at *;generalize hC : Go.Lib.compact S = C at *;generalize hZs : List.replicate (S.length - C.length) (0 : Int) = Zs at *;have htk : List.take C.length ((C ++ Zs).map zcp) = C.map zcp := by rw [List.map_append, List.take_left' (by simp)]
      have hCl : C.length <= 2000000 := by omega
      have hCle : C.length <= (C ++ Zs).length := by simp
      generalize hE : C ++ Zs = E at *;refine rg cx ?_;refine awp_cd false (fun hb => ?_) fun hb => ?_
      ·simp at hb
      ·refine rx cx [(1, .x ⟨[(0, 3)], [.hs 0 0 Y.length], [(0, ⟨3, 1, dr (Y.map zcp)⟩)], [(0, 0)], none, [(0, ⟨3, 1, dr (S.map zcp)⟩)], .tup []⟩)] (fun K hK => by simp [push_cast, d1]; (repeat refine ob ?_); exact hK) ?_;rw [<- hsl];refine rg cx ?_;refine rx cx [(1, .x ⟨[(0, 3)], [.hs 0 0 S.length], [(0, ⟨3, 1, dr (S.map zcp)⟩)], [(0, 0)], none, [(0, ⟨3, 1, dr (E.map zcp)⟩)], .hs 0 0 C.length⟩)] (fun K hK => by simp [push_cast, d2]; (repeat refine ob ?_); exact hK) ?_;refine zaf 3 (E.map zcp) rfl (by simp [push_cast, htk]) fun K hK => ?_;simp [push_cast, St.fz, fzT, fzH, fzO, fz, fzL, fzR, zbc, zat, zas, zaq, htk];refine nx hK ?_; clear hK K;refine zz (β := Nat × List Row) (fun s => ⟨76, [(2, .d (.fn (.func g) [])), (3, .ptr 0 0 0), (4, .ptr 1 0 0), (6, .ptr 2 0 0), (12, .ptr 3 0 0), (48, .d (.sl (C.map zcp))), (49, .d (.int .i64 C.length)), (50, .d (.int .i64 s.1))], [(0, some ⟨24, 1, [(zt a).map .d]⟩), (1, some ⟨24, 1, [(zt b).map .d]⟩), (2, some ⟨24, 1, [[.nl]]⟩), (3, some ⟨24, 1, [[.hs 4 0 s.2.length]]⟩), (4, some ⟨65, 2, dr (s.2.map Row.row)⟩)], 5⟩) (fun s => s.1 <= C.length /\ s.2 = zuu f a b (C.take s.1)) (fun s => C.length - s.1) (0, []) ?_ ⟨Nat.zero_le _, by simp [zuu]⟩ ?_
       ·refine wq [(0, some 0), (1, some 1), (2, some 2), (3, some 7), (4, none)] (by simp [upT, upH, upR, upL, up, push_cast, hCle])
       ·rintro ⟨k, Z⟩ ⟨hk, hZ⟩;simp only at hk hZ;refine Nav.imp ?_;refine rg cx ?_;refine awp_cd (decide ((k : Int) < C.length)) (fun hb => ?_) fun hb => ?_
        ·have hlt : k < C.length := by simpa using hb
         obtain ⟨y, hy⟩ := zak hlt;have e0 := wI ((k : Int) + 1);have hnx : zuu f a b (C.take (k + 1)) = Z ++ zut f a b y := by rw [hZ]; unfold zuu; rw [zdr _ hy]
         have hZl : Z.length <= 2000000 := by
          have : Z.length <= C.length := by rw [hZ]; exact take_flat_one' (opRow_len f a b) C k
          omega
         have hZ32 : (Z.length + 1) * 32 <= 140737488355328 := by omega
         have g1 := row_ok a y hA ha;have g2 := row_ok b y hB hb0;have g3 := hg (zab a y) (zab b y) (zrf hA y) (zrf hB y) (zed ha y) (zed hb0 y);have hl1 := zrf hA y;have hl2 := zrf hB y;have hsl2 := sweep_len f (zab a y) (zab b y);have g4 := cloneR_ok (sweep f (zab a y) (zab b y)) (by omega);have hor : zut f a b y = if sweep f (zab a y) (zab b y) = [] then [] else [⟨y, sweep f (zab a y) (zab b y)⟩] := rfl
         rw [hor] at hnx;clear hor hl1 hl2 hsl2;generalize sweep f (zab a y) (zab b y) = r at *;generalize zab a y = ra at *;generalize zab b y = rb at *;refine rx cx [] (fun K hK => by simp [push_cast, hy]; (repeat refine ob ?_); exact hK) ?_;refine rd cx mixed [(3, .p (zn ra)), (6, .p (zn rb)), (7, .p (zn r))] (fun K hK => by simp [push_cast, g1, g2, g3]; (repeat refine ob ?_); exact hK) ?_;refine rg cx ?_;refine awp_cd (decide (0 < (r.length : Int))) (fun hb => ?_) fun hb => ?_
         ·have hb : 0 < r.length := by simp at hb; omega
          have hne : r ≠ [] := List.length_pos_iff.1 hb;rw [if_neg hne] at hnx;refine rd cx mixed [(4, .f (zn r))] (fun K hK => by simp [push_cast, g4, hZ32]; (repeat refine ob ?_); exact hK) ?_;refine rx cx [] (fun K hK => by simp [push_cast, e0]; (repeat refine ob ?_); exact hK) ?_;refine ⟨(k + 1, Z ++ [⟨y, r⟩]), ⟨hlt, hnx.symm⟩, by simp only; omega, ?_⟩;refine wq [(0, some 0), (1, some 1), (2, some 2), (3, some 3), (4, some 28)] (by simp [upT, upH, upR, upL, up, push_cast, Row.row])
         ·have hb : r = [] := by simpa using hb
          rw [if_pos hb, List.append_nil] at hnx;refine rx cx [] (fun K hK => by simp [push_cast, e0]; (repeat refine ob ?_); exact hK) ?_;refine ⟨(k + 1, Z), ⟨hlt, hnx.symm⟩, by simp only; omega, ?_⟩;refine wq [(0, some 0), (1, some 1), (2, some 2), (3, some 3), (4, some 4)] (by simp [upT, upH, upR, upL, up, push_cast, Row.row])
        ·have hge : k = C.length := by simp at hb; omega
         subst hge;rw [List.take_length, hres] at hZ;subst hZ;refine zaf 4 (Z.map Row.row) rfl (by simp [push_cast, Row.row]) fun K hK => ?_;simp [push_cast, St.fz, fzT, fzH, fzO, fz, fzL, fzR, zbc, zat, zas, zaq, Row.row];refine nx hK ?_; clear hK K;refine rg cx ?_;simp [push_cast]

theorem unionR_big (a b : List Row) (hA : zoq a) (hB : zoq b) : PC Tryz.prog 65 [.agg (zt a), .agg (zt b)] (.p (.agg (zt (opR fU a b)))) := by
 have c1 := combine_big fU rfl 62 (fun x y h1 h2 h3 h4 => union_ok x y h1 h2 h3 h4) a b hA hB;generalize opR fU a b = r at *;refine pw cx Tryz.func65 Tryz.ntmps65 ?_;refine rg cx ?_;refine rx cx [(2, .p (.agg (zt r)))] (fun K hK => by simp [push_cast, c1]; (repeat refine ob ?_); exact hK) ?_;simp [push_cast]

theorem subtractR_big (a b : List Row) (hA : zoq a) (hB : zoq b) : PC Tryz.prog 67 [.agg (zt a), .agg (zt b)] (.p (.agg (zt (opR fD a b)))) := by
 have c1 := combine_big fD rfl 56 (fun x y h1 h2 h3 h4 => zpk x y h1 h2 h3 h4) a b hA hB;generalize opR fD a b = r at *;refine pw cx Tryz.func67 Tryz.ntmps67 ?_;refine rg cx ?_;refine rx cx [(2, .p (.agg (zt r)))] (fun K hK => by simp [push_cast, c1]; (repeat refine ob ?_); exact hK) ?_;simp [push_cast]
theorem unionR_ok (a b : List Row) (hA : zdi a) (hB : zdi b) : PC Tryz.prog 65 [.agg (zt a), .agg (zt b)] (.p (.agg (zt (opR fU a b)))) := unionR_big a b (zqt hA) (zqt hB)


def zew (X : List Row) : Nat -> List Row
 | 0 => X
 | k + 1 => zkq (zew X k) 1
theorem zig {X : List Row} (hv : zo X = true) : ∀ k, zo (zew X k) = true
 | 0 => hv
 | k + 1 => ero_valid _ _
theorem ero_sub {X : List Row} (hv : zo X = true) {c : ze} (h : c ∈ zk (zkq X 1)) : c ∈ zk X := by
 have hq : zcy X 1 = true := by simp [zcy, hv]
 have := ((zmz hq).2 c).1 h 0 0 (by omega) (by omega) (by omega) (by omega);simpa using this
theorem zvt {X : List Row} (hv : zo X = true) : ∀ {k : Nat} {c : ze}, c ∈ zk (zew X k) -> c ∈ zk X
 | 0, _, h => h
 | k + 1, _, h => zvt hv (ero_sub (zig hv k) h)
theorem zlu {α : Type} [DecidableEq α] {a b : List α} (ha : a.Nodup) (h : ∀ c ∈ a, c ∈ b) : a.length <= b.length := by
 induction a generalizing b with
 | nil => simp
 | cons x t ih =>
  obtain ⟨h1, h2⟩ := List.nodup_cons.1 ha;have hx := h x (by simp);have := ih (b := b.erase x) h2 fun c hc => (List.mem_erase_of_ne (fun e => h1 (by rw [<- e]; exact hc))).2 (h c (by simp [hc]));rw [List.length_erase_of_mem hx] at this;have hp := List.length_pos_of_mem hx;simp only [List.length_cons];omega
theorem eroI_len {X : List Row} (hv : zo X = true) (k : Nat) : (zk (zew X k)).length <= (zk X).length :=
 zlu (zca (zge (zig hv k))) fun c hc => zvt hv hc
open Classical in
noncomputable def zve (X : List Row) : List (List Crk) := if h : ∃ Ls, Lps (Sof X) Ls then Classical.choose h else []
theorem zvd {X : List Row} (hv : zo X = true) : Lps (Sof X) (zve X) := by
 have h : ∃ Ls, Lps (Sof X) Ls := lps_ex (zcx hv);unfold zve;rw [dif_pos h];exact Classical.choose_spec h
noncomputable def zgq (X : List Row) : Nat -> List zm
 | 0 => []
 | k + 1 => zgq X k ++ (zve (zew X k)).map zjz
theorem znh {X : List Row} (hv : zo X = true) (hn : (zk X).length <= 300) : ∀ k, (∀ t ∈ zgq X k, zap t = true) /\ (∀ c, c ∈ tc (zgq X k) ↔ c ∈ zk X /\ c ∉ zk (zew X k)) /\ (zgq X k).length <= 1200 * k /\ (tc (zgq X k)).length <= 4800 * k
 | 0 => ⟨by simp [zgq], fun c => by simp [zgq, tc, zew], by simp [zgq], by simp [zgq, tc]⟩
 | k + 1 => by
  obtain ⟨h1, h2, h3, h4⟩ := znh hv hn k;have hvk := zig hv k;have hlk := eroI_len hv k;have hcl := collect_len hvk;obtain ⟨r1, r2⟩ := ring_tracks hvk (by omega) (zvd hvk);obtain ⟨s1, _⟩ := trace_sizes hvk (zvd hvk);have hfl := (zvc (zcx hvk) (zeu hvk) (zvd hvk)).length_eq;have htc : (tc ((zve (zew X k)).map zjz)).length <= 2 * (zve (zew X k)).flatten.length + 2 * (zve (zew X k)).length := by
   generalize zve (zew X k) = Ls;induction Ls with
   | nil => simp [tc]
   | cons L Ls ih =>
    have := walkW_len L;have e : tc ((L :: Ls).map zjz) = zcm L ++ tc (Ls.map zjz) := by simp [tc, zjz]
    rw [e, List.length_append, List.flatten_cons, List.length_append, List.length_cons];omega
  simp only [zgq];refine ⟨fun t ht => ?_, fun c => ?_, ?_, ?_⟩
  ·rcases List.mem_append.1 ht with ht | ht
   ·exact h1 t ht
   ·obtain ⟨L, hL, rfl⟩ := List.mem_map.1 ht;exact r1 L hL
  ·have e : c ∈ tc ((zve (zew X k)).map zjz) ↔ ∃ L ∈ zve (zew X k), c ∈ zcm L := by
    simp only [tc, List.mem_flatMap, List.mem_map];constructor
    ·rintro ⟨t, ⟨L, hL, rfl⟩, hc⟩; exact ⟨L, hL, hc⟩
    ·rintro ⟨L, hL, hc⟩; exact ⟨_, ⟨L, hL, rfl⟩, hc⟩
   have hdec : c ∈ zk (zkq (zew X k) 1) -> c ∈ zk (zew X k) := ero_sub hvk;have hsub : c ∈ zk (zew X k) -> c ∈ zk X := zvt hv;rw [zgw, List.mem_append, e, r2, h2]
   show _ ↔ c ∈ zk X /\ c ∉ zk (zkq (zew X k) 1)
   constructor
   ·rintro (⟨a, b⟩ | ⟨a, b⟩)
    ·exact ⟨a, fun h => b (hdec h)⟩
    ·exact ⟨hsub a, b⟩
   ·rintro ⟨a, b⟩;by_cases hq : c ∈ zk (zew X k)
    ·exact .inr ⟨hq, b⟩
    ·exact .inl ⟨a, hq⟩
  ·rw [List.length_append, List.length_map];omega
  ·rw [zgw, List.length_append];omega
noncomputable def zgv (X : List Row) (n : Nat) : List zm := (zck (zgq X n)).1
theorem wallsR_facts {X : List Row} (hv : zo X = true) (hn : (zk X).length <= 300) (n : Nat) : (∀ t ∈ zgv X n, zap t = true) /\ (tc (zgv X n)).Nodup /\ ∀ c, c ∈ tc (zgv X n) ↔ c ∈ zk X /\ c ∉ zk (zew X n) := by
 obtain ⟨h1, h2, _⟩ := znh hv hn n;obtain ⟨o1, o2, o3⟩ := once_spec (zgq X n);refine ⟨o1, o2, fun c => ?_⟩;unfold zgv;rw [o3, zlp h1, h2]
theorem cover_le (l : List zm) (k : Nat) : (zcr (l.take k)).length <= (tc l).length := by
 rcases Nat.le_total k l.length with h | h
 ·exact znc h
 ·rw [List.take_of_length_le h];have := znc (l := l) (Nat.le_refl l.length)
  rwa [List.take_length] at this
theorem once_len (l : List zm) (k : Nat) : (zck (l.take k)).1.length <= (tc l).length /\ (zck (l.take k)).2.length <= (tc l).length := by
 have hle := cover_le l k;rcases Nat.le_total k l.length with h | h
 ·obtain ⟨_, _, _, _, h5, h6⟩ := zkj l k h;omega
 ·rw [List.take_of_length_le h] at hle ⊢;obtain ⟨_, _, _, _, h5, h6⟩ := zkj l l.length (Nat.le_refl _);rw [List.take_length] at h5 h6;omega
theorem opU_empty {X : List Row} (hv : zo X = true) : opR fU X [] = X := by
 obtain ⟨h1, h2⟩ := opR_facts (f := fU) rfl hv (b := []) rfl;refine region_uniq h1 hv fun c => ?_;have := h2 c;have e : c ∈ zk ([] : List Row) ↔ False := by simp [zk]
 simp only [fU, e, decide_false, Bool.or_false] at this;exact decide_eq_decide.1 this
set_option maxHeartbeats 8000000 in
theorem walls_ok (X : List Row) (hv : zo X = true) (hn : (zk X).length <= 300) (n : Int) (hn8 : n <= 8) (hnl : -9223372036854775808 <= n) : PC Tryz.prog 22 [.agg (zt X), .int .i64 n] (.p (.tup [zah (zgv X n.toNat), .agg (zt (zew X n.toNat))])) := by
 have hX := zce hv;have c0 := zpj X hX;rw [hv] at c0;have c1 : PC Tryz.prog 65 [.agg (zt X), .agg [.sl []]] (.p (.agg (zt (opR fU X [])))) := unionR_ok X [] hX (zce rfl);rw [opU_empty hv] at c1;have hvk := zig hv;have c2 : ∀ k, PC Tryz.prog 69 [.agg (zt (zew X k))] (.p (zah ((zve (zew X k)).map zjz))) := fun k => by
  have := collect_len (hvk k);have := eroI_len hv k;exact rWalk_ok _ (hvk k) (zce (hvk k)) (by omega) _ (zvd (hvk k))
 have c3 : ∀ k, k < 8 -> PC Tryz.prog 68 [zah (zgq X k), zah ((zve (zew X k)).map zjz)] (.p (zah (zgq X (k + 1)))) := fun k hk => by
  have h := (znh hv hn (k + 1)).2.2.1;simp only [zgq, List.length_append] at h;exact joined_ok _ _ (by omega)
 have c4 : ∀ k, PC Tryz.prog 70 [.agg (zt (zew X k)), .int .i64 1] (.p (.agg (zt (zew X (k + 1))))) := fun k => erode_ok _ 1 (zqt (zce (hvk k)));have hN8 : n.toNat <= 8 := by omega
 have c5 : PC Tryz.prog 25 [zah (zgq X n.toNat)] (.p (zah (zgv X n.toNat))) := by
  obtain ⟨h1, _, h3, h4⟩ := znh hv hn n.toNat;have hl := once_len (zgq X n.toNat);exact once_ok _ (fun t ht => (zgh (h1 t ht)).2.1.2) (by omega) (fun k => by have := (hl k).1; omega) (fun k => by have := (hl k).2; omega)
 have hmx : max n 0 = ((n.toNat : Nat) : Int) := by omega
 have hmn : min ((n.toNat : Nat) : Int) 64 = ((n.toNat : Nat) : Int) := by omega
 have hA0 : zgq X 0 = [] := rfl;have hE0 : zew X 0 = X := rfl;generalize zgv X n.toNat = WR at *;generalize hN : n.toNat = N at *;generalize hWA : zgq X = WA at *;generalize hEI : zew X = EI at *;refine pw cx Tryz.func22 Tryz.ntmps22 ?_;refine rg cx ?_;refine rx cx [(1, .p (.bool true))] (fun K hK => by simp [push_cast, c0]; (repeat refine ob ?_); exact hK) ?_;refine awp_cd false (fun hb => ?_) fun hb => ?_
 ·simp at hb
 ·refine rg cx ?_;refine rx cx [(2, .p (.agg (zt X)))] (fun K hK => by simp [push_cast, c1]; (repeat refine ob ?_); exact hK) ?_;refine rx cx [] (fun K hK => by simp [push_cast, hmx, hmn]; (repeat refine ob ?_); exact hK) ?_;refine zby (s' := ⟨30, [(5, .ptr 0 0 0), (7, .ptr 1 0 0), (6, .hs 2 0 0), (17, .d (.int .i64 N)), (18, .d (.int .i64 0))], [(0, some ⟨24, 1, [[.nl]]⟩), (1, some ⟨24, 1, [[.d (zu X)]]⟩), (2, some ⟨94, 3, dr (([] : List zm).map zm.row)⟩)], 3⟩) ?_ ?_
  ·refine wk [(0, some 2), (1, some 10), (2, none)]
  refine zaf 2 (([] : List zm).map zm.row) rfl (by simp [push_cast]) fun K hK => ?_;simp [push_cast, St.fz, fzT, fzH, fzO, fz, fzL, fzR, zbc, zat, zas, zaq];refine nx hK ?_; clear hK K;refine zz (β := Nat) (fun i => ⟨30, [(5, .ptr 0 0 0), (7, .ptr 1 0 0), (6, .d (zah (WA i))), (17, .d (.int .i64 N)), (18, .d (.int .i64 i))], [(0, some ⟨24, 1, [[.nl]]⟩), (1, some ⟨24, 1, [[.d (zu (EI i))]]⟩)], 2⟩) (fun i => i <= N) (fun i => N - i) 0 ?_ (Nat.zero_le _) ?_
  ·refine wq [(0, some 0), (1, some 1)] (by simp [upT, upH, upR, upL, up, push_cast, hA0, hE0])
  ·intro i hi;refine Nav.imp ?_;refine rg cx ?_;refine awp_cd (decide ((i : Int) < N)) (fun hb => ?_) fun hb => ?_
   ·have hlt : i < N := by simpa using hb
    have e0 := wI ((i : Int) + 1);have d2 := c2 i;have d3 := c3 i (by omega);have d4 := c4 i;generalize (zve (EI i)).map zjz = wkk at *;refine rx cx [(2, .p (zah wkk)), (3, .p (zah (WA (i + 1))))] (fun K hK => by simp [push_cast, d2, d3]; (repeat refine ob ?_); exact hK) ?_;refine rx cx [(1, .p (.agg (zt (EI (i + 1)))))] (fun K hK => by simp [push_cast, d4]; (repeat refine ob ?_); exact hK) ?_;refine rx cx [] (fun K hK => by simp [push_cast, e0]; (repeat refine ob ?_); exact hK) ?_;refine ⟨i + 1, hlt, by omega, ?_⟩;refine wk [(0, some 0), (1, some 1)]
   ·have hie : i = N := by simp at hb; omega
    subst hie;refine rd cx mixed [(1, .p (zah WR))] (fun K hK => by simp [push_cast, c5]; (repeat refine ob ?_); exact hK) ?_;simp [push_cast]
end Go.Proofs.YtdddknniooimmaaGreat

namespace Go.Proofs.YtdddknniooimmaaGreat
open Go.Abs

def zpe (w : Row) : Int := match w.runs[0]? with | some r => r.a | none => 0
def znz (w : Row) : Int := match w.runs[w.runs.length - 1]? with | some r => r.b | none => 0
def zlv (R : List Row) : Int := R.foldl (fun m w => min m (zpe w)) 4096
def zgb (R : List Row) : Int := R.foldl (fun m w => max m (znz w - 1)) (-4096)
def zgm (R : List Row) : Int := match R[0]? with | some w => w.y | none => 0
def zjm (R : List Row) : Int := match R[R.length - 1]? with | some w => w.y | none => 0
def some? (R : List Row) : Bool := zo R && decide (0 < R.length)
def zhk (R : List Row) : ze := if some? R then ⟨zlv R, zgm R⟩ else ⟨0, 0⟩
def zhl (R : List Row) : ze := if some? R then ⟨zgb R, zjm R⟩ else ⟨0, 0⟩
abbrev boxD (R : List Row) : D := .tup [.agg (zhk R).row, .agg (zhl R).row, .bool (some? R)]

theorem lowX_take {R : List Row} {k : Nat} {w : Row} (h : R[k]? = some w) : zlv (R.take (k + 1)) = min (zlv (R.take k)) (zpe w) := by simp [zlv, zbm h]
theorem highX_take {R : List Row} {k : Nat} {w : Row} (h : R[k]? = some w) : zgb (R.take (k + 1)) = max (zgb (R.take k)) (znz w - 1) := by simp [zgb, zbm h]
theorem zvm {α : Type} (f : α -> Int) : ∀ (l : List α) (m : Int), l.foldl (fun m w => min m (f w)) m <= m /\ (∀ w ∈ l, l.foldl (fun m w => min m (f w)) m <= f w) /\ ∀ b, b <= m -> (∀ w ∈ l, b <= f w) -> b <= l.foldl (fun m w => min m (f w)) m
 | [], m => by simp
 | x :: l, m => by
  obtain ⟨h1, h2, h3⟩ := zvm f l (min m (f x));simp only [List.foldl_cons];refine ⟨by omega, fun w hw => ?_, fun b hb hl => ?_⟩
  ·rcases List.mem_cons.1 hw with rfl | hw
   ·omega
   ·exact h2 w hw
  ·have := hl x (by simp);exact h3 b (by omega) fun w hw => hl w (by simp [hw])
theorem zvn {α : Type} (f : α -> Int) : ∀ (l : List α) (m : Int), m <= l.foldl (fun m w => max m (f w)) m /\ (∀ w ∈ l, f w <= l.foldl (fun m w => max m (f w)) m) /\ ∀ b, m <= b -> (∀ w ∈ l, f w <= b) -> l.foldl (fun m w => max m (f w)) m <= b
 | [], m => by simp
 | x :: l, m => by
  obtain ⟨h1, h2, h3⟩ := zvn f l (max m (f x));simp only [List.foldl_cons];refine ⟨by omega, fun w hw => ?_, fun b hb hl => ?_⟩
  ·rcases List.mem_cons.1 hw with rfl | hw
   ·omega
   ·exact h2 w hw
  ·have := hl x (by simp);exact h3 b (by omega) fun w hw => hl w (by simp [hw])
theorem row_ends0 {w : Row} (h : zel w.runs = true) : (∀ r ∈ w.runs, zpe w <= r.a /\ r.b <= znz w) /\ -4096 <= zpe w /\ zpe w < znz w /\ znz w <= 4096 := by
 obtain ⟨f, z, hf, hz, hf1, hz1, hl⟩ := zmv h;have e1 : zpe w = f.a := by simp [zpe, hf]
 have e2 : znz w = z.b := by simp [znz, hz]
 rw [e1, e2];have key : ∀ r ∈ w.runs, f.a <= r.a /\ r.b <= z.b := fun r hr => by
  obtain ⟨k, hk, rfl⟩ := List.mem_iff_getElem.1 hr;have hk' := List.getElem?_eq_getElem hk;exact ⟨(zkd (zhg h) k 0 _ f (Nat.zero_le _) hf hk').1, (zkd (zhg h) (w.runs.length - 1) k z _ (by omega) hk' hz).2⟩
 have := key f (List.mem_of_getElem? hf);exact ⟨key, by omega, by omega, by omega⟩
theorem rows_ends {R : List Row} (hv : zo R = true) {w : Row} (hw : w ∈ R) : zgm R <= w.y /\ w.y <= zjm R := by
 obtain ⟨k, hk, rfl⟩ := List.mem_iff_getElem.1 hw;have hp := List.pairwise_iff_getElem.1 (zlf hv);have e1 : zgm R = R[0].y := by simp [zgm, List.getElem?_eq_getElem (show 0 < R.length by omega)]
 have e2 : zjm R = R[R.length - 1].y := by simp [zjm, List.getElem?_eq_getElem (show R.length - 1 < R.length by omega)]
 rw [e1, e2];constructor
 ·rcases Nat.eq_zero_or_pos k with h | h
  ·subst h; exact Int.le_refl _
  ·exact Int.le_of_lt (hp 0 k (by omega) hk h)
 ·rcases Nat.lt_or_eq_of_le (show k <= R.length - 1 by omega) with h | h
  ·exact Int.le_of_lt (hp k (R.length - 1) hk (by omega) h)
  ·subst h; exact Int.le_refl _

set_option maxHeartbeats 1000000 in
theorem box_ok (R : List Row) (hR : zdi R) : PC Tryz.prog 57 [.agg (zt R)] (.p (boxD R)) := by
 have c1 := zpj R hR;have hl := hR.1;have hB : boxD R = .tup [.agg (zhk R).row, .agg (zhl R).row, .bool (some? R)] := rfl;rw [hB];by_cases hsm : some? R = true
 ·have hlo : zhk R = ⟨zlv R, zgm R⟩ := by simp [zhk, hsm]
  have hhi : zhl R = ⟨zgb R, zjm R⟩ := by simp [zhl, hsm]
  rw [hlo, hhi, hsm];clear hlo hhi hB;simp only [some?, Bool.and_eq_true, decide_eq_true_eq] at hsm;obtain ⟨hv, hpos⟩ := hsm;rw [hv] at c1;obtain ⟨w0, hw0⟩ : ∃ w, R[0]? = some w := zak hpos;obtain ⟨w1, hw1⟩ : ∃ w, R[R.length - 1]? = some w := zak (by omega);have hy0 : zgm R = w0.y := by simp [zgm, hw0]
  have hy1 : zjm R = w1.y := by simp [zjm, hw1]
  rw [hy0, hy1];clear hy0 hy1;have e1 := wI ((R.length : Int) - 1);have e2 : ((R.length : Int) - 1).toNat = R.length - 1 := by omega
  have e3 : (0 : Int) <= (R.length : Int) - 1 := by omega
  have e4 : ((R.length : Int) == 0) = false := by simp; rintro rfl; simp at hpos
  obtain ⟨y0, r0⟩ := w0;obtain ⟨y1, r1⟩ := w1;refine pw cx Tryz.func57 Tryz.ntmps57 ?_;refine rg cx ?_;refine rx cx [(1, .p (.bool true))] (fun K hK => by simp [push_cast, c1]; (repeat refine ob ?_); exact hK) ?_;refine awp_cn false (by simp [push_cast, e4]) (fun hb => ?_) fun hb => ?_
  ·simp at hb
  ·refine rx cx [] (fun K hK => by simp [push_cast, hw0, Row.row]; (repeat refine ob ?_); exact hK) ?_;refine rx cx [] (fun K hK => by simp [push_cast, hw1, e1, e2, e3, Row.row]; (repeat refine ob ?_); exact hK) ?_;refine rg cx ?_;refine zz (β := Nat × Int × Int) (fun b => ⟨69, [(2, .ptr 0 0 0), (3, .ptr 1 0 0), (4, .d (.bool false)), (5, .ptr 2 0 0), (6, .ptr 3 0 0), (37, .d (zu R)), (38, .d (.int .i64 R.length)), (39, .d (.int .i64 b.1))], [(0, some ⟨67, 2, [[.d (.int .i64 0), .d (.int .i64 0)]]⟩), (1, some ⟨67, 2, [[.d (.int .i64 0), .d (.int .i64 0)]]⟩), (2, some ⟨67, 2, [[.d (.int .i64 b.2.1), .d (.int .i64 y0)]]⟩), (3, some ⟨67, 2, [[.d (.int .i64 b.2.2), .d (.int .i64 y1)]]⟩)], 4⟩) (fun b => b.1 <= R.length /\ b.2.1 = zlv (R.take b.1) /\ b.2.2 = zgb (R.take b.1)) (fun b => R.length - b.1) (0, 4096, -4096) ?_ ⟨Nat.zero_le _, by simp [zlv], by simp [zgb]⟩ ?_
   ·refine wk [(0, some 1), (1, some 2), (2, some 19), (3, some 31)]
   ·rintro ⟨k, a, b⟩ ⟨hk, ha, hb'⟩;simp only at hk ha hb';refine Nav.imp ?_;refine rg cx ?_;refine awp_cd (decide ((k : Int) < R.length)) (fun hb => ?_) fun hb => ?_
    ·have hlt : k < R.length := by simpa using hb
     obtain ⟨w, hw⟩ := zak hlt;have f1 := lowX_take hw;have f2 := highX_take hw;rw [<- ha] at f1;rw [<- hb'] at f2;have e0 := wI ((k : Int) + 1);obtain ⟨f, z, hf, hz, q1, q2, q3⟩ := zmv (zcq hv hw).2;have g1 : zpe w = f.a := by simp [zpe, hf]
     have g2 : znz w = z.b := by simp [znz, hz]
     have hwl := hR.2 w (List.mem_of_getElem? hw);rw [g1] at f1;rw [g2] at f2;obtain ⟨wy, wr⟩ := w;obtain ⟨fa, fb⟩ := f;obtain ⟨za, zb⟩ := z;simp only at hf hz q1 q2 q3 f1 f2 hwl;have d1 := wI ((wr.length : Int) - 1);have d2 : ((wr.length : Int) - 1).toNat = wr.length - 1 := by omega
     have d3 : (0 : Int) <= (wr.length : Int) - 1 := by omega
     have d4 := wI (zb - 1);refine rx cx [] (fun K hK => by simp [push_cast, hw, Row.row]; (repeat refine ob ?_); exact hK) ?_;refine rd cx mixed [] (fun K hK => by simp [push_cast, hf, Row.row, Run.row]; (repeat refine ob ?_); exact hK) ?_;refine rd cx mixed [] (fun K hK => by simp [push_cast, hz, d1, d2, d3, d4, Row.row, Run.row]; (repeat refine ob ?_); exact hK) ?_;refine rx cx [] (fun K hK => by simp [push_cast, e0]; (repeat refine ob ?_); exact hK) ?_;refine ⟨(k + 1, min a fa, max b (zb - 1)), ⟨hlt, f1.symm, f2.symm⟩, by simp only; omega, ?_⟩;refine wk [(0, some 0), (1, some 1), (2, some 2), (3, some 3)]
    ·have hge : k = R.length := by simp at hb; omega
     subst hge;rw [List.take_length] at ha hb';subst ha hb';refine rd cx mixed [] (fun K hK => by simp [push_cast]; (repeat refine ob ?_); exact hK) ?_;simp [push_cast]
 ·have hlo : zhk R = ⟨0, 0⟩ := by simp [zhk, hsm]
  have hhi : zhl R = ⟨0, 0⟩ := by simp [zhl, hsm]
  rw [hlo, hhi, Bool.eq_false_iff.2 hsm];generalize hv : zo R = v at *;have hnil : v = true -> R = [] := fun h => by
   rw [h] at hv;cases R with
   | nil => rfl
   | cons a l => exact absurd (by simp [some?, hv]) hsm
  refine pw cx Tryz.func57 Tryz.ntmps57 ?_;refine rg cx ?_;cases v with
  | false =>
   refine rx cx [(1, .p (.bool false))] (fun K hK => by simp [push_cast, c1]; (repeat refine ob ?_); exact hK) ?_;refine awp_cd true (fun hb => ?_) fun hb => ?_
   ·refine rg cx ?_;simp [push_cast]
   ·simp at hb
  | true =>
   have := hnil rfl;subst this;refine rx cx [(1, .p (.bool true))] (fun K hK => by simp [push_cast, c1]; (repeat refine ob ?_); exact hK) ?_;refine awp_cd true (fun hb => ?_) fun hb => ?_
   ·refine rg cx ?_;simp [push_cast]
   ·simp at hb

set_option maxHeartbeats 1000000 in
theorem rbox_ok (R : List Row) (hR : zdi R) : PC Tryz.prog 45 [.agg (zt R)] (.p (boxD R)) := by
 have c1 := validR_ok R hR;have hl := hR.1;have hB : boxD R = .tup [.agg (zhk R).row, .agg (zhl R).row, .bool (some? R)] := rfl;rw [hB];by_cases hsm : some? R = true
 ·have hlo : zhk R = ⟨zlv R, zgm R⟩ := by simp [zhk, hsm]
  have hhi : zhl R = ⟨zgb R, zjm R⟩ := by simp [zhl, hsm]
  rw [hlo, hhi, hsm];clear hlo hhi hB;simp only [some?, Bool.and_eq_true, decide_eq_true_eq] at hsm;obtain ⟨hv, hpos⟩ := hsm;rw [hv] at c1;obtain ⟨w0, hw0⟩ : ∃ w, R[0]? = some w := zak hpos;obtain ⟨w1, hw1⟩ : ∃ w, R[R.length - 1]? = some w := zak (by omega);have hy0 : zgm R = w0.y := by simp [zgm, hw0]
  have hy1 : zjm R = w1.y := by simp [zjm, hw1]
  rw [hy0, hy1];clear hy0 hy1;have e1 := wI ((R.length : Int) - 1);have e2 : ((R.length : Int) - 1).toNat = R.length - 1 := by omega
  have e3 : (0 : Int) <= (R.length : Int) - 1 := by omega
  have e4 : ((R.length : Int) == 0) = false := by simp; rintro rfl; simp at hpos
  obtain ⟨y0, r0⟩ := w0;obtain ⟨y1, r1⟩ := w1;refine pw cx Tryz.func45 Tryz.ntmps45 ?_;refine rg cx ?_;refine rx cx [(1, .p (.bool true))] (fun K hK => by simp [push_cast, c1]; (repeat refine ob ?_); exact hK) ?_;refine awp_cn false (by simp [push_cast, e4]) (fun hb => ?_) fun hb => ?_
  ·simp at hb
  ·refine rx cx [] (fun K hK => by simp [push_cast, hw0, Row.row]; (repeat refine ob ?_); exact hK) ?_;refine rx cx [] (fun K hK => by simp [push_cast, hw1, e1, e2, e3, Row.row]; (repeat refine ob ?_); exact hK) ?_;refine rg cx ?_;refine zz (β := Nat × Int × Int) (fun b => ⟨71, [(1, .ptr 4 0 0), (2, .ptr 0 0 0), (3, .ptr 1 0 0), (4, .d (.bool false)), (5, .ptr 2 0 0), (6, .ptr 3 0 0), (7, .d (.int .i64 b.1))], [(0, some ⟨67, 2, [[.d (.int .i64 0), .d (.int .i64 0)]]⟩), (1, some ⟨67, 2, [[.d (.int .i64 0), .d (.int .i64 0)]]⟩), (2, some ⟨67, 2, [[.d (.int .i64 b.2.1), .d (.int .i64 y0)]]⟩), (3, some ⟨67, 2, [[.d (.int .i64 b.2.2), .d (.int .i64 y1)]]⟩), (4, some ⟨24, 1, [(zt R).map .d]⟩)], 5⟩) (fun b => b.1 <= R.length /\ b.2.1 = zlv (R.take b.1) /\ b.2.2 = zgb (R.take b.1)) (fun b => R.length - b.1) (0, 4096, -4096) ?_ ⟨Nat.zero_le _, by simp [zlv], by simp [zgb]⟩ ?_
   ·refine wk [(0, some 1), (1, some 2), (2, some 19), (3, some 31), (4, some 0)]
   ·rintro ⟨k, a, b⟩ ⟨hk, ha, hb'⟩;simp only at hk ha hb';refine Nav.imp ?_;refine rg cx ?_;refine awp_cd (decide ((k : Int) < R.length)) (fun hb => ?_) fun hb => ?_
    ·have hlt : k < R.length := by simpa using hb
     obtain ⟨w, hw⟩ := zak hlt;have f1 := lowX_take hw;have f2 := highX_take hw;rw [<- ha] at f1;rw [<- hb'] at f2;have e0 := wI ((k : Int) + 1);obtain ⟨f, z, hf, hz, q1, q2, q3⟩ := zmv (zcq hv hw).2;have g1 : zpe w = f.a := by simp [zpe, hf]
     have g2 : znz w = z.b := by simp [znz, hz]
     have hwl := hR.2 w (List.mem_of_getElem? hw);rw [g1] at f1;rw [g2] at f2;obtain ⟨wy, wr⟩ := w;obtain ⟨fa, fb⟩ := f;obtain ⟨za, zb⟩ := z;simp only at hf hz q1 q2 q3 f1 f2 hwl;have d1 := wI ((wr.length : Int) - 1);have d2 : ((wr.length : Int) - 1).toNat = wr.length - 1 := by omega
     have d3 : (0 : Int) <= (wr.length : Int) - 1 := by omega
     have d4 := wI (zb - 1);refine rx cx [] (fun K hK => by simp [push_cast, hw, Row.row]; (repeat refine ob ?_); exact hK) ?_;refine rd cx mixed [] (fun K hK => by simp [push_cast, hf, Row.row, Run.row]; (repeat refine ob ?_); exact hK) ?_;refine rd cx mixed [] (fun K hK => by simp [push_cast, hz, d1, d2, d3, d4, Row.row, Run.row]; (repeat refine ob ?_); exact hK) ?_;refine rx cx [] (fun K hK => by simp [push_cast, e0]; (repeat refine ob ?_); exact hK) ?_;refine ⟨(k + 1, min a fa, max b (zb - 1)), ⟨hlt, f1.symm, f2.symm⟩, by simp only; omega, ?_⟩;refine wk [(0, some 0), (1, some 1), (2, some 2), (3, some 3), (4, some 4)]
    ·have hge : k = R.length := by simp at hb; omega
     subst hge;rw [List.take_length] at ha hb';subst ha hb';refine rd cx mixed [] (fun K hK => by simp [push_cast]; (repeat refine ob ?_); exact hK) ?_;simp [push_cast]
 ·have hlo : zhk R = ⟨0, 0⟩ := by simp [zhk, hsm]
  have hhi : zhl R = ⟨0, 0⟩ := by simp [zhl, hsm]
  rw [hlo, hhi, Bool.eq_false_iff.2 hsm];generalize hv : zo R = v at *;have hnil : v = true -> R = [] := fun h => by
   rw [h] at hv;cases R with
   | nil => rfl
   | cons a l => exact absurd (by simp [some?, hv]) hsm
  refine pw cx Tryz.func45 Tryz.ntmps45 ?_;refine rg cx ?_;cases v with
  | false =>
   refine rx cx [(1, .p (.bool false))] (fun K hK => by simp [push_cast, c1]; (repeat refine ob ?_); exact hK) ?_;refine awp_cd true (fun hb => ?_) fun hb => ?_
   ·refine rg cx ?_;simp [push_cast]
   ·simp at hb
  | true =>
   have := hnil rfl;subst this;refine rx cx [(1, .p (.bool true))] (fun K hK => by simp [push_cast, c1]; (repeat refine ob ?_); exact hK) ?_;refine awp_cd true (fun hb => ?_) fun hb => ?_
   ·refine rg cx ?_;simp [push_cast]
   ·simp at hb

def zvj (K : Nat) (l : List Run) : List Run := groL l K
theorem groF_nil (K : Nat) : zvj K [] = [] := rfl
theorem dilM_get {R : List Row} (hv : zo R = true) {K : Nat} (y : Int) : zhc (zdf (zvj K) R) y = groL (zab R y) K := rowMap_get (groF_nil K) (zht.1 hv).2 y
theorem dilM_ok {R : List Row} (hv : zo R = true) {K : Nat} (hK : K <= 64) : OkM (zdf (zvj K) R) := fun y => by
 rw [dilM_get hv];rcases zdw hv y with ⟨w, hw, _, e⟩ | ⟨_, e⟩
 ·rw [e];obtain ⟨g1, g2, _⟩ := groL_facts (zbx hv hw).2 (k := K) (by omega);exact ⟨g1, g2⟩
 ·rw [e]; exact OkL.nil
theorem dilM_in {R : List Row} (hv : zo R = true) {K : Nat} (hK : K <= 64) (y x : Int) : inR (zhc (zdf (zvj K) R) y) x = true ↔ ∃ w ∈ R, w.y = y /\ ∃ r ∈ w.runs, r.a - K <= x /\ x < r.b + K := by
 rw [dilM_get hv];rcases zdw hv y with ⟨w, hw, hy, e⟩ | ⟨hn, e⟩
 ·rw [e];obtain ⟨_, _, g3⟩ := groL_facts (zbx hv hw).2 (k := K) (by omega);rw [g3];constructor
  ·intro h; exact ⟨w, hw, hy, h⟩
  ·rintro ⟨v, hv', hy', h⟩;have : v = w := rows_eq hv hv' hw (by omega);rw [<- this]; exact h
 ·rw [e];constructor
  ·intro h; simp [groL, zfi, inR] at h
  ·rintro ⟨v, hv', hy', _⟩; exact absurd hy' (hn v hv')
def zol (R : List Row) (K : Nat) (y : Int) : List Run := rowW fU (zdf (zvj K) R) y K
theorem dilRun_ok {R : List Row} (hv : zo R = true) {K : Nat} (hK : K <= 64) (y : Int) : OkL (zol R K y) := wj_ok rfl (dilM_ok hv hK) _ _
theorem dilRun_in {R : List Row} (hv : zo R = true) {K : Nat} (hK : K <= 64) (y x : Int) : inR (zol R K y) x = true ↔ nearP R K y x := by
 unfold zol rowW nearP;rw [wj_U (dilM_ok hv hK)];constructor
 ·rintro ⟨i, hi, h⟩;obtain ⟨w, hw, hy, hr⟩ := (dilM_in hv hK _ _).1 h;exact ⟨w, hw, by omega, by omega, hr⟩
 ·rintro ⟨w, hw, h1, h2, hr⟩;exact ⟨(w.y - (y - K)).toNat, by omega, (dilM_in hv hK _ _).2 ⟨w, hw, by omega, hr⟩⟩
def ysD (lo : Int) (n : Nat) : List Int := (List.range n).map fun i : Nat => lo + i
theorem ysD_mem {lo : Int} {n : Nat} {y : Int} : y ∈ ysD lo n ↔ lo <= y /\ y < lo + n := by
 simp only [ysD, List.mem_map, List.mem_range];constructor
 ·rintro ⟨i, hi, rfl⟩; omega
 ·intro h; exact ⟨(y - lo).toNat, by omega, by omega⟩
theorem ysD_pw (lo : Int) (n : Nat) : (ysD lo n).Pairwise (· < ·) := by
 simp only [ysD, List.pairwise_map];exact List.pairwise_lt_range.imp (fun {a b} h => by omega)
def zon (F : Int -> List Run) (y : Int) : List Row := if F y = [] then [] else [⟨y, F y⟩]
def rowsF (F : Int -> List Run) (ys : List Int) : List Row := ys.flatMap (zon F)
theorem dilRow_len (F : Int -> List Run) (y : Int) : (zon F y).length <= 1 := by unfold zon; split <;> simp
theorem zom {F : Int -> List Run} {y : Int} {w : Row} (h : w ∈ zon F y) : w = ⟨y, F y⟩ /\ F y ≠ [] := by
 unfold zon at h;split at h
 ·simp at h
 ·rename_i e; simp at h; exact ⟨h, e⟩
theorem rowsF_facts {F : Int -> List Run} {ys : List Int} (hp : ys.Pairwise (· < ·)) (hF : ∀ y ∈ ys, F y ≠ [] -> (-4096 <= y /\ y < 4096) /\ zel (F y) = true) : zo (rowsF F ys) = true /\ ∀ c, c ∈ zk (rowsF F ys) ↔ c.y ∈ ys /\ inR (F c.y) c.x = true := by
 refine ⟨zht.2 ⟨fun w hw => ?_, flat_pw (dilRow_len F) (fun a b x y hab hx hy => ?_) hp⟩, fun c => ?_⟩
 ·obtain ⟨y, hy, hw⟩ := List.mem_flatMap.1 hw;obtain ⟨rfl, hne⟩ := zom hw;exact hF y hy hne
 ·rw [(zom hx).1, (zom hy).1]; exact hab
 ·rw [zbn];constructor
  ·rintro ⟨w, hw, hy, hr⟩;obtain ⟨y, hy', hw⟩ := List.mem_flatMap.1 hw;obtain ⟨rfl, _⟩ := zom hw;simp only at hy hr;rw [hy];exact ⟨hy', zbe.2 hr⟩
  ·rintro ⟨hy, hr⟩;refine ⟨⟨c.y, F c.y⟩, List.mem_flatMap.2 ⟨c.y, hy, ?_⟩, rfl, zbe.1 hr⟩;unfold zon;rw [if_neg (by intro e; rw [e] at hr; simp [inR] at hr)];simp
def dilN (R : List Row) (K : Nat) : Nat := (zjm R + K - (zgm R - K) + 1).toNat
def dilL (R : List Row) (K : Nat) : List Row := rowsF (zol R K) (ysD (zgm R - K) (dilN R K))
def rngB (R : List Row) (k : Int) : Bool := !decide (min (zlv R) (zgm R) - k < -4096) && !decide (4096 <= max (zgb R) (zjm R) + k)
def zla (R : List Row) (k : Int) : List Row := if zcy R k && decide (0 < R.length) && rngB R k then dilL R k.toNat else []
def zse (R : List Row) (k : Int) : Int := if zcy R k then (if 0 < R.length then (if rngB R k then 0 else 8) else 0) else 1
theorem dilL_facts {R : List Row} (hv : zo R = true) (h0 : 0 < R.length) {K : Nat} (hK : K <= 64) (hr : rngB R K = true) : zo (dilL R K) = true /\ ∀ c, c ∈ zk (dilL R K) ↔ nearP R K c.y c.x := by
 simp only [rngB, Bool.and_eq_true, Bool.not_eq_true', decide_eq_false_iff_not] at hr;have hlow := fun w hw => (zvm zpe R 4096).2.1 w hw;have hhigh := fun w hw => (zvn (fun w => znz w - 1) R (-4096)).2.1 w hw;have hfit : ∀ y x, nearP R K y x -> (-4096 <= y /\ y < 4096) /\ (-4096 <= x /\ x < 4096) /\ zgm R - K <= y /\ y <= zjm R + K := by
  rintro y x ⟨w, hw, h1, h2, r, hr', h3, h4⟩;have e1 := rows_ends hv hw;have e2 := (row_ends0 (zbx hv hw).2).1 r hr';have e3 := hlow w hw;have e4 := hhigh w hw;simp only [zlv, zgb] at hr;omega
 obtain ⟨q1, q2⟩ := rowsF_facts (F := zol R K) (ysD_pw (zgm R - K) (dilN R K)) fun y hy hne => by
  have hok := dilRun_ok hv hK y;have hm : ∀ x, inR (zol R K y) x = true -> -4096 <= x /\ x < 4096 := fun x hx => (hfit y x ((dilRun_in hv hK y x).1 hx)).2.1;obtain ⟨r, hr'⟩ := List.exists_mem_of_ne_nil _ hne;have hin := (dilRun_in hv hK y r.a).1 (zbe.2 ⟨r, hr', Int.le_refl _, hok.1.1 r hr'⟩);exact ⟨(hfit y _ hin).1, zdl.2 ⟨hne, hok.1, zeq hok.1 hm⟩⟩
 refine ⟨q1, fun c => ?_⟩;unfold dilL;rw [q2, dilRun_in hv hK, ysD_mem];constructor
 ·exact fun h => h.2
 ·intro h;have := hfit _ _ h;refine ⟨⟨this.2.2.1, ?_⟩, h⟩;unfold dilN;have h5 := this.2.2;omega
theorem dil_facts {R : List Row} {k : Int} (h : zse R k = 0) : zcy R k = true /\ zo (zla R k) = true /\ ∀ c, c ∈ zk (zla R k) ↔ nearP R k.toNat c.y c.x := by
 unfold zse at h;split at h
 ·rename_i hq;have hq' := hq;simp only [zcy, Bool.and_eq_true, decide_eq_true_eq] at hq';obtain ⟨⟨k1, k2⟩, hv⟩ := hq';refine ⟨hq, ?_⟩;split at h
  ·rename_i h0;split at h
   ·rename_i hr;have e : zla R k = dilL R k.toNat := by unfold zla; rw [if_pos (by rw [hq, hr]; simp [h0])]
    rw [e];exact dilL_facts hv h0 (by omega) (by rw [show ((k.toNat : Nat) : Int) = k by omega]; exact hr)
   ·omega
  ·rename_i h0;have e : zla R k = [] := by unfold zla; rw [if_neg (by simp [h0])]
   have eR : R = [] := List.eq_nil_of_length_eq_zero (by omega);rw [e, eR];exact ⟨rfl, fun c => by simp [zk, nearP]⟩
 ·omega
theorem dil_valid (R : List Row) (k : Int) : zo (zla R k) = true := by
 unfold zla;split
 ·rename_i h;simp only [Bool.and_eq_true, decide_eq_true_eq] at h;obtain ⟨⟨hq, h0⟩, hr⟩ := h;simp only [zcy, Bool.and_eq_true, decide_eq_true_eq] at hq;obtain ⟨⟨k1, k2⟩, hv⟩ := hq;exact (dilL_facts hv h0 (K := k.toNat) (by omega) (by rw [show ((k.toNat : Nat) : Int) = k by omega]; exact hr)).1
 ·rfl

set_option maxHeartbeats 4000000 in
theorem dilate_ok (R : List Row) (k : Int) (hR : zoq R) : PC Tryz.prog 18 [.agg (zt R), .int .i64 k] (.p (.tup [.agg (zt (zla R k)), .int .i64 (zse R k)])) := by
 have c0 := mvalid_big R k hR;cases hq : zcy R k with
 | false =>
  have hE : zse R k = 1 := by unfold zse; rw [hq]; rfl
  have hD : zla R k = [] := by unfold zla; rw [hq]; rfl
  rw [hq] at c0;rw [hE, hD];refine pw cx Tryz.func18 Tryz.ntmps18 ?_;refine rg cx ?_;refine rx cx [(2, .p (.bool false))] (fun K hK => by simp [push_cast, c0]; (repeat refine ob ?_); exact hK) ?_;refine awp_cd true (fun hb => ?_) fun hb => ?_
  ·refine rg cx ?_;simp [push_cast]
  ·simp at hb
 | true =>
  rw [hq] at c0;have hq' := hq;simp only [zcy, Bool.and_eq_true, decide_eq_true_eq] at hq';obtain ⟨⟨k1, k2⟩, hv⟩ := hq'
  replace hR := zce hv
  have hl := hR.1;have c1 := box_ok R hR;by_cases h0 : 0 < R.length
  ·have hs : some? R = true := by simp [some?, hv, h0]
   have hbx : boxD R = .tup [.agg (ze.row ⟨zlv R, zgm R⟩), .agg (ze.row ⟨zgb R, zjm R⟩), .bool true] := by simp [boxD, zhk, zhl, hs]
   rw [hbx] at c1;clear hbx;obtain ⟨w0, hw0⟩ : ∃ w, R[0]? = some w := zak h0;obtain ⟨w1, hw1⟩ : ∃ w, R[R.length - 1]? = some w := zak (by omega);have b1 := (zbx hv (List.mem_of_getElem? hw0)).1;have b2 := (zbx hv (List.mem_of_getElem? hw1)).1;have y1 : zgm R = w0.y := by simp [zgm, hw0]
   have y2 : zjm R = w1.y := by simp [zjm, hw1]
   have y3 := rows_ends hv (List.mem_of_getElem? hw0);have lx1 : zlv R <= 4096 := (zvm zpe R 4096).1;have lx2 : -4096 <= zlv R := (zvm zpe R 4096).2.2 (-4096) (by omega) fun w hw => (row_ends0 (zbx hv hw).2).2.1;have hx1 : -4096 <= zgb R := (zvn (fun w => znz w - 1) R (-4096)).1;have hx2 : zgb R <= 4096 := (zvn (fun w => znz w - 1) R (-4096)).2.2 4096 (by omega) fun w hw => by have := (row_ends0 (zbx hv hw).2).2.2.2; show znz w - 1 <= 4096; omega
   have e1 := wI (min (zlv R) (zgm R) - k);have e2 := wI (max (zgb R) (zjm R) + k);by_cases p1 : min (zlv R) (zgm R) - k < -4096
   ·have hrg : rngB R k = false := by simp [rngB, p1]
    have hE : zse R k = 8 := by unfold zse; rw [hq, hrg]; simp [h0]
    have hD : zla R k = [] := by unfold zla; rw [hq, hrg]; simp
    rw [hE, hD];generalize zlv R = lx at *;generalize zgb R = hx at *;generalize zgm R = fy at *;generalize zjm R = ly at *;refine pw cx Tryz.func18 Tryz.ntmps18 ?_;refine rg cx ?_;refine rx cx [(2, .p (.bool true))] (fun K hK => by simp [push_cast, c0]; (repeat refine ob ?_); exact hK) ?_;refine awp_cd false (fun hb => ?_) fun hb => ?_
    ·simp at hb
    ·refine rx cx [(1, .p (.tup [.agg (ze.row ⟨lx, fy⟩), .agg (ze.row ⟨hx, ly⟩), .bool true]))] (fun K hK => by simp [push_cast, c1, ze.row]; (repeat refine ob ?_); exact hK) ?_;refine rg cx ?_;refine awp_cd false (fun hb => ?_) fun hb => ?_
     ·simp at hb
     ·refine rx cx [] (fun K hK => by simp [push_cast, e1, p1, ze.row]; (repeat refine ob ?_); exact hK) ?_;refine awp_cn true (by simp [push_cast, p1]) (fun hb => ?_) fun hb => ?_
      ·refine rg cx ?_;simp [push_cast]
      ·simp at hb
   ·by_cases p2 : 4096 <= max (zgb R) (zjm R) + k
    ·have hrg : rngB R k = false := by simp [rngB, p2]
     have hE : zse R k = 8 := by unfold zse; rw [hq, hrg]; simp [h0]
     have hD : zla R k = [] := by unfold zla; rw [hq, hrg]; simp
     rw [hE, hD];generalize zlv R = lx at *;generalize zgb R = hx at *;generalize zgm R = fy at *;generalize zjm R = ly at *;refine pw cx Tryz.func18 Tryz.ntmps18 ?_;refine rg cx ?_;refine rx cx [(2, .p (.bool true))] (fun K hK => by simp [push_cast, c0]; (repeat refine ob ?_); exact hK) ?_;refine awp_cd false (fun hb => ?_) fun hb => ?_
     ·simp at hb
     ·refine rx cx [(1, .p (.tup [.agg (ze.row ⟨lx, fy⟩), .agg (ze.row ⟨hx, ly⟩), .bool true]))] (fun K hK => by simp [push_cast, c1, ze.row]; (repeat refine ob ?_); exact hK) ?_;refine rg cx ?_;refine awp_cd false (fun hb => ?_) fun hb => ?_
      ·simp at hb
      ·refine rx cx [] (fun K hK => by simp [push_cast, e1, e2, p1, p2, ze.row]; (repeat refine ob ?_); exact hK) ?_;refine awp_cn true (by simp [push_cast, p1, p2]) (fun hb => ?_) fun hb => ?_
       ·refine rg cx ?_;simp [push_cast]
       ·simp at hb
    ·have hrg : rngB R k = true := by simp [rngB, p1, p2]
     have hE : zse R k = 0 := by unfold zse; rw [hq, hrg]; simp [h0]
     have hD : zla R k = dilL R k.toNat := by unfold zla; rw [hq, hrg]; simp [h0]
     rw [hE, hD];clear hE hD hrg hs;obtain ⟨K, rfl⟩ : ∃ K : Nat, k = K := ⟨k.toNat, by omega⟩
     have hK : K <= 64 := by omega
     rw [Int.toNat_natCast];have hLd : dilL R K = rowsF (zol R K) (ysD (zgm R - K) (dilN R K)) := rfl;have hFd : ∀ y, zol R K y = rowW fU (zdf (zvj K) R) y K := fun y => rfl;have hFok := fun y => dilRun_ok hv hK y;have hMok := dilM_ok hv hK;have hMt := fun i w => @rowMap_take (zvj K) R i w;have hM0 : zdf (zvj K) (R.take 0) = [] := rfl;have hMe : zdf (zvj K) (R.take R.length) = zdf (zvj K) R := by rw [List.take_length]
     have hN : (dilN R K : Int) = zjm R + K - (zgm R - K) + 1 := by unfold dilN; omega
     have hyl : (ysD (zgm R - K) (dilN R K)).length = dilN R K := by simp [ysD]
     have hyt : ∀ j : Nat, j < dilN R K -> (ysD (zgm R - K) (dilN R K))[j]? = some (zgm R - K + j) := fun j hj => by simp [ysD, hj]
     rw [hLd];clear hLd;generalize hys : ysD (zgm R - K) (dilN R K) = ys at *;have hNl : dilN R K <= 100000 := by omega
     generalize zol R K = F at *;have hFr : ∀ y, zon F y = if F y = [] then [] else [⟨y, F y⟩] := fun y => rfl
     generalize hMM : zdf (zvj K) R = MM at *;generalize zlv R = lx at *;generalize zgb R = hx at *;generalize zgm R = fy at *;generalize zjm R = ly at *;generalize dilN R K = n at *;clear hys;have u1 := wI (fy - (K : Int));have u2 := wI (ly + (K : Int));refine pw cx Tryz.func18 Tryz.ntmps18 ?_;refine rg cx ?_;refine rx cx [(2, .p (.bool true))] (fun K hK => by simp [push_cast, c0]; (repeat refine ob ?_); exact hK) ?_;refine awp_cd false (fun hb => ?_) fun hb => ?_
     ·simp at hb
     ·refine rx cx [(1, .p (.tup [.agg (ze.row ⟨lx, fy⟩), .agg (ze.row ⟨hx, ly⟩), .bool true]))] (fun K hK => by simp [push_cast, c1, ze.row]; (repeat refine ob ?_); exact hK) ?_;refine rg cx ?_;refine awp_cd false (fun hb => ?_) fun hb => ?_
      ·simp at hb
      ·refine rx cx [] (fun K hK => by simp [push_cast, e1, e2, p1, p2, ze.row]; (repeat refine ob ?_); exact hK) ?_;refine awp_cn false (by simp [push_cast, p1, p2]) (fun hb => ?_) fun hb => ?_
       ·simp at hb
       ·refine rx cx [] (fun K hK => by simp [push_cast, mp_nil]; (repeat refine ob ?_); exact hK) ?_;refine rg cx ?_;refine zz (β := Nat × List (Int × List Run)) (fun b => ⟨99, [(1, .d (.int .i64 K)), (2, .ptr 0 0 0), (4, .ptr 1 0 0), (6, .ptr 2 0 0), (7, .ptr 3 0 0), (9, .ptr 5 0 0), (51, .d (zu R)), (52, .d (.int .i64 R.length)), (53, .d (.int .i64 b.1))], [(0, some ⟨24, 1, [(zt R).map .d]⟩), (1, some ⟨24, 1, [[.nl]]⟩), (2, some ⟨67, 2, [(ze.row ⟨lx, fy⟩).map .d]⟩), (3, some ⟨67, 2, [(ze.row ⟨hx, ly⟩).map .d]⟩), (4, some ⟨87, mapM, dr (zhz b.2)⟩), (5, some ⟨89, 2, [[.hm 4, .d (.fn (.func 62) [])]]⟩)], 6⟩) (fun b => b.1 <= R.length /\ b.2 = zdf (zvj K) (R.take b.1)) (fun b => R.length - b.1) (0, []) ?_ ⟨Nat.zero_le _, hM0.symm⟩ ?_
        ·refine wq [(0, some 0), (1, some 1), (2, some 13), (3, some 14), (4, some 38), (5, some 40)] (by simp [upT, upH, upR, upL, up, push_cast, mp_nil, ze.row])
        ·rintro ⟨i, M⟩ ⟨hi, hM⟩;simp only at hi hM;refine Nav.imp ?_;refine rg cx ?_;refine awp_cd (decide ((i : Int) < R.length)) (fun hb => ?_) fun hb => ?_
         ·have hlt : i < R.length := by simpa using hb
          obtain ⟨w, hw⟩ := zak hlt;have e0 := wI ((i : Int) + 1);have hwl := hR.2 w (List.mem_of_getElem? hw);have c2 := grow_ok w.runs K (zcq hv hw).2 hwl (by omega);have hsf : groL w.runs K = zvj K w.runs := rfl;rw [hsf] at c2;have hnx := hMt i w hw;rw [<- hM] at hnx;clear hsf;generalize zvj K w.runs = s at *;have hput := putR_mp w.y s M;refine rx cx [] (fun K hK => by simp [push_cast, hw, Row.row]; (repeat refine ob ?_); exact hK) ?_;refine rd cx mixed [(7, .p (.tup [zn s, .int .i64 0]))] (fun K hK => by simp [push_cast, c2, hput, Row.row]; (repeat refine ob ?_); exact hK) ?_;refine rx cx [] (fun K hK => by simp [push_cast, e0]; (repeat refine ob ?_); exact hK) ?_;refine ⟨(i + 1, zgj M w.y s), ⟨hlt, hnx.symm⟩, by simp only; omega, ?_⟩;refine wq [(0, some 0), (1, some 1), (2, some 2), (3, some 3), (4, some 4), (5, some 5)] (by simp [upT, upH, upR, upL, up, push_cast, ze.row])
         ·have hge : i = R.length := by simp at hb; omega
          subst hge;rw [hMe] at hM;subst hM;refine zaf 4 (zhz M) rfl (by simp [push_cast]) fun K hK => ?_;simp [push_cast, St.fz, fzT, fzH, fzO, fz, fzL, fzR, zbc, zat, zas, zaq];refine nx hK ?_; clear hK K;refine rg cx ?_;refine rx cx [] (fun K hK => by simp [push_cast, u1, ze.row]; (repeat refine ob ?_); exact hK) ?_;refine zz (β := Nat × List Row) (fun s => ⟨99, [(1, .d (.int .i64 K)), (4, .ptr 1 0 0), (7, .ptr 3 0 0), (9, .ptr 5 0 0), (12, .ptr 6 0 0), (13, .d (.int .i64 (fy - K + s.1)))], [(1, some ⟨24, 1, [[.nl]]⟩), (3, some ⟨67, 2, [(ze.row ⟨hx, ly⟩).map .d]⟩), (5, some ⟨89, 2, [[.d (.mp (zhz M)), .d (.fn (.func 62) [])]]⟩), (6, some ⟨24, 1, [[.hs 7 0 s.2.length]]⟩), (7, some ⟨65, 2, dr (s.2.map Row.row)⟩)], 8⟩) (fun s => s.1 <= n /\ s.2 = rowsF F (ys.take s.1)) (fun s => n - s.1) (0, []) ?_ ⟨Nat.zero_le _, by simp [rowsF]⟩ ?_
          ·refine wq [(1, some 1), (3, some 3), (5, some 5), (6, some 7), (7, none)] (by simp [upT, upH, upR, upL, up, push_cast, ze.row])
          ·rintro ⟨j, Z⟩ ⟨hj, hZ⟩;simp only at hj hZ;refine Nav.imp ?_;refine rx cx [] (fun K hK => by simp [push_cast, u2, ze.row]; (repeat refine ob ?_); exact hK) ?_;by_cases hlt : j < n
           ·have q1 : fy - (K : Int) + j <= ly + K := by omega
            have e0 := wI (fy - (K : Int) + j + 1);have c3 := wrow_ok fU rfl 62 (fun a b h1 h2 h3 h4 => union_ok a b h1 h2 h3 h4) M hMok (fy - K + j) K (by omega) hK;rw [<- hFd] at c3;have hul := (hFok (fy - K + j)).len;have hnx : rowsF F (ys.take (j + 1)) = Z ++ zon F (fy - K + j) := by rw [hZ]; exact zdr _ (hyt j hlt)
            rw [hFr] at hnx;have hZl : Z.length <= 1000000 := by
             have := zjp (dilRow_len F) (ys.take j);have h6 : Z.length = ((ys.take j).flatMap (zon F)).length := by rw [hZ]; rfl
             have h7 : (ys.take j).length <= j := by simp; omega
             omega
            have hZ32 : (Z.length + 1) * 32 <= 140737488355328 := by omega
            have hu16 : (0 + (F (fy - K + j)).length) * 16 <= 140737488355328 := by omega
            generalize F (fy - K + j) = u at *;refine awp_cn true (by simp [push_cast, q1]) (fun hb => ?_) fun hb => ?_
            ·refine rx cx [(3, .p (zn u))] (fun K hK => by simp [push_cast, c3]; (repeat refine ob ?_); exact hK) ?_;refine rg cx ?_;cases hu : u with
             | nil =>
              rw [hu] at hnx;simp only [if_true, List.append_nil] at hnx;refine awp_cn false (by simp [push_cast, hu]) (fun hb => ?_) fun hb => ?_
              ·simp at hb
              ·refine rx cx [] (fun K hK => by simp [push_cast, e0]; (repeat refine ob ?_); exact hK) ?_;refine ⟨(j + 1, Z), ⟨hlt, hnx.symm⟩, by simp only; omega, ?_⟩;refine wq [(1, some 1), (3, some 3), (5, some 5), (6, some 6), (7, some 7)] (by simp [upT, upH, upR, upL, up, push_cast, ze.row, Int.add_assoc])
             | cons q u' =>
              have hne : ¬ u = [] := by rw [hu]; simp
              have hpos : 0 < u.length := by rw [hu]; simp
              rw [if_neg hne] at hnx;rw [<- hu];clear hu;refine awp_cn true (by simp [push_cast, hpos]) (fun hb => ?_) fun hb => ?_
              ·refine rd cx mixed [] (fun K hK => by simp [push_cast, hZ32, hu16]; (repeat refine ob ?_); exact hK) ?_;refine zaf 27 (u.map Run.row) rfl (by simp [push_cast]) fun K hK => ?_;simp [push_cast, St.fz, fzT, fzH, fzO, fz, fzL, fzR, zbc, zat, zas, zaq];refine nx hK ?_; clear hK K;refine rx cx [] (fun K hK => by simp [push_cast, e0]; (repeat refine ob ?_); exact hK) ?_;refine ⟨(j + 1, Z ++ [⟨fy - K + j, u⟩]), ⟨hlt, hnx.symm⟩, by simp only; omega, ?_⟩;refine wq [(1, some 1), (3, some 3), (5, some 5), (6, some 6), (7, some 30)] (by simp [upT, upH, upR, upL, up, push_cast, Row.row, ze.row, Int.add_assoc])
              ·simp at hb
            ·simp at hb
           ·have hje : j = n := by omega
            subst hje;have q1 : ¬ fy - (K : Int) + j <= ly + K := by omega
            rw [<- hyl, List.take_length] at hZ;rw [<- hZ];have ht2 : List.take Z.length (Z.map Row.row) = Z.map Row.row := List.take_of_length_le (by simp);refine awp_cn false (by simp [push_cast, q1]) (fun hb => ?_) fun hb => ?_
            ·simp at hb
            ·refine zaf 7 (Z.map Row.row) rfl (by simp [push_cast, Row.row, ht2]) fun K hK => ?_;simp [push_cast, St.fz, fzT, fzH, fzO, fz, fzL, fzR, zbc, zat, zas, zaq, Row.row, ht2];refine nx hK ?_; clear hK K;refine rg cx ?_;simp [push_cast]
  ·have hs : some? R = false := by simp [some?, h0]
   have eR : R = [] := List.eq_nil_of_length_eq_zero (by omega);have hE : zse R k = 0 := by unfold zse; rw [hq]; simp [h0]
   have hD : zla R k = [] := by unfold zla; rw [hq]; simp [h0]
   have hbx : boxD R = .tup [.agg (ze.row ⟨0, 0⟩), .agg (ze.row ⟨0, 0⟩), .bool false] := by simp [boxD, zhk, zhl, hs]
   rw [hbx] at c1;rw [hE, hD];refine pw cx Tryz.func18 Tryz.ntmps18 ?_;refine rg cx ?_;refine rx cx [(2, .p (.bool true))] (fun K hK => by simp [push_cast, c0]; (repeat refine ob ?_); exact hK) ?_;refine awp_cd false (fun hb => ?_) fun hb => ?_
   ·simp at hb
   ·refine rx cx [(1, .p (.tup [.agg (ze.row ⟨0, 0⟩), .agg (ze.row ⟨0, 0⟩), .bool false]))] (fun K hK => by simp [push_cast, c1, ze.row]; (repeat refine ob ?_); exact hK) ?_;refine rg cx ?_;refine awp_cd true (fun hb => ?_) fun hb => ?_
    ·refine rg cx ?_;simp [push_cast]
    ·simp at hb

section
variable {a b : List Row} (ha : zo a = true) (hb : zo b = true) (c : ze)
include ha hb
end
end Go.Proofs.YtdddknniooimmaaGreat
