/-
  Texts of this seat put together: T1, T2, T3, T4, V2, T5, T6, V3.
-/
import Derived.Test.YtdddknniooimmaaGreatJF6
import Derived.Test.YtdddknniooimmaaGreatJF4
set_option linter.unusedVariables false
set_option linter.unusedSimpArgs false
set_option maxRecDepth 100000
namespace Go.Proofs.YtdddknniooimmaaGreat
open Go.Abs

def zhj (a b : Int) : Int := if a < b then -1 else if b < a then 1 else 0
def intRow (x : Int) : List D := [.int .i64 x]
abbrev encInts (l : List Int) : D := .sl (l.map intRow)
def orI (a b : Int) : Int := if a ≠ 0 then a else b

theorem isNaN_ok (a : Int) : PC Tryz.prog 166 [.int .i64 a] (.p (.bool false)) := by
 refine pw cx Tryz.func166 Tryz.ntmps166 ?_;refine rg cx ?_;refine rg cx ?_;simp [push_cast]

theorem ztv (a b : Int) : PC Tryz.prog 117 [.int .i64 a, .int .i64 b] (.p (.int .i64 (zhj a b))) := by
 have c1 := isNaN_ok a;have c2 := isNaN_ok b;refine pw cx Tryz.func117 Tryz.ntmps117 ?_;refine rg cx ?_;refine rx cx [(1, .p (.bool false))] (fun K hK => by simp [push_cast, c1]; (repeat refine ob ?_); exact hK) ?_;refine rx cx [(1, .p (.bool false))] (fun K hK => by simp [push_cast, c2]; (repeat refine ob ?_); exact hK) ?_;refine rg cx ?_;refine awp_cd false (fun hb => ?_) fun hb => ?_
 ·simp at hb
 ·refine rg cx ?_;refine awp_cd false (fun hb => ?_) fun hb => ?_
  ·simp at hb
  ·refine rg cx ?_;refine awp_cd (decide (a < b)) (fun hb => ?_) fun hb => ?_
   ·have hb : a < b := by simpa using hb
    refine rg cx ?_;simp [push_cast, zhj, hb]
   ·have hb : ¬ a < b := by simpa using hb
    refine rg cx ?_;refine awp_cd (decide (b < a)) (fun hb => ?_) fun hb => ?_
    ·have hb2 : b < a := by simpa using hb
     refine rg cx ?_;simp [push_cast, zhj, hb, hb2];try omega
    ·have hb2 : ¬ b < a := by simp at hb; omega
     refine rg cx ?_;simp [push_cast, zhj, hb, hb2];try omega

theorem or_ok (a b : Int) : PC Tryz.prog 116 [encInts [a, b]] (.p (.int .i64 (orI a b))) := by
 have hlen : (encInts [a, b]) = .sl [[.int .i64 a], [.int .i64 b]] := rfl;refine pw cx Tryz.func116 Tryz.ntmps116 ?_;iterate 3 refine rg cx ?_
 refine zz (β := Nat) (fun k => ⟨18, [(3, .d (.int .i64 0)), (6, .d (encInts [a, b])), (7, .d (.int .i64 2)), (8, .d (.int .i64 k))], [], 0⟩) (fun k => k <= 2 /\ (0 < k -> a = 0) /\ (1 < k -> b = 0)) (fun k => 2 - k) 0 ?_ ⟨by omega, by omega, by omega⟩ ?_
 ·refine wk []
 ·rintro k ⟨hk, h1, h2⟩;refine Nav.imp ?_;by_cases e0 : k = 0
  ·subst e0;refine rg cx ?_;refine awp_cd true (fun hb => ?_) fun hb => ?_
   ·refine rx cx [] (fun K hK => by simp [push_cast, intRow]; (repeat refine ob ?_); exact hK) ?_;refine rg cx ?_;refine zd (by simp [push_cast] <;> exact rfl) (fun hb => ?_) (fun hb => ?_) <;> (refine Nav.imp ?_)
    ·simp at hb;refine rg cx ?_;simp [push_cast, orI, hb]
    ·simp at hb;refine rg cx ?_;refine ⟨1, ⟨by omega, fun _ => hb, by omega⟩, by omega, ?_⟩;refine wk []
   ·simp at hb
  ·by_cases e1 : k = 1
   ·subst e1;have h1 := h1 (by omega);refine rg cx ?_;refine awp_cd true (fun hb => ?_) fun hb => ?_
    ·refine rx cx [] (fun K hK => by simp [push_cast, intRow]; (repeat refine ob ?_); exact hK) ?_;refine rg cx ?_;refine zd (by simp [push_cast] <;> exact rfl) (fun hb => ?_) (fun hb => ?_) <;> (refine Nav.imp ?_)
     ·simp at hb;refine rg cx ?_;simp [push_cast, orI, hb, h1]
     ·simp at hb;refine rg cx ?_;refine ⟨2, ⟨by omega, fun _ => h1, fun _ => hb⟩, by omega, ?_⟩;refine wk []
    ·simp at hb
   ·have e2 : k = 2 := by omega
    subst e2;have h1 := h1 (by omega);have h2 := h2 (by omega);refine rg cx ?_;refine awp_cd false (fun hb => ?_) fun hb => ?_
    ·simp at hb
    ·refine rg cx ?_;simp [push_cast, orI, h1, h2]

def cfO (a b : ze) : Int := orI (zhj a.y b.y) (zhj a.x b.x)
theorem ofCmp_ok (a b : ze) : PC Tryz.prog 115 [.agg a.row, .agg b.row] (.p (.int .i64 (cfO a b))) := by
 have c1 := ztv a.y b.y;have c2 := ztv a.x b.x;have c3 := or_ok (zhj a.y b.y) (zhj a.x b.x);have hc : cfO a b = orI (zhj a.y b.y) (zhj a.x b.x) := rfl;rw [hc];generalize orI (zhj a.y b.y) (zhj a.x b.x) = z at *;generalize zhj a.y b.y = x at *;generalize zhj a.x b.x = y at *;refine pw cx Tryz.func115 Tryz.ntmps115 ?_;refine rg cx ?_;refine rd cx mixed [(4, .p (.int .i64 x)), (9, .p (.int .i64 y)), (10, .f (encInts [x, y])), (11, .p (.int .i64 z))] (fun K hK => by simp [push_cast, c1, c2, c3, intRow]; (repeat refine ob ?_); exact hK) ?_;simp [push_cast]

theorem clone_ok (l : List ze) (hl : l.length <= 1000000) : PC Tryz.prog 114 [zai l] (.o 67 2 (l.map ze.row)) := by
 have h16 : l.length * 16 <= 140737488355328 := by omega
 refine pw cx Tryz.func114 Tryz.ntmps114 ?_;refine rg cx ?_;refine rg cx ?_;refine awp_ub 4 (by simp [push_cast]; exact ⟨rfl, rfl⟩) fun bu hu1 hu2 => ?_;refine awp_cd bu (fun hb => ?_) fun hb => ?_
 ·have hl0 : l = [] := by simpa using hu1 hb
  subst hl0;refine rg cx ?_;simp [push_cast]
 ·refine rx cx [] (fun K hK => by simp [push_cast, h16]; (repeat refine ob ?_); exact hK) ?_;simp [push_cast]

def bef (a b : ze) : Bool := decide (a.y < b.y) || (decide (a.y = b.y) && decide (a.x < b.x))
theorem bef_leY {a b : ze} (h : bef a b = false) : leY b a = true := by simp [bef, leY] at *; omega


def ofR (l : List ze) : List Row := if l.all onG then build (zsk l) else []
def ofE (l : List ze) : Int := if l.all onG then 0 else 8
abbrev ofD (l : List ze) : D := .tup [.agg (zt (ofR l)), .int .i64 (ofE l)]

theorem addC_small {R : List Row} {n : Nat} (c : ze) (h1 : R.length <= n) (h2 : ∀ w ∈ R, w.runs.length <= n) : (zsg R c).length <= n + 1 /\ ∀ w ∈ zsg R c, w.runs.length <= n + 1 := by
 refine ⟨Nat.le_trans (addC_len R c) (by omega), fun w hw => ?_⟩;rcases List.eq_nil_or_concat R with rfl | ⟨P, v, rfl⟩
 ·rw [zwk] at hw; simp at hw; subst hw; simp
 ·rw [List.concat_eq_append] at *;rw [zne] at hw;split at hw
  ·rcases List.mem_append.1 hw with hw | hw
   ·have := h2 w (by simp [hw]); omega
   ·simp at hw;subst hw;have hv := h2 v (by simp);simp only;rcases List.eq_nil_or_concat v.runs with e | ⟨L, r, e⟩
    ·rw [e, addRun_nil]; simp
    ·rw [List.concat_eq_append] at e;rw [e] at hv ⊢;rw [zot];split <;> simp at hv ⊢ <;> omega
  ·rcases List.mem_append.1 hw with hw | hw
   ·have := h2 w hw; omega
   ·simp at hw; subst hw; simp
theorem build_small (l : List ze) : (build l).length <= l.length /\ ∀ w ∈ build l, w.runs.length <= l.length := by
 have : ∀ k, k <= l.length -> (build (l.take k)).length <= k /\ ∀ w ∈ build (l.take k), w.runs.length <= k := by
  intro k;induction k with
  | zero => intro _; simp [build]
  | succ k ih =>
   intro hk;obtain ⟨c, hc⟩ := zak (show k < l.length by omega);rw [build_take hc];have := ih (by omega);exact addC_small c this.1 this.2
 have := this l.length (Nat.le_refl _)
 rwa [List.take_length] at this


theorem nb_right (x y : Int) (j : Nat) : nbT ⟨x + j, y⟩ ⟨x + (j + 1 : Nat), y⟩ = true := by simp [nbT, zwf]; omega
theorem nb_up (x y : Int) (j : Nat) : nbT ⟨x, y + j⟩ ⟨x, y + (j + 1 : Nat)⟩ = true := by simp [nbT, zwf]; omega
theorem chain_ok {l : List ze} (hon : ∀ c ∈ l, onG c = true) (hnb : ∀ (j : Nat) (a b : ze), l[j]? = some a -> l[j + 1]? = some b -> nbT a b = true) : (List.range l.length).all (okAt l) = true := by
 refine List.all_eq_true.2 fun i hi => ?_;have hi : i < l.length := by simpa using hi
 obtain ⟨c, hc⟩ := zak hi;obtain ⟨p, hp⟩ : ∃ p, l[i - 1]? = some p := zak (by omega);rw [zri hc hp, hon c (List.mem_of_getElem? hc)];cases i with
 | zero => simp
 | succ i => simp only [Nat.add_sub_cancel] at hp; rw [hnb i p c hp hc]; simp
theorem valid_open {l : List ze} (hp : 1 <= l.length) (hl : l.length <= 65536) (hon : ∀ c ∈ l, onG c = true) (hnb : ∀ (j : Nat) (a b : ze), l[j]? = some a -> l[j + 1]? = some b -> nbT a b = true) : zap ⟨2, false, l⟩ = true := by
 simp only [zap, Bool.and_eq_true];refine ⟨⟨?_, chain_ok hon hnb⟩, by simp [zma]⟩;simp [zhy]; omega
theorem vN_get {l : List ze} : ∀ (n : Nat) (c : ze) (j : Nat) (d : ze), (vN l n c)[j]? = some d -> d = ⟨c.x, c.y + j⟩
 | 0, c, j, d, h => by simp [vN] at h
 | n + 1, c, j, d, h => by
  simp only [vN] at h;split at h
  ·cases j with
   | zero => simp at h; subst h; simp
   | succ j =>
    have := vN_get n (upc c) j d (by simpa using h);rw [this]; simp [upc]; omega
  ·simp at h
theorem lines_valid {R : List Row} {t : zm} (ht : t ∈ zej R) : zap t = true /\ t.closed = false /\ t.role = 2 := by
 have h8 := lines_cells t ht;unfold zej at ht;split at ht
 ·rename_i h;rcases List.mem_append.1 ht with ht | ht
  ·simp only [zha, zta, List.mem_flatMap] at ht;obtain ⟨w, hw, r, hr, ht⟩ := ht;have hrr := zdv h hw hr;have hwf := zbx h hw;unfold zhq at ht;split at ht
   ·simp at ht
   ·simp at ht; subst ht;refine ⟨valid_open (by rw [zbr]; omega) (by simp only at h8; omega) (fun c hc => ?_) (fun j a b ha hb => ?_), rfl, rfl⟩
    ·obtain ⟨h1, h2, h3⟩ := zfr.1 hc;simp [onG]; omega
    ·have hj := (List.getElem?_eq_some_iff.1 hb).1;rw [zbr] at hj;rw [zgy w.y r (by omega)] at ha;rw [zgy w.y r hj] at hb;cases ha; cases hb;exact nb_right _ _ _
  ·obtain ⟨c, hc, rfl, l, hl⟩ := zhu (fun c hc => zeg h (zld h hc)) ht;have hlv : (vch (zcc R) c).length = l.length + 1 := by
    have := congrArg List.length hl;simpa [trk] using this
   refine ⟨valid_open (by omega) (by simp only [trk] at h8; omega) (fun d hd => zeg h (zld h (vch_sub _ _ _ _ hd))) (fun j a b ha hb => ?_), rfl, rfl⟩;have e1 := vN_get _ _ _ _ ha;have e2 := vN_get _ _ _ _ hb;rw [e1, e2];exact nb_up _ _ _
 ·simp at ht

theorem col_exists {s : List ze} {i : Nat} {a : ze} (ha : s[i]? = some a) : ∃ n, 0 < n /\ i + n <= s.length /\ Col s i n a /\ Stop s i n a := by
 have hi := (List.getElem?_eq_some_iff.1 ha).1;have key : ∀ (m n : Nat), s.length - (i + n) = m -> 0 < n -> i + n <= s.length -> Col s i n a -> ∃ n, 0 < n /\ i + n <= s.length /\ Col s i n a /\ Stop s i n a := by
  intro m;induction m with
  | zero =>
   intro n hm hn hl hc;exact ⟨n, hn, hl, hc, fun b hb => by have := (List.getElem?_eq_some_iff.1 hb).1; omega⟩
  | succ m ih =>
   intro n hm hn hl hc;by_cases hs : Stop s i n a
   ·exact ⟨n, hn, hl, hc, hs⟩
   ·have : ∃ b, s[i + n]? = some b /\ b.x = a.x /\ b.y = a.y + n := by
     apply Classical.byContradiction
     intro h;exact hs fun b hb hx => h ⟨b, hb, hx⟩
    obtain ⟨b, hb, h1, h2⟩ := this;refine ih (n + 1) (by omega) (by omega) (by omega) fun j hj => ?_;by_cases e : j = n
    ·subst e; rw [hb]; cases b; simp at h1 h2; simp [h1, h2]
    ·exact hc j (by omega)
 exact key _ 1 rfl (by omega) (by omega) fun j hj => by rw [show j = 0 from by omega]; cases a; simpa using ha
def tc (l : List zm) : List ze := l.flatMap (·.cells)
theorem zgw (a b : List zm) : tc (a ++ b) = tc a ++ tc b := by simp [tc]
theorem up_cells {s : List ze} (h : s.Pairwise ltX) (hon : ∀ c ∈ s, onG c = true) : tc (zdb s) = s := by
 have key : ∀ (m i : Nat), s.length - i = m -> i <= s.length -> (∀ a, s[i]? = some a -> vst s a = true) -> tc ((s.take i).flatMap (vT s)) = s.take i -> tc (zdb s) = s := by
  intro m;induction m using Nat.strongRecOn with
  | ind m ih =>
   intro i hm hi hst ht;by_cases e : i = s.length
   ·subst e; rw [List.take_length] at ht; exact ht
   ·obtain ⟨a, ha⟩ := zak (show i < s.length by omega);obtain ⟨n, hn, hl, hc, hs⟩ := col_exists ha;refine ih (s.length - (i + n)) (by omega) (i + n) rfl hl (fun b hb => col_next h hn hc hs hb) ?_;rw [col_piece h hon hn hc hs (hst a ha), zgw, ht, List.take_add];simp [tc, trk]
 exact key _ 0 rfl (Nat.zero_le _) (fun a ha => vst_first h ha) (by simp [tc])
theorem flat_perm {α β : Type} {f g h : α -> List β} : ∀ l : List α, (∀ x ∈ l, (f x).Perm (g x ++ h x)) -> (l.flatMap f).Perm (l.flatMap g ++ l.flatMap h)
 | [], _ => List.Perm.refl _
 | x :: l, hx => by
  simp only [List.flatMap_cons];refine ((hx x (by simp)).append (flat_perm l fun y hy => hx y (by simp [hy]))).trans ?_;rw [List.append_assoc, List.append_assoc];refine List.Perm.append_left _ ?_;rw [<- List.append_assoc, <- List.append_assoc];exact List.Perm.append_right _ List.perm_append_comm
theorem tc_flat {α : Type} (f : α -> List zm) : ∀ l : List α, tc (l.flatMap f) = l.flatMap fun x => tc (f x)
 | [] => rfl
 | x :: l => by simp only [List.flatMap_cons, zgw, tc_flat f l]
theorem run_part {y : Int} {r : Run} (h : r.a < r.b) : zaa y r = tc (zhq y r) ++ zgx y r := by
 unfold zhq zgx;split
 ·rename_i e;simp [tc, zaa, show (r.b - r.a).toNat = 1 from by omega]
 ·simp [tc]
theorem cells_part {R : List Row} (h : zo R = true) : (zk R).Perm (tc (zha R) ++ zcc R) := by
 unfold zk zha zcc;rw [tc_flat];refine flat_perm R fun w hw => ?_;unfold zcj zta ztb;rw [tc_flat];exact flat_perm _ fun r hr => by rw [run_part (zdv h hw hr).2.1]
theorem lines_perm {R : List Row} (h : zo R = true) : (tc (zej R)).Perm (zk R) := by
 have e : zej R = zha R ++ zdb (zcc R) := by simp [zej, h]
 rw [e, zgw];refine List.Perm.trans ?_ (cells_part h).symm;refine List.Perm.append_left _ ?_;have hnd := zca (sng_pw h);have h1 := up_cells (sortX_lt hnd) (fun c hc => zeg h (zld h ((sortX_mem c).1 hc)));have h2 := (zsu (zfd (zcc R))).flatMap_right (·.cells);refine h2.symm.trans ?_;rw [show (zdb (zkb (zcc R))).flatMap (·.cells) = tc (zdb (zkb (zcc R))) from rfl, h1];exact zfd _

set_option maxHeartbeats 1000000 in
theorem rsame_ok (a b : List Row) (ha : zdi a) : PC Tryz.prog 26 [.agg (zt a), .agg (zt b)] (.p (.bool (decide (a = b)))) := by
 have hal := ha.1;refine pw cx Tryz.func26 Tryz.ntmps26 ?_;refine rg cx ?_;refine rg cx ?_;refine zd (by simp [push_cast] <;> exact rfl) (fun hb => ?_) (fun hb => ?_) <;> (refine Nav.imp ?_)
 ·simp at hb;have hne : a ≠ b := by intro e; subst e; simp at hb
  refine rg cx ?_;simp [push_cast, hne]
 ·have hlen : a.length = b.length := by simp at hb; omega
  clear hb;refine rg cx ?_;refine zz (β := Nat) (fun k => ⟨65, [(2, .ptr 0 0 0), (3, .ptr 1 0 0), (5, .d (.int .i64 k))], [(0, some ⟨24, 1, [(zt a).map .d]⟩), (1, some ⟨24, 1, [(zt b).map .d]⟩)], 2⟩) (fun k => k <= a.length /\ a.take k = b.take k) (fun k => a.length - k) 0 ?_ ⟨Nat.zero_le _, by simp⟩ ?_
  ·refine wk [(0, some 0), (1, some 1)]
  ·rintro k ⟨hk, hpre⟩;refine Nav.imp ?_;refine rg cx ?_;refine awp_cd (decide ((k : Int) < a.length)) (fun hb => ?_) fun hb => ?_
   ·have hlt : k < a.length := by simpa using hb
    obtain ⟨x, hx⟩ := zak hlt;obtain ⟨y, hy⟩ : ∃ y, b[k]? = some y := zak (by omega);have e0 := wI ((k : Int) + 1);have hxl := ha.2 x (List.mem_of_getElem? hx);have hno : x ≠ y -> a ≠ b := fun h e => by
     subst e;rw [hx] at hy;exact h (Option.some.inj hy)
    obtain ⟨xy, xr⟩ := x;obtain ⟨yy, yr⟩ := y;simp only at hxl;refine rd cx mixed [] (fun K hK => by simp [push_cast, hx, hy, Row.row]; (repeat refine ob ?_); exact hK) ?_;refine rx cx [] (fun K hK => by simp [push_cast, Row.row]; (repeat refine ob ?_); exact hK) ?_;refine zd (by simp [push_cast] <;> exact rfl) (fun hb => ?_) (fun hb => ?_) <;> (refine Nav.imp ?_)
    ·have hn : a ≠ b := hno (by rintro ⟨⟩; simp at hb);refine rg cx ?_;simp [push_cast, hn]
    ·simp at hb;obtain ⟨hy0, hl0⟩ := hb;have hl0 : xr.length = yr.length := by omega
     subst hy0;refine rg cx ?_;refine zz (β := Nat) (fun j => ⟨65, [(2, .ptr 0 0 0), (3, .ptr 1 0 0), (5, .d (.int .i64 k)), (6, .ptr 2 0 0), (7, .ptr 3 0 0), (8, .d (.int .i64 j))], [(0, some ⟨24, 1, [(zt a).map .d]⟩), (1, some ⟨24, 1, [(zt b).map .d]⟩), (2, some ⟨65, 2, [(Row.row ⟨xy, xr⟩).map .d]⟩), (3, some ⟨65, 2, [(Row.row ⟨xy, yr⟩).map .d]⟩)], 4⟩) (fun j => j <= xr.length /\ xr.take j = yr.take j) (fun j => xr.length - j) 0 ?_ ⟨Nat.zero_le _, by simp⟩ ?_
     ·refine wq [(0, some 0), (1, some 1), (2, some 17), (3, some 18)] (by simp [upT, upH, upR, upL, up, push_cast, Row.row])
     ·rintro j ⟨hj, hpr⟩;refine Nav.imp ?_;refine rx cx [] (fun K hK => by simp [push_cast, Row.row]; (repeat refine ob ?_); exact hK) ?_;refine awp_cd (decide ((j : Int) < xr.length)) (fun hb => ?_) fun hb => ?_
      ·have hjl : j < xr.length := by simpa using hb
       obtain ⟨p, hp⟩ := zak hjl;obtain ⟨q, hq⟩ : ∃ y, yr[j]? = some y := zak (by omega);have e1 := wI ((j : Int) + 1);have hn2 : p ≠ q -> a ≠ b := fun h => hno fun e => by
        injection e with _ e2
        subst e2;rw [hp] at hq;exact h (Option.some.inj hq)
       obtain ⟨pa, pb⟩ := p;obtain ⟨qa, qb⟩ := q;refine rd cx mixed [] (fun K hK => by simp [push_cast, hp, hq, Row.row, Run.row]; (repeat refine ob ?_); exact hK) ?_;refine zd (by simp [push_cast] <;> exact rfl) (fun hb => ?_) (fun hb => ?_) <;> (refine Nav.imp ?_)
       ·have hn : a ≠ b := hn2 (by rintro ⟨⟩; simp at hb);refine rg cx ?_;simp [push_cast, hn]
       ·simp at hb;obtain ⟨h1, h2⟩ := hb;subst h1 h2;refine rx cx [] (fun K hK => by simp [push_cast, e1]; (repeat refine ob ?_); exact hK) ?_;refine ⟨j + 1, ⟨hjl, zuf hpr hp hq rfl⟩, by omega, ?_⟩;refine wq [(0, some 0), (1, some 1), (2, some 2), (3, some 3)] (by simp [upT, upH, upR, upL, up, push_cast, Row.row])
      ·have hjn : j = xr.length := by simp at hb; omega
       subst hjn;rw [List.take_length, hl0, List.take_length] at hpr;subst hpr;refine rx cx [] (fun K hK => by simp [push_cast, e0]; (repeat refine ob ?_); exact hK) ?_;refine ⟨k + 1, ⟨hlt, zuf hpre hx hy rfl⟩, by omega, ?_⟩;refine wk [(0, some 0), (1, some 1)]
   ·have hge : k = a.length := by simp at hb; omega
    subst hge;rw [List.take_length, hlen, List.take_length] at hpre;refine rg cx ?_;simp [push_cast, hpre]

def cfD : List D -> List D -> Int
 | [.int _ ax, .int _ ay], [.int _ bx, .int _ by'] => orI (zhj ay by') (zhj ax bx)
 | _, _ => 0
theorem orI_lt (a b c d : Int) : orI (zhj a b) (zhj c d) < 0 ↔ a < b \/ a = b /\ c < d := by
 unfold orI zhj;split <;> (try split) <;> (try split) <;> (try split) <;> omega
theorem zjs (a b : ze) : cfD a.row b.row < 0 ↔ bef a b = true := by
 obtain ⟨ax, ay⟩ := a;obtain ⟨bx, b'⟩ := b;simp only [cfD, ze.row, orI_lt, bef];simp
theorem cfD_ok : CmpOk Tryz.prog 115 VC cfD := by
 refine cmp_of_pc ?_;rintro _ _ ⟨a, rfl, _⟩ ⟨b, rfl, _⟩;have := ofCmp_ok a b;exact this
theorem cfD_ord : CmpOrd VC cfD where
 irrefl := by rintro _ ⟨a, rfl, _⟩; rw [zjs]; simp [bef]
 trans := by
  rintro _ _ _ ⟨a, rfl, _⟩ ⟨b, rfl, _⟩ ⟨c, rfl, _⟩;rw [zjs, zjs, zjs];simp [bef]; omega
 ntrans := by
  rintro _ _ _ ⟨a, rfl, _⟩ ⟨b, rfl, _⟩ ⟨c, rfl, _⟩;rw [zjs, zjs, zjs];simp [bef]; omega
theorem sortO_px (l : List ze) (hon : ∀ c ∈ l, onG c = true) (hl : l.length <= 1000000) : PX Tryz.prog 77 [.hs 0 0 l.length, .d (.fn (.func 115) [])] [(0, ⟨67, 2, dr (l.map ze.row)⟩)] [(0, 0)] [(0, ⟨67, 2, dr ((zsk l).map ze.row)⟩)] (.tup []) := by
 have h := zjl (P := Tryz.prog) zsl (k := 2) (by decide) (fun w => by kernel_rfl) (fun w => by kernel_rfl) ⟨_, Tryz.func77, by kernel_rfl, by kernel_rfl⟩ (cg := 115) (fun args w => by kernel_rfl) cfD_ok cfD_ord 67 (rows := l.map ze.row) (rows' := (zsk l).map ze.row)
  (fun r hr => by obtain ⟨c, hc, rfl⟩ := List.mem_map.1 hr; exact ⟨c, rfl, hon c hc⟩)
  (fun a ha b hb h1 h2 => by
   obtain ⟨c, hc, rfl⟩ := List.mem_map.1 ha;obtain ⟨d, hd, rfl⟩ := List.mem_map.1 hb;rw [zjs] at h1 h2;have e : c = d := leY_anti (bef_leY (by simpa using h1)) (bef_leY (by simpa using h2));rw [e])
  ((znm l).map _) (by
    rw [List.pairwise_map];refine (sortY_le l).imp fun {a b} h => ?_;rw [zjs];simp [bef, leY] at *; omega) (by simp; omega)
 simp only [List.length_map] at h;exact h

def zpw : Option (Int × List Run) -> List (List AV)
 | none => []
 | some (y, L) => [[.d (.int .i64 y), .hs 3 0 L.length]]
def zsc : Option (Int × List Run) -> List Run
 | none => []
 | some (_, L) => L
def ofX (P : List Row) : Option (Int × List Run) -> List Row
 | none => P
 | some (y, L) => P ++ [⟨y, L⟩]

set_option maxHeartbeats 4000000 in
theorem of_ok (l : List ze) (hl : l.length <= 1000000) : PC Tryz.prog 52 [zai l] (.p (ofD l)) := by
 have hD : ofD l = .tup [.agg (zt (ofR l)), .int .i64 (ofE l)] := rfl;rw [hD];refine pw cx Tryz.func52 Tryz.ntmps52 ?_;refine rg cx ?_;refine rg cx ?_;refine zz (β := Nat) (fun k => ⟨124, [(0, .d (zai l)), (2, .ptr 0 0 0), (3, .d (.int .i64 0)), (13, .d (zai l)), (14, .d (.int .i64 l.length)), (15, .d (.int .i64 k))], [(0, some ⟨24, 1, [[.nl]]⟩)], 1⟩) (fun k => k <= l.length /\ ∀ c ∈ l.take k, onG c = true) (fun k => l.length - k) 0 ?_ ⟨Nat.zero_le _, by simp⟩ ?_
 ·refine wk [(0, some 0)]
 ·rintro k ⟨hk, hon⟩;refine Nav.imp ?_;refine rg cx ?_;refine awp_cd (decide ((k : Int) < l.length)) (fun hb => ?_) fun hb => ?_
  ·have hlt : k < l.length := by simpa using hb
   obtain ⟨c, hc⟩ := zak hlt;have e0 := wI ((k : Int) + 1);have c1 := ok_ok c.x;have c2 := ok_ok c.y;have hv : onG c = (okB c.x && okB c.y) := by simp [onG, okB, Bool.and_assoc]
   have hbad : onG c = false -> ofR l = [] /\ ofE l = 8 := fun h => by
    have hall : l.all onG = false := by
     rw [Bool.eq_false_iff];intro h';have := List.all_eq_true.1 h' c (List.mem_of_getElem? hc);rw [h] at this; cases this
    exact ⟨by simp [ofR, hall], by simp [ofE, hall]⟩
   obtain ⟨x, y⟩ := c;simp only at c1 c2 hv;generalize okB x = p at *;generalize okB y = q at *;refine rx cx [] (fun K hK => by simp [push_cast, hc]; (repeat refine ob ?_); exact hK) ?_;cases p with
   | false =>
    obtain ⟨h1, h2⟩ := hbad (by rw [hv]; rfl);rw [h1, h2];refine rx cx [(2, .p (.bool false)), (7, .skip)] (fun K hK => by simp [push_cast, c1]; (repeat refine ob ?_); exact hK) ?_;refine awp_cd true (fun hb => ?_) fun hb => ?_
    ·refine rg cx ?_;simp [push_cast]
    ·simp at hb
   | true =>
    refine rx cx [(2, .p (.bool true)), (7, .p (.bool q))] (fun K hK => by simp [push_cast, c1, c2]; (repeat refine ob ?_); exact hK) ?_;refine awp_cd (!q) (fun hb => ?_) fun hb => ?_
    ·simp at hb;obtain ⟨h1, h2⟩ := hbad (by rw [hv, hb]; rfl);rw [h1, h2];refine rg cx ?_;simp [push_cast]
    ·simp at hb;refine rx cx [] (fun K hK => by simp [push_cast, e0]; (repeat refine ob ?_); exact hK) ?_;refine ⟨k + 1, ⟨hlt, fun d hd => ?_⟩, by omega, ?_⟩
     ·rw [zbm hc] at hd;rcases List.mem_append.1 hd with hd | hd
      ·exact hon d hd
      ·simp at hd; subst hd; rw [hv, hb]; rfl
     ·refine wk [(0, some 0)]
  ·have hge : k = l.length := by simp at hb; omega
   subst hge;rw [List.take_length] at hon;have hall : l.all onG = true := List.all_eq_true.2 hon;have h1 : ofR l = build (zsk l) := by simp [ofR, hall]
   have h2 : ofE l = 0 := by simp [ofE, hall]
   have c1 := clone_ok l hl;have c2 := sortO_px l hon hl;have hslen : (zsk l).length = l.length := (znm l).length_eq;have hson : ∀ c ∈ zsk l, onG c = true := fun c hc => hon c ((znm l).mem_iff.1 hc);rw [h1, h2];clear h1 h2 hb hall;generalize zsk l = s at *;refine rx cx [(1, .o 67 2 (l.map ze.row))] (fun K hK => by simp [push_cast, c1]; (repeat refine ob ?_); exact hK) ?_;refine rx cx [(1, .x ⟨[(0, 3)], [.hs 0 0 l.length, .d (.fn (.func 115) [])], [(0, ⟨67, 2, dr (l.map ze.row)⟩)], [(0, 0)], none, [(0, ⟨67, 2, dr (s.map ze.row)⟩)], .tup []⟩)] (fun K hK => by simp [push_cast, c2]; (repeat refine ob ?_); exact hK) ?_;rw [<- hslen];have hsl : s.length <= 1000000 := by omega
   refine zaf 3 (s.map ze.row) rfl (by simp [push_cast]) fun K hK => ?_;simp [push_cast, St.fz, fzT, fzH, fzO, fz, fzL, fzR, zbc, zat, zas, zaq];refine nx hK ?_; clear hK K;refine rg cx ?_;refine rg cx ?_;refine zz (β := Nat × List Row × Option (Int × List Run)) (fun b => ⟨124, [(2, .ptr 0 0 0), (3, .d (.int .i64 0)), (7, .ptr 1 0 0), (35, .d (zai s)), (36, .d (.int .i64 s.length)), (37, .d (.int .i64 b.1))], [(0, some ⟨24, 1, [[.nl]]⟩), (1, some ⟨24, 1, [[.hs 2 0 (b.2.1.length + (zpw b.2.2).length)]]⟩), (2, some ⟨65, 2, dr (b.2.1.map Row.row) ++ zpw b.2.2⟩), (3, some ⟨85, 2, dr ((zsc b.2.2).map Run.row)⟩)], 4⟩)
    (fun b => b.1 <= s.length /\ ofX b.2.1 b.2.2 = build (s.take b.1) /\ (b.2.2 = none -> b.2.1 = []) /\ (∀ y L, b.2.2 = some (y, L) -> L ≠ [])) (fun b => s.length - b.1) (0, [], none) ?_ ⟨Nat.zero_le _, by simp [ofX, build], fun _ => rfl, fun y L h => by cases h⟩ ?_
   ·refine wq [(0, some 0), (1, some 7), (2, none), (3, none)] (by simp [upT, upH, upR, upL, up, push_cast, zpw, zsc])
   ·rintro ⟨k, P, o⟩ ⟨hk, hX, hP0, hL0⟩;simp only at hk hX hP0 hL0;refine Nav.imp ?_;refine rx cx [] (fun K hK => by simp [push_cast, zpw, zsc]; (repeat refine ob ?_); exact hK) ?_;refine awp_cd (decide ((k : Int) < s.length)) (fun hb => ?_) fun hb => ?_
    ·have hlt : k < s.length := by simpa using hb
     obtain ⟨c, hc⟩ := zak hlt;have e0 := wI ((k : Int) + 1);have hcg := zje (hson c (List.mem_of_getElem? hc));have hnx : build (s.take (k + 1)) = zsg (ofX P o) c := by rw [build_take hc, hX]
     have hsm := build_small (s.take k);rw [<- hX] at hsm;have hXl : (ofX P o).length <= 1000000 := by have := hsm.1; simp at this; omega
     have hXr : ∀ w ∈ ofX P o, w.runs.length <= 1000000 := fun w hw => by have := hsm.2 w hw; simp at this; omega
     clear hX hsm;obtain ⟨x, y⟩ := c;simp only at hcg;have ex := wI (x + 1);rcases o with _ | ⟨wy, L⟩
     ·have hP := hP0 rfl;subst hP;simp only [ofX, zwk] at hnx;refine rx cx [] (fun K hK => by simp [push_cast, hc, zpw, zsc]; (repeat refine ob ?_); exact hK) ?_;refine rg cx ?_;refine rd cx mixed [] (fun K hK => by simp [push_cast]; (repeat refine ob ?_); exact hK) ?_;refine awp_cd true (fun hb => ?_) fun hb => ?_
      ·refine rx cx [] (fun K hK => by simp [push_cast, ex]; (repeat refine ob ?_); exact hK) ?_;refine rx cx [] (fun K hK => by simp [push_cast, e0]; (repeat refine ob ?_); exact hK) ?_;refine ⟨(k + 1, [], some (y, [⟨x, x + 1⟩])), ⟨hlt, hnx.symm, fun h => (by cases h), fun y L h => (by cases h; simp)⟩, by simp only; omega, ?_⟩;refine wq [(0, some 0), (1, some 1), (2, some 40), (3, some 37)] (by simp [upT, upH, upR, upL, up, push_cast, Row.row, Run.row, zpw, zsc])
      ·simp at hb
     ·have hLne := hL0 wy L rfl;simp only [ofX] at hnx hXl hXr;rw [zne] at hnx;have hLl := hXr ⟨wy, L⟩ (by simp);simp only at hnx hLl;simp at hXl;have hP32 : (P.length + 1 + 1) * 32 <= 140737488355328 := by omega
      have hL16 : (L.length + 1) * 16 <= 140737488355328 := by omega
      have hget : (dr (P.map Row.row) ++ [[AV.d (.int .i64 wy), AV.hs 3 0 L.length]])[P.length]? = some [AV.d (.int .i64 wy), AV.hs 3 0 L.length] := by
       rw [List.getElem?_append_right (by simp [dr])]; simp [dr]
      have hset : ∀ v, (dr (P.map Row.row) ++ [[AV.d (.int .i64 wy), AV.hs 3 0 L.length]]).set P.length v = dr (P.map Row.row) ++ [v] := fun v => by
       rw [List.set_append_right _ _ (by simp [dr])]; simp [dr]
      obtain ⟨A, hA⟩ : ∃ A, A = P ++ [(⟨wy, L⟩ : Row)] := ⟨_, rfl⟩
      have hfold : dr (P.map Row.row) ++ [[AV.d (.int .i64 wy), AV.d (.sl (L.map Run.row))]] = dr (A.map Row.row) := by rw [hA]; simp [dr, Row.row]
      have hAl : P.length + 1 = A.length := by rw [hA]; simp
      have e4 : ((P.length : Int) + 1 == 0) = false := by simp; omega
      have e6 := wI ((P.length : Int));refine rx cx [] (fun K hK => by simp [push_cast, hc, zpw, zsc]; (repeat refine ob ?_); exact hK) ?_;refine rg cx ?_;refine rd cx mixed [] (fun K hK => by simp [push_cast, hget, e4, e6]; (repeat refine ob ?_); exact hK) ?_;refine awp_cn (wy != y) (by simp [push_cast, e4]) (fun hb => ?_) fun hb => ?_
      ·have hb : ¬ wy = y := by simpa using hb
       rw [if_neg hb, <- hA] at hnx;refine zaf 3 (L.map Run.row) rfl (by simp [push_cast, hfold]) fun K hK => ?_;simp [push_cast, St.fz, fzT, fzH, fzO, fz, fzL, fzR, zbc, zat, zas, zaq, hfold];refine nx hK ?_; clear hK K;rw [hAl] at hP32 ⊢;clear hA hfold hget hset;refine rx cx [] (fun K hK => by simp [push_cast, ex, hP32]; (repeat refine ob ?_); exact hK) ?_;refine rx cx [] (fun K hK => by simp [push_cast, e0]; (repeat refine ob ?_); exact hK) ?_;refine ⟨(k + 1, A, some (y, [⟨x, x + 1⟩])), ⟨hlt, hnx.symm, fun h => (by cases h), fun y L h => (by cases h; simp)⟩, by simp only; omega, ?_⟩;refine wq [(0, some 0), (1, some 1), (2, some 40), (3, some 37)] (by simp [upT, upH, upR, upL, up, push_cast, Row.row, Run.row, zpw, zsc])
      ·have hb : wy = y := by simpa using hb
       subst hb;rw [if_pos rfl] at hnx;obtain ⟨L', r, rfl⟩ : ∃ L' r, L = L' ++ [r] := by
        rcases List.eq_nil_or_concat L with e | ⟨L', r, e⟩
        ·exact absurd e hLne
        ·exact ⟨L', r, by rw [e, List.concat_eq_append]⟩
       have hadd := zot L' r x;obtain ⟨ra, rb⟩ := r;simp only at hadd;have hz : (L' ++ [(⟨ra, rb⟩ : Run)])[L'.length]? = some ⟨ra, rb⟩ := by simp
       have hlen : (L' ++ [(⟨ra, rb⟩ : Run)]).length = L'.length + 1 := by simp
       have hset2 : ∀ m : Int, (dr ((L' ++ [(⟨ra, rb⟩ : Run)]).map Run.row)).set L'.length [AV.d (.int .i64 ra), AV.d (.int .i64 m)] = dr ((L' ++ [(⟨ra, m⟩ : Run)]).map Run.row) := fun m => by
        simp [dr, Run.row]
       have hlen2 : ∀ m : Int, (L' ++ [(⟨ra, m⟩ : Run)]).length = (L' ++ [(⟨ra, rb⟩ : Run)]).length := fun m => by simp
       generalize hB : L' ++ [(⟨ra, rb⟩ : Run)] = B at *;have e7 := wI ((B.length : Int) - 1);have e8 : ((B.length : Int) - 1).toNat = L'.length := by omega
       have e9 : (0 : Int) <= (B.length : Int) - 1 := by omega
       refine rx cx [] (fun K hK => by simp [push_cast, hget, e6]; (repeat refine ob ?_); exact hK) ?_;refine rd cx mixed [] (fun K hK => by simp [push_cast, hget, hz, e7, e8, e9]; (repeat refine ob ?_); exact hK) ?_;refine rd cx mixed [] (fun K hK => by simp [push_cast, hget, hz, Run.row]; (repeat refine ob ?_); exact hK) ?_;refine awp_cd (decide (rb < x)) (fun hb => ?_) fun hb => ?_
       ·have hb : rb < x := by simpa using hb
        rw [if_pos hb] at hadd;rw [hadd] at hnx;refine rd cx mixed [] (fun K hK => by simp [push_cast, hget, ex, hL16, hset]; (repeat refine ob ?_); exact hK) ?_;refine rx cx [] (fun K hK => by simp [push_cast, e0]; (repeat refine ob ?_); exact hK) ?_;refine ⟨(k + 1, P, some (wy, B ++ [(⟨x, x + 1⟩ : Run)])), ⟨hlt, hnx.symm, fun h => (by cases h), fun y L h => (by cases h; simp)⟩, by simp only; omega, ?_⟩;refine wq [(0, some 0), (1, some 1), (2, some 2), (3, some 64)] (by simp [upT, upH, upR, upL, up, push_cast, Row.row, Run.row, zpw, zsc])
       ·have hb : ¬ rb < x := by simpa using hb
        rw [if_neg hb] at hadd;rw [hadd] at hnx;have hne2 : L' ++ [(⟨ra, max rb (x + 1)⟩ : Run)] ≠ [] := by simp
        have hset2 := hset2 (max rb (x + 1));have hlen2 := hlen2 (max rb (x + 1));generalize L' ++ [(⟨ra, max rb (x + 1)⟩ : Run)] = C at *;refine rd cx mixed [] (fun K hK => by simp [push_cast, hget, hz, ex, hset2, Run.row]; (repeat refine ob ?_); exact hK) ?_;refine rx cx [] (fun K hK => by simp [push_cast, e0]; (repeat refine ob ?_); exact hK) ?_;rw [<- hlen2];refine ⟨(k + 1, P, some (wy, C)), ⟨hlt, hnx.symm, fun h => (by cases h), fun y L h => (by cases h; exact hne2)⟩, by simp only; omega, ?_⟩;refine wq [(0, some 0), (1, some 1), (2, some 2), (3, some 3)] (by simp [upT, upH, upR, upL, up, push_cast, Row.row, Run.row, zpw, zsc])
    ·have hge : k = s.length := by simp at hb; omega
     subst hge;rw [List.take_length] at hX;rw [<- hX];rcases o with _ | ⟨wy, L⟩
     ·have hP := hP0 rfl;subst hP;simp only [ofX, zpw, zsc];refine zaf 2 ([] : List (List D)) rfl (by simp [push_cast]) fun K hK => ?_;simp [push_cast, St.fz, fzT, fzH, fzO, fz, fzL, fzR, zbc, zat, zas, zaq];refine nx hK ?_; clear hK K;refine rg cx ?_;simp [push_cast]
     ·simp only [ofX, zpw, zsc];obtain ⟨A, hA⟩ : ∃ A, A = P ++ [(⟨wy, L⟩ : Row)] := ⟨_, rfl⟩
      have hfold : dr (P.map Row.row) ++ [[AV.d (.int .i64 wy), AV.d (.sl (L.map Run.row))]] = dr (A.map Row.row) := by rw [hA]; simp [dr, Row.row]
      have hAl : P.length + 1 = A.length := by rw [hA]; simp
      rw [<- hA];refine zaf 3 (L.map Run.row) rfl (by simp [push_cast, hfold]) fun K hK => ?_;simp [push_cast, St.fz, fzT, fzH, fzO, fz, fzL, fzR, zbc, zat, zas, zaq, hfold];refine nx hK ?_; clear hK K;rw [hAl];clear hA hfold;refine zaf 2 (A.map Row.row) rfl (by simp [push_cast, Row.row]) fun K hK => ?_;simp [push_cast, St.fz, fzT, fzH, fzO, fz, fzL, fzR, zbc, zat, zas, zaq, Row.row];refine nx hK ?_; clear hK K;refine rg cx ?_;simp [push_cast]

def zcr (l : List zm) : List ze := (l.filter zap).flatMap (·.cells)
theorem ztu {l : List zm} {k : Nat} {t : zm} (h : l[k]? = some t) : zcr (l.take (k + 1)) = zcr (l.take k) ++ (if zap t then t.cells else []) := by
 unfold zcr;rw [zbm h, List.filter_append, List.flatMap_append]
 congr 1
 by_cases hv : zap t = true <;> simp [hv]
theorem znc {l : List zm} {k : Nat} (hk : k <= l.length) : (zcr (l.take k)).length <= (tc l).length := by
 have h1 : ∀ m : List zm, (zcr m).length <= (tc m).length := by
  intro m;induction m with
  | nil => simp [zcr, tc]
  | cons t m ih =>
   unfold zcr tc at *;by_cases hv : zap t = true
   ·simp [hv]; simpa using ih
   ·simp [hv]; simp at ih; omega
 have h2 : (tc (l.take k)).length <= (tc l).length := by
  conv => rhs; rw [<- List.take_append_drop k l, zgw, List.length_append]
  omega
 exact Nat.le_trans (h1 _) h2

theorem cover_ok (l : List zm) (hc : ∀ t ∈ l, t.cells.length <= 65536) (hl : l.length <= 1000) (hn : (tc l).length <= 1000000) : PC Tryz.prog 27 [zah l] (.p (.agg (zt (ofR (zcr l))))) := by
 refine pw cx Tryz.func27 Tryz.ntmps27 ?_;iterate 3 refine rg cx ?_
 refine zz (β := Nat × List ze) (fun b => ⟨27, [(2, .ptr 0 0 0), (3, .hs 1 0 b.2.length), (8, .d (zah l)), (9, .d (.int .i64 l.length)), (10, .d (.int .i64 b.1))], [(0, some ⟨24, 1, [[.nl]]⟩), (1, some ⟨67, 2, dr (b.2.map ze.row)⟩)], 2⟩) (fun b => b.1 <= l.length /\ b.2 = zcr (l.take b.1)) (fun b => l.length - b.1) (0, []) ?_ ⟨Nat.zero_le _, by simp [zcr]⟩ ?_
 ·refine wk [(0, some 0), (1, none)]
 ·rintro ⟨k, Z⟩ ⟨hk, hZ⟩;simp only at hk hZ;refine Nav.imp ?_;refine rg cx ?_;refine awp_cd (decide ((k : Int) < l.length)) (fun hb => ?_) fun hb => ?_
  ·have hlt : k < l.length := by simpa using hb
   obtain ⟨t, ht⟩ := zak hlt;have htl := hc t (List.mem_of_getElem? ht);have c1 := tvalid_ok t htl;have hnx := ztu ht;rw [<- hZ] at hnx;have hZl : Z.length <= 1000000 := by rw [hZ]; exact Nat.le_trans (znc hk) hn
   have e0 := wI ((k : Int) + 1);have hb16 : (Z.length + t.cells.length) * 16 <= 140737488355328 := by omega
   generalize zap t = v at *;obtain ⟨ro, cl, ce⟩ := t;simp only at htl hnx hb16;refine rx cx [] (fun K hK => by simp [push_cast, ht, zm.row]; (repeat refine ob ?_); exact hK) ?_;refine rx cx [(1, .p (.bool v))] (fun K hK => by simp [push_cast, c1, zm.row]; (repeat refine ob ?_); exact hK) ?_;refine awp_cd v (fun hb => ?_) fun hb => ?_
   ·rw [if_pos hb] at hnx;refine rx cx [] (fun K hK => by simp [push_cast, hb16, zm.row]; (repeat refine ob ?_); exact hK) ?_;refine rx cx [] (fun K hK => by simp [push_cast, e0]; (repeat refine ob ?_); exact hK) ?_;refine ⟨(k + 1, Z ++ ce), ⟨hlt, hnx.symm⟩, by simp only; omega, ?_⟩;refine wk [(0, some 0), (1, some 12)]
   ·have hnx : zcr (l.take (k + 1)) = Z := by rw [hnx, hb]; simp
    refine rx cx [] (fun K hK => by simp [push_cast, e0]; (repeat refine ob ?_); exact hK) ?_;refine ⟨(k + 1, Z), ⟨hlt, hnx.symm⟩, by simp only; omega, ?_⟩;refine wk [(0, some 0), (1, some 1)]
  ·have hge : k = l.length := by simp at hb; omega
   subst hge;have hZl : Z.length <= 1000000 := by rw [hZ]; exact Nat.le_trans (znc hk) hn
   rw [List.take_length] at hZ;rw [<- hZ];have c1 := of_ok Z hZl;have hD : ofD Z = .tup [.agg (zt (ofR Z)), .int .i64 (ofE Z)] := rfl;rw [hD] at c1;clear hZ hD;generalize ofR Z = R at *;generalize ofE Z = e at *;refine zaf 1 (Z.map ze.row) rfl (by simp [push_cast]) fun K hK => ?_;simp [push_cast, St.fz, fzT, fzH, fzO, fz, fzL, fzR, zbc, zat, zas, zaq];refine nx hK ?_; clear hK K;refine rx cx [(1, .p (.tup [.agg (zt R), .int .i64 e]))] (fun K hK => by simp [push_cast, c1]; (repeat refine ob ?_); exact hK) ?_;refine rg cx ?_;simp [push_cast]
end Go.Proofs.YtdddknniooimmaaGreat
