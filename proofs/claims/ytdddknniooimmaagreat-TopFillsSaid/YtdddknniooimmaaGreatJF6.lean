/-
  Texts of this seat put together: Q2, G1, F1, W2, AbsS, S1, Q3, Q4.
-/
import Derived.Test.YtdddknniooimmaaGreatJF5
import Derived.Test.YtdddknniooimmaaGreatJF3
import Derived.Shelf.SlSortCmp.NoneTotal
import Derived.Lib.QuietBelow
import Derived.Test.YtdddknniooimmaaGreatChecked
import Derived.Deep.RegionHeld3
import Derived.Deep.DrawnRows
set_option linter.unusedVariables false
set_option linter.unusedSimpArgs false
set_option maxRecDepth 100000
set_option linter.unusedSectionVars false
namespace Go.Proofs.YtdddknniooimmaaGreat
open Go.Abs

def ltY (a b : ze) : Prop := a.y < b.y \/ a.y = b.y /\ a.x < b.x
def ltX (a b : ze) : Prop := a.x < b.x \/ a.x = b.x /\ a.y < b.y
def leX (a b : ze) : Bool := decide (a.x < b.x) || (decide (a.x = b.x) && decide (a.y <= b.y))
def zkb (l : List ze) : List ze := l.mergeSort leX

theorem zfd (l : List ze) : (zkb l).Perm l := List.mergeSort_perm l leX
theorem sortX_le (l : List ze) : (zkb l).Pairwise fun a b => leX a b = true :=
 List.pairwise_mergeSort (fun a b c h1 h2 => by simp [leX] at *; omega) (fun a b => by simp [leX]; omega) l

theorem zlf {R : List Row} (h : zo R = true) : R.Pairwise fun a b => a.y < b.y := by
 rw [List.pairwise_iff_getElem];intro i j hi hj hij;exact zul h j i R[j] R[i] hij (List.getElem?_eq_getElem hj) (List.getElem?_eq_getElem hi)
theorem runs_pw {l : List Run} (h : zel l = true) : l.Pairwise fun p r => p.b < r.a := by
 rw [List.pairwise_iff_getElem];intro i j hi hj hij;exact runs_lt h j i l[j] l[i] hij (List.getElem?_eq_getElem hj) (List.getElem?_eq_getElem hi)
theorem zrk {y : Int} {r : Run} {c : ze} (h : c ∈ zgx y r) (hr : r.a < r.b) : c.y = y /\ r.a <= c.x /\ c.x < r.b := by
 unfold zgx at h;split at h
 ·simp at h; subst h; exact ⟨rfl, Int.le_refl _, hr⟩
 ·simp at h

theorem sng_pw {R : List Row} (h : zo R = true) : (zcc R).Pairwise ltY := by
 unfold zcc;rw [List.pairwise_flatMap];refine ⟨fun w hw => ?_, ?_⟩
 ·unfold ztb;rw [List.pairwise_flatMap];refine ⟨fun r hr => ?_, ?_⟩
  ·unfold zgx; split <;> simp
  ·have := runs_pw (zbx h hw).2;refine List.Pairwise.imp_of_mem (fun {p r} hp hr hpr => ?_) this;intro a ha b hb;have h1 := zrk ha (zdv h hw hp).2.1;have h2 := zrk hb (zdv h hw hr).2.1;exact .inr ⟨by omega, by omega⟩
 ·refine List.Pairwise.imp_of_mem (fun {w v} hw hv hwv => ?_) (zlf h);intro a ha b hb;simp only [ztb, List.mem_flatMap] at ha hb;obtain ⟨r, hr, ha⟩ := ha;obtain ⟨p, hp, hb⟩ := hb;have h1 := zrk ha (zdv h hw hr).2.1;have h2 := zrk hb (zdv h hv hp).2.1;exact .inl (by omega)

theorem zge {R : List Row} (h : zo R = true) : (zk R).Pairwise ltY := by
 unfold zk;rw [List.pairwise_flatMap];refine ⟨fun w hw => ?_, ?_⟩
 ·unfold zcj;rw [List.pairwise_flatMap];refine ⟨fun r hr => ?_, ?_⟩
  ·unfold zaa;rw [List.pairwise_map];exact List.Pairwise.imp (fun {a b} hab => .inr ⟨rfl, by simp only; omega⟩) List.pairwise_lt_range
  ·refine List.Pairwise.imp_of_mem (fun {p r} hp hr hpr => ?_) (runs_pw (zbx h hw).2);intro a ha b hb;have h1 := zfr.1 ha;have h2 := zfr.1 hb;exact .inr ⟨by omega, by omega⟩
 ·refine List.Pairwise.imp_of_mem (fun {w v} hw hv hwv => ?_) (zlf h);intro a ha b hb;simp only [zcj, List.mem_flatMap] at ha hb;obtain ⟨r, hr, ha⟩ := ha;obtain ⟨p, hp, hb⟩ := hb;have h1 := zfr.1 ha;have h2 := zfr.1 hb;exact .inl (by omega)

theorem zca {l : List ze} (h : l.Pairwise ltY) : l.Nodup :=
 h.imp fun {a b} hab e => by subst e; simp [ltY] at hab
theorem sortX_lt {l : List ze} (h : l.Nodup) : (zkb l).Pairwise ltX := by
 have h1 := sortX_le l;have h2 : (zkb l).Nodup := (zfd l).nodup_iff.2 h;refine List.Pairwise.imp₂ (fun {a b} hab hne => ?_) h1 h2;simp [leX] at hab;unfold ltX;by_cases e : a.x = b.x
 ·refine .inr ⟨e, ?_⟩;have : a.y ≠ b.y := fun e2 => hne (by cases a; cases b; simp at e e2; simp [e, e2]);omega
 ·exact .inl (by omega)
theorem sortX_mem {l : List ze} (c : ze) : c ∈ zkb l ↔ c ∈ l := (zfd l).mem_iff

theorem zrl {s : List ze} (h : s.Pairwise ltX) {i j : Nat} {a b : ze} (ha : s[i]? = some a) (hb : s[j]? = some b) (hij : i < j) : ltX a b := by
 obtain ⟨hi, rfl⟩ := List.getElem?_eq_some_iff.1 ha;obtain ⟨hj, rfl⟩ := List.getElem?_eq_some_iff.1 hb;exact (List.pairwise_iff_getElem.1 h) i j hi hj hij
theorem ztk {a : ze} : ¬ ltX a a := by simp [ltX]
theorem up_next {s : List ze} (h : s.Pairwise ltX) {j : Nat} {a : ze} (ha : s[j]? = some a) (hu : upc a ∈ s) : s[j + 1]? = some (upc a) := by
 obtain ⟨m, hm⟩ := List.mem_iff_getElem?.1 hu;have hl : ltX a (upc a) := by simp [ltX, upc]; omega
 rcases Nat.lt_trichotomy m (j + 1) with hlt | e | hgt
 ·exfalso
  by_cases e : m = j
  ·subst e; rw [ha] at hm; have := Option.some.inj hm; rw [<- this] at hl; exact ztk hl
  ·have := zrl h hm ha (by omega);simp [ltX, upc] at this; omega
 ·rw [e] at hm; exact hm
 ·exfalso
  obtain ⟨b, hb⟩ : ∃ b, s[j + 1]? = some b := zak (by have := (List.getElem?_eq_some_iff.1 hm).1; omega);have h1 := zrl h ha hb (by omega);have h2 := zrl h hb hm hgt;simp [ltX, upc] at h1 h2; omega
theorem down_prev {s : List ze} (h : s.Pairwise ltX) {j : Nat} {a b : ze} (ha : s[j]? = some a) (hb : s[j + 1]? = some b) : vst s b = true ↔ ¬ (b.x = a.x /\ b.y = a.y + 1) := by
 simp only [vst, Bool.not_eq_true', decide_eq_false_iff_not];apply not_congr
 constructor
 ·intro hm;obtain ⟨m, hm⟩ := List.mem_iff_getElem?.1 hm;have hu : upc (⟨b.x, b.y - 1⟩ : ze) = b := by cases b; simp [upc]
  have := up_next h hm (by rw [hu]; exact List.mem_of_getElem? hb);rw [hu] at this;have he : m + 1 = j + 1 := by
   rcases Nat.lt_trichotomy (m + 1) (j + 1) with hlt | e | hgt
   ·exact absurd (zrl h this hb hlt) ztk
   ·exact e
   ·exact absurd (zrl h hb this hgt) ztk
  have he : m = j := by omega
  subst he;rw [ha] at hm;have := Option.some.inj hm;rw [this]; exact ⟨rfl, by simp only; omega⟩
 ·rintro ⟨h1, h2⟩;have : (⟨b.x, b.y - 1⟩ : ze) = a := by cases a; simp at h1 h2 ⊢; omega
  rw [this]; exact List.mem_of_getElem? ha

theorem vst_first {s : List ze} (h : s.Pairwise ltX) {a : ze} (ha : s[0]? = some a) : vst s a = true := by
 simp only [vst, Bool.not_eq_true', decide_eq_false_iff_not];intro hm;obtain ⟨m, hm⟩ := List.mem_iff_getElem?.1 hm;by_cases e : m = 0
 ·subst e; rw [ha] at hm; have := Option.some.inj hm; have := congrArg ze.y this; simp at this; omega
 ·have := zrl h ha hm (by omega);simp [ltX] at this; omega

def vT (s : List ze) (c : ze) : List zm := if vst s c then [trk (vch s c)] else []
def zdb (s : List ze) : List zm := s.flatMap (vT s)

theorem zsu {s l : List ze} (h : s.Perm l) : (zdb s).Perm (zdb l) := by
 have e : vT s = vT l := by
  funext c
  simp only [vT, vst_congr (fun c => h.mem_iff), vch_congr (fun c => h.mem_iff)]
 unfold zdb;rw [e];exact h.flatMap_right _
theorem upT_first {s : List ze} {c : ze} {t : zm} (hc : c ∈ s) (hon : onG c = true) (ht : t ∈ vT s c) : t = trk (vch s c) /\ ∃ l, t.cells = c :: l := by
 unfold vT at ht;split at ht
 ·simp at ht;subst ht;have := zje hon;exact ⟨rfl, _, vch_in hc (by omega)⟩
 ·simp at ht
theorem zhu {s : List ze} (hon : ∀ c ∈ s, onG c = true) {t : zm} (ht : t ∈ zdb s) : ∃ c ∈ s, t = trk (vch s c) /\ ∃ l, t.cells = c :: l := by
 obtain ⟨c, hc, h⟩ := List.mem_flatMap.1 ht;exact ⟨c, hc, upT_first hc (hon c hc) h⟩
theorem vch_sub (s : List ze) : ∀ (n : Nat) (c d : ze), d ∈ vN s n c -> d ∈ s
 | 0, c, d, h => by simp [vN] at h
 | n + 1, c, d, h => by
  simp only [vN] at h;split at h
  ·rename_i hc;rcases List.mem_cons.1 h with rfl | h
   ·exact hc
   ·exact vch_sub s n _ d h
  ·simp at h
theorem vN_len (s : List ze) : ∀ (n : Nat) (c : ze), (vN s n c).length <= n
 | 0, c => by simp [vN]
 | n + 1, c => by
  simp only [vN];split
  ·have := vN_len s n (upc c); simp; omega
  ·simp
theorem upAll_pw {l : List ze} (hp : l.Pairwise ltY) (hon : ∀ c ∈ l, onG c = true) : (zdb l).Pairwise fun s t => ltY ((s.cells[0]?).getD ⟨0, 0⟩) ((t.cells[0]?).getD ⟨0, 0⟩) := by
 unfold zdb;rw [List.pairwise_flatMap];refine ⟨fun c hc => ?_, ?_⟩
 ·unfold vT; split <;> simp
 ·refine List.Pairwise.imp_of_mem (fun {a b} ha hb hab => ?_) hp;intro s hs t ht;obtain ⟨_, _, e1⟩ := upT_first ha (hon a ha) hs;obtain ⟨_, _, e2⟩ := upT_first hb (hon b hb) ht;rw [e1, e2];exact hab

def addRun (l : List Run) (x : Int) : List Run := match l.getLast? with
 | none => [⟨x, x + 1⟩]
 | some r => if r.b < x then l ++ [⟨x, x + 1⟩] else l.dropLast ++ [⟨r.a, max r.b (x + 1)⟩]
def zsg (R : List Row) (c : ze) : List Row := match R.getLast? with
 | none => [⟨c.y, [⟨c.x, c.x + 1⟩]⟩]
 | some w => if w.y = c.y then R.dropLast ++ [⟨w.y, addRun w.runs c.x⟩] else R ++ [⟨c.y, [⟨c.x, c.x + 1⟩]⟩]
def build (l : List ze) : List Row := l.foldl zsg []

theorem addRun_nil (x : Int) : addRun [] x = [⟨x, x + 1⟩] := rfl
theorem zot (l : List Run) (r : Run) (x : Int) : addRun (l ++ [r]) x = if r.b < x then l ++ [r] ++ [⟨x, x + 1⟩] else l ++ [⟨r.a, max r.b (x + 1)⟩] := by simp [addRun]
theorem zwk (c : ze) : zsg [] c = [⟨c.y, [⟨c.x, c.x + 1⟩]⟩] := rfl
theorem zne (R : List Row) (w : Row) (c : ze) : zsg (R ++ [w]) c = if w.y = c.y then R ++ [⟨w.y, addRun w.runs c.x⟩] else R ++ [w] ++ [⟨c.y, [⟨c.x, c.x + 1⟩]⟩] := by simp [zsg]
theorem addC_len (R : List Row) (c : ze) : (zsg R c).length <= R.length + 1 := by
 rcases List.eq_nil_or_concat R with rfl | ⟨R', w, rfl⟩
 ·simp [zwk]
 ·rw [List.concat_eq_append, zne]; split <;> simp
theorem build_take {l : List ze} {k : Nat} {c : ze} (h : l[k]? = some c) : build (l.take (k + 1)) = zsg (build (l.take k)) c := by
 simp [build, zbm h]

theorem build_run (P : List Row) (L : List Run) (y a : Int) : ∀ (n j : Nat), ((List.range n).map fun k : Nat => (⟨a + (j + 1) + k, y⟩ : ze)).foldl zsg (P ++ [⟨y, L ++ [⟨a, a + j + 1⟩]⟩]) = P ++ [⟨y, L ++ [⟨a, a + j + 1 + n⟩]⟩]
 | 0, j => by simp
 | n + 1, j => by
  rw [List.range_succ_eq_map, List.map_cons, List.foldl_cons, zne, zot];simp only [if_true, Int.natCast_zero, Int.add_zero];have h1 : ¬ a + (j : Int) + 1 < a + ((j : Int) + 1) := by omega
  have h2 : max (a + (j : Int) + 1) (a + ((j : Int) + 1) + 1) = a + ((j + 1 : Nat) : Int) + 1 := by omega
  rw [if_neg h1, h2];have := build_run P L y a n (j + 1);rw [List.map_map];have e : ((fun k : Nat => (⟨a + ((j : Int) + 1) + k, y⟩ : ze)) ∘ Nat.succ) = fun k : Nat => (⟨a + (((j + 1 : Nat) : Int) + 1) + k, y⟩ : ze) := by
   funext k; simp; omega
  rw [e, this]
  congr 4
  simp; omega
theorem run_cells {y : Int} {r : Run} (h : r.a < r.b) : ∃ n : Nat, r.b = r.a + 1 + n /\ zaa y r = ⟨r.a, y⟩ :: (List.range n).map fun k : Nat => (⟨r.a + ((0 : Nat) + 1) + k, y⟩ : ze) := by
 refine ⟨(r.b - r.a - 1).toNat, by omega, ?_⟩;unfold zaa;rw [show (r.b - r.a).toNat = (r.b - r.a - 1).toNat + 1 from by omega, List.range_succ_eq_map, List.map_cons, List.map_map]
 congr 1
 ·simp
 ·apply List.map_congr_left; intro k _; simp; omega
theorem build_next (P : List Row) (L : List Run) (y : Int) (r : Run) (h : r.a < r.b) (hL : L ≠ []) (hgap : ∀ p, L.getLast? = some p -> p.b < r.a) : (zaa y r).foldl zsg (P ++ [⟨y, L⟩]) = P ++ [⟨y, L ++ [r]⟩] := by
 obtain ⟨n, hn, hc⟩ := run_cells (y := y) h;obtain ⟨L', p, rfl⟩ : ∃ L' p, L = L' ++ [p] := by
  rcases List.eq_nil_or_concat L with e | ⟨L', p, e⟩
  ·exact absurd e hL
  ·exact ⟨L', p, by rw [e, List.concat_eq_append]⟩
 have := hgap p (by simp);rw [hc, List.foldl_cons, zne, zot];simp only [if_true];rw [if_pos this];have h2 := build_run P (L' ++ [p]) y r.a n 0;simp only [Int.natCast_zero, Int.add_zero, Int.zero_add] at h2 ⊢;rw [h2, <- hn]
theorem build_first (P : List Row) (y : Int) (r : Run) (h : r.a < r.b) (hP : ∀ w, P.getLast? = some w -> w.y ≠ y) : (zaa y r).foldl zsg P = P ++ [⟨y, [r]⟩] := by
 obtain ⟨n, hn, hc⟩ := run_cells (y := y) h;rw [hc, List.foldl_cons];have h1 : zsg P ⟨r.a, y⟩ = P ++ [⟨y, [] ++ [⟨r.a, r.a + (0 : Nat) + 1⟩]⟩] := by
  rcases List.eq_nil_or_concat P with rfl | ⟨P', w, rfl⟩
  ·simp [zwk]
  ·rw [List.concat_eq_append] at hP ⊢;have := hP w (by simp);rw [zne, if_neg this]; simp
 have h2 := build_run P [] y r.a n 0;rw [h1];simp only [Int.natCast_zero, Int.add_zero, Int.zero_add, List.nil_append] at h2 ⊢;rw [h2, <- hn]
theorem build_runs (P : List Row) (y : Int) : ∀ (l L : List Run), L ≠ [] -> zel (L ++ l) = true -> (l.flatMap (zaa y)).foldl zsg (P ++ [⟨y, L⟩]) = P ++ [⟨y, L ++ l⟩]
 | [], L, _, _ => by simp
 | r :: l, L, hL, hf => by
  rw [List.flatMap_cons, List.foldl_append];have hr : (L ++ r :: l)[L.length]? = some r := by simp
  have h1 := zhh hf hr;rw [build_next P L y r h1.2.1 hL]
  ·have := build_runs P y l (L ++ [r]) (by simp) (by simpa using hf);rw [this]; simp
  ·intro p hp;rw [List.getLast?_eq_getElem?] at hp;have hlp : 0 < L.length := List.length_pos_iff.2 hL;refine fine_gap hf (k := L.length - 1) (by rw [show L.length - 1 + 1 = L.length from by omega]; exact hr) ?_;rw [List.getElem?_append_left (by omega)]; exact hp
theorem build_row (P : List Row) (w : Row) (hw : zel w.runs = true) (hP : ∀ v, P.getLast? = some v -> v.y ≠ w.y) : (zcj w).foldl zsg P = P ++ [w] := by
 obtain ⟨y, l⟩ := w;cases l with
 | nil => simp [zel] at hw
 | cons r l =>
  have h1 := zhh hw (k := 0) (r := r) (by simp);simp only [zcj, List.flatMap_cons, List.foldl_append];rw [build_first P y r h1.2.1 hP, build_runs P y l [r] (by simp) hw];simp
theorem build_rows {R : List Row} (h : zo R = true) : ∀ (n : Nat), n <= R.length -> ((R.take n).flatMap zcj).foldl zsg [] = R.take n
 | 0, _ => by simp
 | n + 1, hn => by
  obtain ⟨w, hw⟩ : ∃ w, R[n]? = some w := zak (by omega);rw [zbm hw, List.flatMap_append, List.foldl_append, build_rows h n (by omega)];simp only [List.flatMap_cons, List.flatMap_nil, List.append_nil];refine build_row _ w (zcq h hw).2 fun v hv => ?_;rw [List.getLast?_eq_getElem?, List.length_take, Nat.min_eq_left (by omega)] at hv;by_cases e : n = 0
  ·subst e; simp at hv
  ·rw [List.getElem?_take, if_pos (by omega)] at hv;have := zsr h (i := n - 1) (by rw [show n - 1 + 1 = n from by omega]; exact hw) hv;omega
theorem zqr {R : List Row} (h : zo R = true) : build (zk R) = R := by
 have := build_rows h R.length (Nat.le_refl _)
 rwa [List.take_length] at this

def leY (a b : ze) : Bool := decide (a.y < b.y) || (decide (a.y = b.y) && decide (a.x <= b.x))
def zsk (l : List ze) : List ze := l.mergeSort leY
theorem znm (l : List ze) : (zsk l).Perm l := List.mergeSort_perm l leY
theorem sortY_le (l : List ze) : (zsk l).Pairwise fun a b => leY a b = true :=
 List.pairwise_mergeSort (fun a b c h1 h2 => by simp [leY] at *; omega) (fun a b => by simp [leY]; omega) l
theorem leY_anti {a b : ze} (h1 : leY a b = true) (h2 : leY b a = true) : a = b := by
 cases a; cases b; simp [leY] at *; omega
theorem znl : ∀ {l l' : List ze}, l.Perm l' -> (l.Pairwise fun a b => leY a b = true) -> (l'.Pairwise fun a b => leY a b = true) -> l = l'
 | [], l', h, _, _ => by have := h.length_eq; simp at this; exact (List.length_eq_zero_iff.1 this.symm).symm
 | a :: l, [], h, _, _ => by have := h.length_eq; simp at this
 | a :: l, b :: l', h, h2, h3 => by
  have hab : a = b := by
   have ha : a ∈ b :: l' := h.subset (by simp);have hb : b ∈ a :: l := h.symm.subset (by simp);rcases List.mem_cons.1 ha with e | ha
   ·exact e
   ·rcases List.mem_cons.1 hb with e | hb
    ·exact e.symm
    ·exact leY_anti ((List.pairwise_cons.1 h2).1 b hb) ((List.pairwise_cons.1 h3).1 a ha)
  subst hab;rw [znl h.cons_inv (List.pairwise_cons.1 h2).2 (List.pairwise_cons.1 h3).2]
theorem leY_of_lt {a b : ze} (h : ltY a b) : leY a b = true := by simp [leY, ltY] at *; omega
theorem sortY_cells {R : List Row} (h : zo R = true) {l : List ze} (hp : l.Perm (zk R)) : zsk l = zk R :=
 znl ((znm l).trans hp) (sortY_le l) ((zge h).imp fun h => leY_of_lt h)


theorem vT_len (l : List ze) (c : ze) : (vT l c).length <= 1 := by unfold vT; split <;> simp
theorem flat_one {α β : Type} {f : α -> List β} (h : ∀ x, (f x).length <= 1) : ∀ l : List α, (l.flatMap f).length <= l.length
 | [] => by simp
 | x :: l => by
  have := h x; have := flat_one h l;rw [List.flatMap_cons, List.length_append, List.length_cons]; omega
theorem take_flat_one {α β : Type} {f : α -> List β} (h : ∀ x, (f x).length <= 1) (l : List α) (k : Nat) : ((l.take k).flatMap f).length <= l.length := by
 have := flat_one h (l.take k);simp at this ⊢; omega

end Go.Proofs.YtdddknniooimmaaGreat

namespace Go.Abs
variable [Flag]
open Go.Shelf Go.RowKit Go.Lib Go.Sort Go.Proofs

theorem sorted_uniq {α : Type} (le : α -> α -> Prop) : ∀ (l l' : List α), l.Perm l' -> l.Pairwise le -> l'.Pairwise le -> (∀ a ∈ l, ∀ b ∈ l, le a b -> le b a -> a = b) -> l = l'
 | [], l', h, _, _, _ => by have := h.length_eq; simp at this; exact (List.length_eq_zero_iff.1 this.symm).symm
 | a :: l, [], h, _, _, _ => by have := h.length_eq; simp at this
 | a :: l, b :: l', h, h1, h2, h3 => by
  have hab : a = b := by
   have ha : a ∈ b :: l' := h.subset (by simp);have hb : b ∈ a :: l := h.symm.subset (by simp);rcases List.mem_cons.1 ha with e | ha
   ·exact e
   ·rcases List.mem_cons.1 hb with e | hb
    ·exact e.symm
    ·exact h3 a (by simp) b (by simp [hb]) ((List.pairwise_cons.1 h1).1 b hb) ((List.pairwise_cons.1 h2).1 a ha)
  subst hab;rw [sorted_uniq le l l' h.cons_inv (List.pairwise_cons.1 h1).2 (List.pairwise_cons.1 h2).2 (fun x hx y hy => h3 x (by simp [hx]) y (by simp [hy]))]

def CmpOk (P : Program) (cg : FuncId) (V : List D -> Prop) (cf : List D -> List D -> Int) : Prop :=
 ∀ (ro : Nat -> Prop) (w : World) (a b : List D) (va vb : List Value), (∀ blk, ro blk -> blk < w.heap.size) -> V a -> V b -> zq ro w a va -> zq ro w b vb -> zbl va -> zbl vb ->
  Calls P cg #[.agg va.toArray, .agg vb.toArray] w fun e w' => e = .returned (.int .i64 (cf a b)) /\ ∃ q os, w' = grow (w.drewN q) os

structure CmpOrd (V : List D -> Prop) (cf : List D -> List D -> Int) : Prop where
 irrefl : ∀ a, V a -> ¬ cf a a < 0
 trans : ∀ a b c, V a -> V b -> V c -> cf a b < 0 -> cf b c < 0 -> cf a c < 0
 ntrans : ∀ a b c, V a -> V b -> V c -> ¬ cf a b < 0 -> ¬ cf b c < 0 -> ¬ cf a c < 0

section
variable (ro : Nat -> Prop) (w : World) (V : List D -> Prop) (k : Nat)
def Elt : Type := { x : List D × List Value // V x.1 /\ x.2.length = k /\ zbl x.2 /\ zq ro w x.1 x.2 }
def Elt.enc (x : Elt ro w V k) : List Value := x.1.2
end

theorem heap_sort {α : Type} [Inhabited α] (enc : α -> List Value) (k : Nat) (w : World) (blk m : Nat) (d : Array α) (os : Array Obj) {b : Nat} (hb : b < w.heap.size) (hne : b ≠ blk) : (sortWorldK enc k w blk 0 m d os).heap[b]? = w.heap[b]? := by
 unfold sortWorldK;rw [heap_grow_old _ _ (by simpa [putRowK] using hb)];simp only [putRowK, putRow, mapBlock, heap_ahead];rw [Array.getElem?_modify, if_neg (fun h => hne h.symm)]

theorem heap_sort_blk {α : Type} [Inhabited α] (enc : α -> List Value) (k : Nat) (w : World) (blk m : Nat) (d : Array α) (os : Array Obj) {cur : Array Value} {e : TypeId} {fr : Nat × Nat} (h : w.heap[blk]? = some (.cells cur e fr)) : (sortWorldK enc k w blk 0 m d os).heap[blk]? = some (.cells (Go.Sort.putCells id 0 (flatK enc k d) cur) e fr) := by
 have hb : blk < w.heap.size := (Array.getElem?_eq_some_iff.1 h).1;unfold sortWorldK;rw [heap_grow_old _ _ (by simpa [putRowK] using hb)];simp only [putRowK, putRow, mapBlock, heap_ahead];rw [Array.getElem?_modify, if_pos rfl, h];rfl

theorem size_sort {α : Type} [Inhabited α] (enc : α -> List Value) (k : Nat) (w : World) (blk m : Nat) (d : Array α) (os : Array Obj) : w.heap.size <= (sortWorldK enc k w blk 0 m d os).heap.size := by
 unfold sortWorldK;rw [size_grow];simp [putRowK]

theorem drawn_sort {α : Type} [Inhabited α] (enc : α -> List Value) (k : Nat) (w : World) (blk m : Nat) (d : Array α) (os : Array Obj) : w.drawn <= (sortWorldK enc k w blk 0 m d os).drawn := by
 simp [sortWorldK, putRowK, grow, putRow, mapBlock, ahead]

theorem cmp_of_pc {P : Program} {cg : FuncId} {V : List D -> Prop} {cf : List D -> List D -> Int} (h : ∀ a b, V a -> V b -> PC P cg [.agg a, .agg b] (.p (.int .i64 (cf a b)))) (hF : ¬ Flag.p := by exact fun h => h) : CmpOk P cg V cf := by
 intro ro w a b va vb hro ha hb ra rb oa ob;refine ((h a b ha hb).2 ro w [.agg va.toArray, .agg vb.toArray] hro ?_).mono ?_
 ·simp only [zq, zr];exact ⟨_, _, rfl, ⟨va, rfl, oa, ra⟩, _, _, rfl, ⟨vb, rfl, ob, rb⟩, rfl⟩
 ·rintro e w' ⟨v, he, hB, hr⟩;simp only [zdn, zr] at hr;refine ⟨by rw [he, hr], ?_⟩;obtain ⟨p, hp⟩ := regrown_of_below hB.kit;have hd : w'.drawn = w.drawn + (w'.drawn - w.drawn) := by have := hB.tape.2.resolve_left hF; omega
  refine ⟨w'.drawn - w.drawn, p.os, ?_⟩;have hpd : p.d = w'.drawn := by rw [hp]; rfl
  rw [hp];simp only [grow, redrawn, World.drewN];rw [hp] at hd;simp only [grow, redrawn] at hd
  congr 1

theorem cmp_lays {P : Program} {cg : FuncId} {V : List D -> Prop} {cf : List D -> List D -> Int} (hc : CmpOk P cg V cf) {ro : Nat -> Prop} {w : World} {k blk size : Nat} (hro : ∀ b, ro b -> b < w.heap.size /\ b ≠ blk) [Inhabited (Elt ro w V k)] :
  CmpLays P cg #[] (Elt.enc ro w V k) k (fun x y => cf x.1.1 y.1.1) blk 0 size w := by
 intro m os dk _ x y;have hf : Fut ro w ro (sortWorldK (Elt.enc ro w V k) k w blk 0 m dk os) := fun b hb => ⟨hb, heap_sort _ _ _ _ _ _ _ (hro b hb).1 (hro b hb).2⟩
 obtain ⟨hx1, _, ox, hx2⟩ := x.2;obtain ⟨hy1, _, oy, hy2⟩ := y.2;have := hc ro (sortWorldK (Elt.enc ro w V k) k w blk 0 m dk os) x.1.1 y.1.1 x.1.2 y.1.2 (fun b hb => Nat.lt_of_lt_of_le (hro b hb).1 (size_sort _ _ _ _ _ _ _)) hx1 hy1 (zq.mono hf _ _ hx2) (zq.mono hf _ _ hy2) ox oy;simpa [Elt.enc] using this

theorem sortFunc_px {P : Program} {ρ : Ren} (L : SlLaysF0.n6 P ρ) {k : Nat} (hk0 : 0 < k) (aE : ∀ w, (isAgg (ρ.t 24)).run P w = .ok true w) (zE : ∀ w, (Go.sizeOf (ρ.t 24)).run P w = .ok k w) (hent : zjg P (ρ.f 6)) {cg : FuncId}
  (eg : ∀ args w, (callFunc cg args).run P w = .ok (.enter cg args) w) {V : List D -> Prop} {cf : List D -> List D -> Int} (hc : CmpOk P cg V cf) (hO : CmpOrd V cf) (e : TypeId) {rows rows' : List (List D)} (hV : ∀ r ∈ rows, V r)
  (hanti : ∀ a ∈ rows, ∀ b ∈ rows, ¬ cf b a < 0 -> ¬ cf a b < 0 -> a = b) (hp : rows'.Perm rows) (hs : rows'.Pairwise fun a b => ¬ cf b a < 0) (hn : 0 < rows.length) (hsz : rows.length < 4611686018427387904) (fv : AV)
  (hfv : ∀ g w v, zh g w fv v -> v = .func (.func cg) #[] #[]) :
  PX P (ρ.f 6) [.hs 0 0 rows.length, fv] [(0, ⟨e, k, dr rows⟩)] [(0, 0)] [(0, ⟨e, k, dr rows'⟩)] (.tup []) := by
 refine ⟨hent, fun g w vs h hu hvs => ?_⟩;simp only [zj] at hvs;obtain ⟨v0, _, rfl, h0, v1, _, rfl, h1, rfl⟩ := hvs;have e1 := hfv g w v1 h1;obtain ⟨L0, hL, hok⟩ := h.own 0 ⟨e, k, dr rows⟩ (by simp [zkm, find]);have hkm : L0.m = k := hok.m;have hlenr : (dr rows).length = rows.length := by simp [dr]
 have hvirt : L0.virt = false := by
  cases hv : L0.virt with
  | false => rfl
  | true =>
   have h2 : (dr rows).length = 0 := by rw [show dr rows = [] from hok.virt hv]; rfl
   omega
 simp only [zh] at h0;have hflat : L0.virt = false /\ L0.map = false := by
  rcases h0.2 L0 hL with ⟨hv, _⟩ | ⟨hv, _⟩
  ·rw [hvirt] at hv; cases hv
  ·exact hv
 have hvm := hflat.2;obtain ⟨cur, hR, hcs, hcap, hrows⟩ := hok.cells hflat;have hR' := hR;obtain ⟨el0, fr0, hblk, hx1, hx2⟩ := hR';have e0 : v0 = .slice (some ⟨L0.blk, 0, none⟩) rows.length L0.cap := by
  rcases h0.2 L0 hL with ⟨hv, _⟩ | ⟨_, _, hv⟩
  ·rw [hvirt] at hv; cases hv
  ·rw [hv]; simp
 have hcapl : rows.length <= L0.cap := by have := hok.len hvm; rw [hlenr] at this; exact this
 have hblt : L0.blk < w.heap.size := (Array.getElem?_eq_some_iff.1 hblk).1;have hnro : ¬ g.ro L0.blk := ((h.live 0 L0 hL).2 hvirt).2;have hro : ∀ b, g.ro b -> b < w.heap.size /\ b ≠ L0.blk := fun b hb => ⟨h.ro b hb, fun e => hnro (e ▸ hb)⟩
 have hcsz : rows.length * k <= cur.size := by rw [hcs, hkm]; exact Nat.mul_le_mul_right k hcapl
 have hin : ∀ i, i < rows.length -> i * k + k <= cur.size := fun i hi => by
  have := Nat.mul_le_mul_right k (show i + 1 <= rows.length from hi);rw [Nat.add_mul, Nat.one_mul] at this; omega
 -- the cells of element i
 have hel : ∀ i (hi : i < rows.length), V rows[i] /\ (cur.toList.drop (i * k) |>.take k).length = k /\ zbl (cur.toList.drop (i * k) |>.take k) /\ zq g.ro w rows[i] (cur.toList.drop (i * k) |>.take k) := by
  intro i hi;have hrow := hrows i (rows[i].map AV.d) (by simp [dr, hi]);have hl : (cur.toList.drop (i * k) |>.take k).length = k := by
   have := hin i hi;simp only [List.length_take, List.length_drop, Array.length_toList]; omega
  have hget : ∀ j, j < k -> (cur.toList.drop (i * k) |>.take k)[j]? = cur[i * k + j]? := fun j hj => by
   rw [List.getElem?_take, if_pos hj, List.getElem?_drop, Array.getElem?_toList]
  have hrl : rows[i].length = k := by have := hrow.1; rw [hkm] at this; simpa using this
  refine ⟨hV _ (List.getElem_mem hi), hl, ?_, ?_⟩
  ·intro v hv;obtain ⟨j, hj⟩ := List.mem_iff_getElem?.1 hv;have hjk : j < k := by have := (List.getElem?_eq_some_iff.1 hj).1; omega
   rw [hget j hjk] at hj;obtain ⟨u, hu1, hu2, _⟩ := hrow.2 j (.d (rows[i][j]'(by omega))) (by simp [show j < rows[i].length by omega]);rw [hkm, hj] at hu1;cases hu1;exact hu2
  ·refine zq.of_get (by rw [hl, hrl]) fun j x hj => ?_;have hjk : j < k := by have := (List.getElem?_eq_some_iff.1 hj).1; omega
   obtain ⟨u, hu1, _, hu3⟩ := hrow.2 j (.d x) (by simp [hj]);rw [hkm] at hu1;exact ⟨u, by rw [hget j hjk, hu1], by simpa only [zh] using hu3⟩
 let mk : _root_.Fin rows.length -> Elt g.ro w V k := fun i => ⟨(rows[i.1], (cur.toList.drop (i.1 * k)).take k), hel i.1 i.2⟩
 let d : Array (Elt g.ro w V k) := Array.ofFn mk
 haveI : Inhabited (Elt g.ro w V k) := ⟨mk ⟨0, hn⟩⟩
 have hds : d.size = rows.length := by simp [d]
 have hdi : ∀ i (hi : i < rows.length), d[i]! = mk ⟨i, hi⟩ := fun i hi => by
  rw [getElem!_pos d i (by rw [hds]; exact hi)]; simp [d]
 have hdl : d.toList.map (fun x => x.1.1) = rows := by
  apply List.ext_getElem
  ·simp [d]
  ·intro i h1 h2;have hi : i < d.size := by simpa using h1
   rw [List.getElem_map, Array.getElem_toList];have e := hdi i h2;rw [getElem!_pos d i hi] at e;rw [e]
 have hH : HoldsK (Elt.enc g.ro w V k) k w L0.blk 0 d := by
  intro j hj;have hjs : j < rows.length * k := by simpa [hds] using hj
  have hdk : j / k < rows.length := Nat.div_lt_of_lt_mul (by rwa [Nat.mul_comm] at hjs);have hmod : j % k < k := Nat.mod_lt j hk0;have hdm : j / k * k + j % k = j := by rw [Nat.mul_comm]; exact Nat.div_add_mod j k
  rw [get_flatK _ _ _ _ (by rw [hds]; exact hjs), hdi _ hdk];have hlt : j < cur.size := by omega
  refine ⟨?_, ?_⟩
  ·simp only [World.cell?, hblk, Nat.zero_add];simp only [Option.isSome_none, Bool.false_eq_true, if_false, id_eq];have hl2 := (hel _ hdk).2.1;rw [getElem!_pos _ _ (by rw [show (Elt.enc g.ro w V k (mk ⟨j / k, hdk⟩)) = (cur.toList.drop (j / k * k)).take k from rfl, hl2]; exact hmod)];simp only [Elt.enc, mk, List.getElem_take, List.getElem_drop, Array.getElem_toList, hdm];exact Array.getElem?_eq_getElem hlt
  ·simpa using hR.open (o := j) hlt
 have hswo : SWO (ltOf fun x y : Elt g.ro w V k => cf x.1.1 y.1.1) := by
  refine ⟨fun x => ?_, fun x y z h1 h2 => ?_, fun x y z h1 h2 => ?_⟩
  ·simpa [ltOf] using hO.irrefl x.1.1 x.2.1
  ·simp only [ltOf, decide_eq_true_eq] at h1 h2 ⊢;exact hO.trans _ _ _ x.2.1 y.2.1 z.2.1 h1 h2
  ·simp only [ltOf, decide_eq_false_iff_not] at h1 h2 ⊢;exact hO.ntrans _ _ _ x.2.1 y.2.1 z.2.1 h1 h2
 have hmain := AnyQ.slices_SortFunc L k aE zE (Elt.enc g.ro w V k) (fun x => x.2.2.1) (fun x v hv => x.2.2.2.1 v hv) (fun x y => cf x.1.1 y.1.1) hswo cg #[] L0.blk 0 L0.cap d w eg (cmp_lays hc hro) hH hblt (by rw [hds]; exact hsz);rw [hds] at hmain;rw [e0, e1];refine hmain.mono ?_;rintro ex w' ⟨rfl, d', n, os, hperm, hsort, rfl⟩;obtain ⟨hps, _, hpp⟩ := hperm;have hex : ∀ a : Array (Elt g.ro w V k), a.size = rows.length -> (a.extract 0 rows.length) = a := fun a ha => by rw [<- ha]; simp
 rw [hex d' (by rw [hps, hds]), hex d hds] at hpp;have hrows' : d'.toList.map (fun x => x.1.1) = rows' := by
  refine sorted_uniq (fun a b => ¬ cf b a < 0) _ _ ((hpp.map _).trans (by rw [hdl]; exact hp.symm)) ?_ hs ?_
  ·rw [List.pairwise_map, List.pairwise_iff_getElem];intro i j hi hj hij;have hj' : j < d'.size := by simpa using hj
   have := hsort i j (Nat.zero_le _) hij (by rw [hps, hds] at hj'; exact hj');rw [getElem!_pos d' i (by omega), getElem!_pos d' j hj'] at this;simpa [ltOf] using this
  ·intro a ha b hb hab hba;have hsub : ∀ x, x ∈ d'.toList.map (fun x => x.1.1) -> x ∈ rows := fun x hx => by
    have := (hpp.map (fun x : Elt g.ro w V k => x.1.1)).subset hx
    rwa [hdl] at this
   exact hanti a (hsub a ha) b (hsub b hb) hab hba
 have hd's : d'.size = rows.length := by rw [hps, hds]
 have hbs : zfl ((sortWorldK (Elt.enc g.ro w V k) k w L0.blk 0 n d' os).heap[L0.blk]?) e (Go.Sort.putCells id 0 (flatK (Elt.enc g.ro w V k) k d') cur) := ⟨el0, fr0, heap_sort_blk _ _ _ _ _ _ _ hblk, hx1, by simp only [Go.Sort.putCells, Array.size_mapIdx]; exact hx2⟩
 obtain ⟨g', h1, h2, h3, h4, h5, h6⟩ := zam.write h hL hflat (id' := 0) (.inl rfl) ⟨e, k, dr rows'⟩ (Go.Sort.putCells id 0 (flatK (Elt.enc g.ro w V k) k d') cur) (w' := sortWorldK (Elt.enc g.ro w V k) k w L0.blk 0 n d' os) (cap := L0.cap) (B := L0.blk) rfl ⟨rfl, .inr (drawn_sort _ _ _ _ _ _ _)⟩ rfl (size_sort _ _ _ _ _ _ _)
  (fun b hb hne => heap_sort _ _ _ _ _ _ _ hb hne) (.inl rfl) hbs hkm.symm hok.pos (by simp only [Go.Sort.putCells, Array.size_mapIdx]; exact hcs) (by have := hp.length_eq; simp [dr]; omega) hcap (fun _ => ⟨rfl, rfl⟩) (by
   intro i row hi;have hil : i < rows'.length := by have := (List.getElem?_eq_some_iff.1 hi).1; simpa [dr] using this
   have hil2 : i < rows.length := by have := hp.length_eq; omega
   have hid : i < d'.size := by omega
   have hri : rows'[i] = (d'[i]'hid).1.1 := by
    have : (d'.toList.map (fun x => x.1.1))[i]'(by simpa using hid) = rows'[i] := by simp only [hrows']
    rw [<- this]; simp
   have hrow : row = rows'[i].map AV.d := by
    have : (dr rows')[i]? = some (rows'[i].map AV.d) := by simp [dr, hil]
    rw [this] at hi; exact (Option.some.inj hi).symm
   obtain ⟨x1, x2, x3, x4⟩ := (d'[i]'hid).2;subst hrow;rw [hri, hkm];have hxl : (d'[i]'hid).1.1.length = k := by have := x4.length; omega
   refine ⟨by simp [hxl], fun j av hj => ?_⟩;have hjk : j < k := by have := (List.getElem?_eq_some_iff.1 hj).1; simp at this; omega
   have hav : av = .d ((d'[i]'hid).1.1[j]'(by omega)) := by
    rw [List.getElem?_map, List.getElem?_eq_getElem (by omega)] at hj;exact (Option.some.inj hj).symm
   obtain ⟨v, hv1, hv2⟩ := x4.get j _ (List.getElem?_eq_getElem (by omega));have hdiv : (i * k + j) / k = i := (blk_iff k i _ hk0).1 ⟨by omega, by omega⟩;have hmod : (i * k + j) % k = j := by rw [Nat.mod_eq_sub_div_mul, hdiv]; omega
   have hlt : i * k + j < rows.length * k := by have := Nat.mul_le_mul_right k (show i + 1 <= rows.length from hil2); rw [Nat.add_mul, Nat.one_mul] at this; omega
   refine ⟨v, ?_, x3 v (List.mem_of_getElem? hv1), ?_⟩
   ·have hlc : i * k + j < cur.size := by omega
    have hc1 : (Go.Sort.putCells id 0 (flatK (Elt.enc g.ro w V k) k d') cur)[i * k + j]? = some ((flatK (Elt.enc g.ro w V k) k d')[i * k + j]!) := by
     simp only [Go.Sort.putCells, Array.getElem?_mapIdx, Array.getElem?_eq_getElem hlc, Option.map_some];rw [if_pos ⟨Nat.zero_le _, by rw [size_flatK, hd's]; omega⟩];simp
    rw [hc1, get_flatK _ _ _ _ (by rw [hd's]; exact hlt), hdiv, hmod, getElem!_pos d' i hid];simp only [Elt.enc];obtain ⟨hjl, hjv⟩ := List.getElem?_eq_some_iff.1 hv1;rw [getElem!_pos _ j hjl, hjv]
   ·rw [hav];simpa only [zh] using hv2)
 refine ⟨_, g', rfl, ?_, ?_, h5, ?_⟩
 ·have : (zbh (zbh (zkm [(0, ⟨e, k, dr rows⟩)]) 0 none) 0 (some ⟨e, k, dr rows'⟩)) = zkm [(0, ⟨e, k, dr rows'⟩)] := by
   funext x
   simp only [zbh, zkm, find];by_cases hx : x = 0
   ·subst hx; simp
   ·have hx' : ¬ (0 = x) := fun h => hx h.symm;simp [hx, hx']
  rw [<- this]; exact h4
 ·simp only [zh, zj];exact ⟨[], rfl, rfl⟩
 ·intro i j hij;simp only [List.mem_cons, List.not_mem_nil, or_false, Prod.mk.injEq] at hij;obtain ⟨rfl, rfl⟩ := hij;rw [h1, hL];cases L0; simp_all

theorem sortFunc_px0 {P : Program} {ρ : Ren} (L : SlLaysF0.n6 P ρ) {k : Nat} (hk0 : 0 < k) (hent : zjg P (ρ.f 6)) (e : TypeId) (fv : AV) :
  PX P (ρ.f 6) [.hs 0 0 0, fv] [(0, ⟨e, k, []⟩)] [(0, 0)] [(0, ⟨e, k, []⟩)] (.tup []) := by
 refine ⟨hent, fun g w vs h hu hvs => ?_⟩;simp only [zj] at hvs;obtain ⟨v0, _, rfl, h0, v1, _, rfl, h1, rfl⟩ := hvs;obtain ⟨L0, hL, hok⟩ := h.own 0 ⟨e, k, []⟩ (by simp [zkm, find]);simp only [zh] at h0;have e0 : ∃ p c, v0 = .slice p 0 c := by
  rcases h0.2 L0 hL with ⟨_, _, _, a0, hv⟩ | ⟨_, _, hv⟩
  ·exact ⟨a0, _, hv⟩
  ·exact ⟨_, _, hv⟩
 obtain ⟨p, c, rfl⟩ := e0;refine (AnyF.slices_SortFunc_none { L with } p c v1 w).mono ?_;rintro ex w' ⟨rfl, rfl⟩;refine ⟨_, g, rfl, h, ?_, zan.refl g _, ?_⟩
 ·simp only [zh, zj]; exact ⟨[], rfl, rfl⟩
 ·intro i j hij;simp only [List.mem_cons, List.not_mem_nil, or_false, Prod.mk.injEq] at hij;obtain ⟨rfl, rfl⟩ := hij;rfl

theorem zjl {P : Program} {ρ : Ren} (L : SlLaysF0.n6 P ρ) {k : Nat} (hk0 : 0 < k) (aE : ∀ w, (isAgg (ρ.t 24)).run P w = .ok true w) (zE : ∀ w, (Go.sizeOf (ρ.t 24)).run P w = .ok k w) (hent : zjg P (ρ.f 6)) {cg : FuncId}
  (eg : ∀ args w, (callFunc cg args).run P w = .ok (.enter cg args) w) {V : List D -> Prop} {cf : List D -> List D -> Int} (hc : CmpOk P cg V cf) (hO : CmpOrd V cf) (e : TypeId) {rows rows' : List (List D)} (hV : ∀ r ∈ rows, V r)
  (hanti : ∀ a ∈ rows, ∀ b ∈ rows, ¬ cf b a < 0 -> ¬ cf a b < 0 -> a = b) (hp : rows'.Perm rows) (hs : rows'.Pairwise fun a b => ¬ cf b a < 0) (hsz : rows.length < 4611686018427387904) :
  PX P (ρ.f 6) [.hs 0 0 rows.length, .d (.fn (.func cg) [])] [(0, ⟨e, k, dr rows⟩)] [(0, 0)] [(0, ⟨e, k, dr rows'⟩)] (.tup []) := by
 by_cases hn : rows = []
 ·subst hn;have : rows' = [] := hp.eq_nil;subst this;exact sortFunc_px0 L hk0 hent e _
 ·refine sortFunc_px L hk0 aE zE hent eg hc hO e hV hanti hp hs (List.length_pos_iff.2 hn) hsz _ fun g w v hv => ?_;simp only [zh, zr] at hv;obtain ⟨vs, rfl, h2⟩ := hv;simp only [zq] at h2;rw [h2]

end Go.Abs

namespace Go.Proofs.YtdddknniooimmaaGreat
open Go.Abs Go.Shelf Go.RowKit Go.Lib Go.Sort

def sortCell_ren : Go.Shelf.Ren := ⟨fun | 6 => 77 | 15 => 133 | 14 => 132 | 28 => 191 | 29 => 192 | 20 => 183 | 21 => 184 | 22 => 185 | 23 => 186 | 24 => 187 | 25 => 188 | 26 => 189 | 27 => 190 | 46 => 233 | 47 => 234 | 48 => 235 | 49 => 236 | 50 => 237 | 57 => 274 | n => n, fun | 22 => 75 | 24 => 67 | 25 => 107 | 3 => 3 | 39 => 174 | 0 => 0 | 53 => 228 | 55 => 230 | 4 => 4 | 46 => 222 | 45 => 221 | 50 => 204 | 5 => 5 | 9 => 9 | 66 => 256 | 70 => 260 | 76 => 284 | 77 => 148 | n => n, fun n => n⟩
theorem zsl : SlLaysF0.n6 Tryz.prog sortCell_ren where
 mixed := by kernel_rfl
 f6 := ⟨Tryz.f77.name, by kernel_rfl, Tryz.func77.trans (congrArg some (by kernel_rfl))⟩
 f14 := ⟨Tryz.f132.name, by kernel_rfl, Tryz.func132.trans (congrArg some (by kernel_rfl))⟩
 f15 := Tryz.func133.trans (congrArg some (by kernel_rfl))
 f20 := ⟨Tryz.f183.name, by kernel_rfl, Tryz.func183.trans (congrArg some (by kernel_rfl))⟩
 f21 := ⟨Tryz.f184.name, by kernel_rfl, Tryz.func184.trans (congrArg some (by kernel_rfl))⟩
 f22 := ⟨Tryz.f185.name, by kernel_rfl, Tryz.func185.trans (congrArg some (by kernel_rfl))⟩
 f23 := ⟨Tryz.f186.name, by kernel_rfl, Tryz.func186.trans (congrArg some (by kernel_rfl))⟩
 f24 := ⟨Tryz.f187.name, by kernel_rfl, Tryz.func187.trans (congrArg some (by kernel_rfl))⟩
 f25 := ⟨Tryz.f188.name, by kernel_rfl, Tryz.func188.trans (congrArg some (by kernel_rfl))⟩
 f26 := ⟨Tryz.f189.name, by kernel_rfl, Tryz.func189.trans (congrArg some (by kernel_rfl))⟩
 f27 := ⟨Tryz.f190.name, by kernel_rfl, Tryz.func190.trans (congrArg some (by kernel_rfl))⟩
 f28 := Tryz.func191.trans (congrArg some (by kernel_rfl))
 f29 := Tryz.func192.trans (congrArg some (by kernel_rfl))
 f46 := ⟨Tryz.f233.name, by kernel_rfl, Tryz.func233.trans (congrArg some (by kernel_rfl))⟩
 f47 := Tryz.func234.trans (congrArg some (by kernel_rfl))
 f48 := Tryz.func235.trans (congrArg some (by kernel_rfl))
 f49 := ⟨Tryz.f236.name, by kernel_rfl, Tryz.func236.trans (congrArg some (by kernel_rfl))⟩
 f50 := ⟨Tryz.f237.name, by kernel_rfl, Tryz.func237.trans (congrArg some (by kernel_rfl))⟩
 f57 := ⟨Tryz.f274.name, by kernel_rfl, Tryz.func274.trans (congrArg some (by kernel_rfl))⟩
 t0 := Tryz.underlying0
 a0 := Tryz.isAgg0
 z0 := Tryz.sizeOf0
 v0 := Tryz.zeroValue0
 t3 := Tryz.underlying3
 a3 := Tryz.isAgg3
 z3 := Tryz.sizeOf3
 v3 := Tryz.zeroValue3
 t4 := Tryz.underlying4
 a4 := Tryz.isAgg4
 z4 := Tryz.sizeOf4
 v4 := Tryz.zeroValue4
 t5 := Tryz.underlying5
 a5 := Tryz.isAgg5
 z5 := Tryz.sizeOf5
 v5 := Tryz.zeroValue5
 t9 := Tryz.underlying9
 a9 := Tryz.isAgg9
 z9 := Tryz.sizeOf9
 v9 := Tryz.zeroValue9
 t22 := Tryz.underlying75
 a22 := Tryz.isAgg75
 z22 := Tryz.sizeOf75
 v22 := Tryz.zeroValue75
 t25 := Tryz.underlying107
 a25 := Tryz.isAgg107
 z25 := Tryz.sizeOf107
 v25 := Tryz.zeroValue107
 t39 := Tryz.underlying174
 a39 := Tryz.isAgg174
 z39 := Tryz.sizeOf174
 v39 := Tryz.zeroValue174
 t45 := Tryz.underlying221
 a45 := Tryz.isAgg221
 z45 := Tryz.sizeOf221
 v45 := Tryz.zeroValue221
 t46 := Tryz.underlying222
 a46 := Tryz.isAgg222
 z46 := Tryz.sizeOf222
 v46 := Tryz.zeroValue222
 t50 := Tryz.underlying204
 a50 := Tryz.isAgg204
 z50 := Tryz.sizeOf204
 v50 := Tryz.zeroValue204
 t53 := Tryz.underlying228
 a53 := Tryz.isAgg228
 z53 := Tryz.sizeOf228
 v53 := Tryz.zeroValue228
 t55 := Tryz.underlying230
 a55 := Tryz.isAgg230
 z55 := Tryz.sizeOf230
 v55 := Tryz.zeroValue230
 t66 := Tryz.underlying256
 a66 := Tryz.isAgg256
 z66 := Tryz.sizeOf256
 v66 := Tryz.zeroValue256
 t70 := Tryz.underlying260
 a70 := Tryz.isAgg260
 z70 := Tryz.sizeOf260
 v70 := Tryz.zeroValue260
 t76 := Tryz.underlying284
 a76 := Tryz.isAgg284
 z76 := Tryz.sizeOf284
 v76 := Tryz.zeroValue284
 t77 := Tryz.underlying148
 a77 := Tryz.isAgg148
 z77 := Tryz.sizeOf148
 v77 := Tryz.zeroValue148
def sortTrack_ren : Go.Shelf.Ren := ⟨fun | 6 => 80 | 15 => 133 | 14 => 134 | 28 => 191 | 29 => 192 | 20 => 193 | 21 => 194 | 22 => 195 | 23 => 196 | 24 => 197 | 25 => 198 | 26 => 199 | 27 => 200 | 46 => 238 | 47 => 234 | 48 => 235 | 49 => 239 | 50 => 240 | 57 => 275 | n => n, fun | 22 => 37 | 24 => 94 | 25 => 110 | 3 => 3 | 39 => 174 | 0 => 0 | 53 => 228 | 55 => 230 | 4 => 4 | 46 => 222 | 45 => 221 | 50 => 204 | 5 => 5 | 9 => 9 | 66 => 256 | 70 => 260 | 76 => 284 | 77 => 148 | n => n, fun n => n⟩
theorem sortTrack_lays : SlLaysF0.n6 Tryz.prog sortTrack_ren where
 mixed := by kernel_rfl
 f6 := ⟨Tryz.f80.name, by kernel_rfl, Tryz.func80.trans (congrArg some (by kernel_rfl))⟩
 f14 := ⟨Tryz.f134.name, by kernel_rfl, Tryz.func134.trans (congrArg some (by kernel_rfl))⟩
 f15 := Tryz.func133.trans (congrArg some (by kernel_rfl))
 f20 := ⟨Tryz.f193.name, by kernel_rfl, Tryz.func193.trans (congrArg some (by kernel_rfl))⟩
 f21 := ⟨Tryz.f194.name, by kernel_rfl, Tryz.func194.trans (congrArg some (by kernel_rfl))⟩
 f22 := ⟨Tryz.f195.name, by kernel_rfl, Tryz.func195.trans (congrArg some (by kernel_rfl))⟩
 f23 := ⟨Tryz.f196.name, by kernel_rfl, Tryz.func196.trans (congrArg some (by kernel_rfl))⟩
 f24 := ⟨Tryz.f197.name, by kernel_rfl, Tryz.func197.trans (congrArg some (by kernel_rfl))⟩
 f25 := ⟨Tryz.f198.name, by kernel_rfl, Tryz.func198.trans (congrArg some (by kernel_rfl))⟩
 f26 := ⟨Tryz.f199.name, by kernel_rfl, Tryz.func199.trans (congrArg some (by kernel_rfl))⟩
 f27 := ⟨Tryz.f200.name, by kernel_rfl, Tryz.func200.trans (congrArg some (by kernel_rfl))⟩
 f28 := Tryz.func191.trans (congrArg some (by kernel_rfl))
 f29 := Tryz.func192.trans (congrArg some (by kernel_rfl))
 f46 := ⟨Tryz.f238.name, by kernel_rfl, Tryz.func238.trans (congrArg some (by kernel_rfl))⟩
 f47 := Tryz.func234.trans (congrArg some (by kernel_rfl))
 f48 := Tryz.func235.trans (congrArg some (by kernel_rfl))
 f49 := ⟨Tryz.f239.name, by kernel_rfl, Tryz.func239.trans (congrArg some (by kernel_rfl))⟩
 f50 := ⟨Tryz.f240.name, by kernel_rfl, Tryz.func240.trans (congrArg some (by kernel_rfl))⟩
 f57 := ⟨Tryz.f275.name, by kernel_rfl, Tryz.func275.trans (congrArg some (by kernel_rfl))⟩
 t0 := Tryz.underlying0
 a0 := Tryz.isAgg0
 z0 := Tryz.sizeOf0
 v0 := Tryz.zeroValue0
 t3 := Tryz.underlying3
 a3 := Tryz.isAgg3
 z3 := Tryz.sizeOf3
 v3 := Tryz.zeroValue3
 t4 := Tryz.underlying4
 a4 := Tryz.isAgg4
 z4 := Tryz.sizeOf4
 v4 := Tryz.zeroValue4
 t5 := Tryz.underlying5
 a5 := Tryz.isAgg5
 z5 := Tryz.sizeOf5
 v5 := Tryz.zeroValue5
 t9 := Tryz.underlying9
 a9 := Tryz.isAgg9
 z9 := Tryz.sizeOf9
 v9 := Tryz.zeroValue9
 t22 := Tryz.underlying37
 a22 := Tryz.isAgg37
 z22 := Tryz.sizeOf37
 v22 := Tryz.zeroValue37
 t25 := Tryz.underlying110
 a25 := Tryz.isAgg110
 z25 := Tryz.sizeOf110
 v25 := Tryz.zeroValue110
 t39 := Tryz.underlying174
 a39 := Tryz.isAgg174
 z39 := Tryz.sizeOf174
 v39 := Tryz.zeroValue174
 t45 := Tryz.underlying221
 a45 := Tryz.isAgg221
 z45 := Tryz.sizeOf221
 v45 := Tryz.zeroValue221
 t46 := Tryz.underlying222
 a46 := Tryz.isAgg222
 z46 := Tryz.sizeOf222
 v46 := Tryz.zeroValue222
 t50 := Tryz.underlying204
 a50 := Tryz.isAgg204
 z50 := Tryz.sizeOf204
 v50 := Tryz.zeroValue204
 t53 := Tryz.underlying228
 a53 := Tryz.isAgg228
 z53 := Tryz.sizeOf228
 v53 := Tryz.zeroValue228
 t55 := Tryz.underlying230
 a55 := Tryz.isAgg230
 z55 := Tryz.sizeOf230
 v55 := Tryz.zeroValue230
 t66 := Tryz.underlying256
 a66 := Tryz.isAgg256
 z66 := Tryz.sizeOf256
 v66 := Tryz.zeroValue256
 t70 := Tryz.underlying260
 a70 := Tryz.isAgg260
 z70 := Tryz.sizeOf260
 v70 := Tryz.zeroValue260
 t76 := Tryz.underlying284
 a76 := Tryz.isAgg284
 z76 := Tryz.sizeOf284
 v76 := Tryz.zeroValue284
 t77 := Tryz.underlying148
 a77 := Tryz.isAgg148
 z77 := Tryz.sizeOf148
 v77 := Tryz.zeroValue148

def cfX : List D -> List D -> Int
 | [.int _ ax, .int _ ay], [.int _ bx, .int _ by'] => if ax ≠ bx then ax - bx else ay - by'
 | _, _ => 0
def VC (r : List D) : Prop := ∃ c : ze, r = c.row /\ onG c = true

set_option maxHeartbeats 1000000 in
theorem cmpX_ok : CmpOk Tryz.prog 78 VC cfX := by
 rintro ro w a b va vb hro ⟨⟨ax, ay⟩, rfl, hc⟩ ⟨⟨bx, by'⟩, rfl, hd⟩ ha hb _ _;have h1 := zje hc;have h2 := zje hd;simp only at h1 h2;simp only [ze.row, zq, zr] at ha hb;obtain ⟨_, _, rfl, rfl, _, _, rfl, rfl, rfl⟩ := ha;obtain ⟨_, _, rfl, rfl, _, _, rfl, rfl, rfl⟩ := hb;have w1 : IntKind.i64.wrap (ax - bx) = ax - bx := wrap_i64 (by omega) (by omega);have w2 : IntKind.i64.wrap (ay - by') = ay - by' := wrap_i64 (by omega) (by omega)
 go_enter Tryz.func78, Tryz.ntmps78
 go_wp2
 ·rename_i h
  go_ret
  refine ⟨?_, 0, _, by rw [alloc_eq_grow, alloc_eq_grow, grow_grow]; rfl⟩;simp at h;simp [cfX, h]
 ·rename_i h
  go_ret
  refine ⟨?_, 0, _, by rw [alloc_eq_grow, alloc_eq_grow, grow_grow]; rfl⟩;simp at h;simp [cfX, h]

def cfY : List D -> List D -> Int
 | [_, _, .sl ([.int _ ax, .int _ ay] :: _)], [_, _, .sl ([.int _ bx, .int _ by'] :: _)] => if ay ≠ by' then ay - by' else ax - bx
 | _, _ => 0
theorem cfY_rows (ra rb : Int) (ca cb : Bool) (ax ay bx by' : Int) (la lb : List ze) : cfY (zm.row ⟨ra, ca, ⟨ax, ay⟩ :: la⟩) (zm.row ⟨rb, cb, ⟨bx, by'⟩ :: lb⟩) = if ay ≠ by' then ay - by' else ax - bx := rfl
def VT (r : List D) : Prop := ∃ (t : zm) (c : ze) (l : List ze), r = t.row /\ t.cells = c :: l /\ onG c = true

set_option maxHeartbeats 1000000 in
theorem cmpY_ok : CmpOk Tryz.prog 81 VT cfY := by
 rintro ro w a b va vb hro ⟨⟨ra, ca, _⟩, ⟨ax, ay⟩, la, rfl, rfl, hc⟩ ⟨⟨rb, cb, _⟩, ⟨bx, by'⟩, lb, rfl, rfl, hd⟩ ha hb _ _;have h1 := zje hc;have h2 := zje hd;simp only at h1 h2;simp only [zm.row, zai, zq, zr, List.map_cons, List.length_cons, List.length_map] at ha hb;obtain ⟨_, _, rfl, rfl, _, _, rfl, rfl, _, _, rfl, ⟨p, cp, rfl, hp1, hp2, hp3⟩, rfl⟩ := ha;obtain ⟨_, _, rfl, rfl, _, _, rfl, rfl, _, _, rfl, ⟨q, cq, rfl, hq1, hq2, hq3⟩, rfl⟩ := hb;obtain ⟨b1, o1, m1, rfl, hb1, hr1⟩ := hp3.resolve_left (by simp);obtain ⟨b2, o2, m2, rfl, hb2, hr2⟩ := hq3.resolve_left (by simp);simp only [zau, zq, zr] at hr1 hr2;obtain ⟨⟨_, hl1, ⟨_, _, rfl, rfl, _, _, rfl, rfl, rfl⟩, hc1⟩, _⟩ := hr1;obtain ⟨⟨_, hl2, ⟨_, _, rfl, rfl, _, _, rfl, rfl, rfl⟩, hc2⟩, _⟩ := hr2;have x1 := (hc1 0 (.int .i64 ax) (by simp)).1;have y1 := (hc1 1 (.int .i64 ay) (by simp)).1;have x2 := (hc2 0 (.int .i64 bx) (by simp)).1;have y2 := (hc2 1 (.int .i64 by') (by simp)).1;clear hl1 hl2;have s1 := hro b1 hb1;have s2 := hro b2 hb2;simp only [Nat.add_zero] at x1 x2;clear hc1 hc2 hp1 hp2 hp3 hq1 hq2 hq3 hro hb1 hb2;have w1 : IntKind.i64.wrap (ax - bx) = ax - bx := wrap_i64 (by omega) (by omega);have w2 : IntKind.i64.wrap (ay - by') = ay - by' := wrap_i64 (by omega) (by omega)
 go_enter Tryz.func81, Tryz.ntmps81
 go_wp2
 have hW0 : ∀ (o1 o2 : Obj), (w.alloc o1).alloc o2 = grow w #[o1, o2] := fun o1 o2 => by rw [alloc_eq_grow, alloc_eq_grow, grow_grow]; rfl
 have kp : ∀ (os : Array Obj) (a : Addr), a.block < w.heap.size -> (grow w os).cell? a = w.cell? a := fun os a h => cell?_grow w os a h;have q1 : ∀ (p q : Obj), ((w.alloc p).alloc q).cell? ⟨b1, o1, none⟩ = some (.int .i64 ax) := fun p q => by rw [hW0, kp _ _ s1, x1]
 have q2 : ∀ (p q : Obj), ((w.alloc p).alloc q).cell? ⟨b1, o1 + 1, none⟩ = some (.int .i64 ay) := fun p q => by rw [hW0, kp _ _ s1, y1]
 have q3 : ∀ (p q : Obj), ((w.alloc p).alloc q).cell? ⟨b2, o2, none⟩ = some (.int .i64 bx) := fun p q => by rw [hW0, kp _ _ s2, x2]
 have q4 : ∀ (p q : Obj), ((w.alloc p).alloc q).cell? ⟨b2, o2 + 1, none⟩ = some (.int .i64 by') := fun p q => by rw [hW0, kp _ _ s2, y2]
 obtain ⟨B1, hB1⟩ : ∃ B1, B1 = w.heap.size := ⟨_, rfl⟩
 obtain ⟨W, hW⟩ : ∃ W, W = (w.alloc (Obj.cells #[Value.int IntKind.i64 ra, Value.bool ca, Value.slice (some ⟨b1, o1, none⟩) (la.length + 1) cp] 94)).alloc (Obj.cells #[Value.int IntKind.i64 rb, Value.bool cb, Value.slice (some ⟨b2, o2, none⟩) (lb.length + 1) cq] 94) := ⟨_, rfl⟩
 have z1 := q1 (Obj.cells #[Value.int IntKind.i64 ra, Value.bool ca, Value.slice (some ⟨b1, o1, none⟩) (la.length + 1) cp] 94) (Obj.cells #[Value.int IntKind.i64 rb, Value.bool cb, Value.slice (some ⟨b2, o2, none⟩) (lb.length + 1) cq] 94);have z2 := q2 (Obj.cells #[Value.int IntKind.i64 ra, Value.bool ca, Value.slice (some ⟨b1, o1, none⟩) (la.length + 1) cp] 94) (Obj.cells #[Value.int IntKind.i64 rb, Value.bool cb, Value.slice (some ⟨b2, o2, none⟩) (lb.length + 1) cq] 94);have z3 := q3 (Obj.cells #[Value.int IntKind.i64 ra, Value.bool ca, Value.slice (some ⟨b1, o1, none⟩) (la.length + 1) cp] 94) (Obj.cells #[Value.int IntKind.i64 rb, Value.bool cb, Value.slice (some ⟨b2, o2, none⟩) (lb.length + 1) cq] 94);have z4 := q4 (Obj.cells #[Value.int IntKind.i64 ra, Value.bool ca, Value.slice (some ⟨b1, o1, none⟩) (la.length + 1) cp] 94) (Obj.cells #[Value.int IntKind.i64 rb, Value.bool cb, Value.slice (some ⟨b2, o2, none⟩) (lb.length + 1) cq] 94);have z5 : ((w.alloc (Obj.cells #[Value.int IntKind.i64 ra, Value.bool ca, Value.slice (some ⟨b1, o1, none⟩) (la.length + 1) cp] 94)).alloc (Obj.cells #[Value.int IntKind.i64 rb, Value.bool cb, Value.slice (some ⟨b2, o2, none⟩) (lb.length + 1) cq] 94)).cell? ⟨B1, 2, none⟩ = some (.slice (some ⟨b1, o1, none⟩) (la.length + 1) cp) := by rw [hB1, hW0]; simp [World.cell?, grow, Array.getElem?_append]
 have z6 : ((w.alloc (Obj.cells #[Value.int IntKind.i64 ra, Value.bool ca, Value.slice (some ⟨b1, o1, none⟩) (la.length + 1) cp] 94)).alloc (Obj.cells #[Value.int IntKind.i64 rb, Value.bool cb, Value.slice (some ⟨b2, o2, none⟩) (lb.length + 1) cq] 94)).cell? ⟨B1 + 1, 2, none⟩ = some (.slice (some ⟨b2, o2, none⟩) (lb.length + 1) cq) := by rw [hB1, hW0]; simp [World.cell?, grow, Array.getElem?_append]
 rw [hW0] at hW;rw [hW0] at z1 z2 z3 z4 z5 z6 ⊢;rw [<- hW] at z1 z2 z3 z4 z5 z6 ⊢;rw [<- hB1];have hWh : Go.Abs.Hid (∃ p q, W = grow w #[p, q]) := ⟨_, _, hW⟩
 have hBh : Go.Abs.Hid (B1 = w.heap.size) := ⟨hB1⟩
 clear q1 q2 q3 q4 x1 x2 y1 y2 hW hB1 hW0 kp s1 s2;have n1 := World.new_ne W _ z1;have n2 := World.new_ne W _ z2;have n3 := World.new_ne W _ z3;have n4 := World.new_ne W _ z4;have n5 := World.new_ne W _ z5;have n6 := World.new_ne W _ z6
 go_region_held3 (fun w' => w'.cell? ⟨B1, 2, none⟩ = some (.slice (some ⟨b1, o1, none⟩) (la.length + 1) cp) /\ w'.cell? ⟨B1 + 1, 2, none⟩ = some (.slice (some ⟨b2, o2, none⟩) (lb.length + 1) cq) /\ w'.cell? ⟨b1, o1, none⟩ = some (.int .i64 ax) /\ w'.cell? ⟨b1, o1 + 1, none⟩ = some (.int .i64 ay) /\ w'.cell? ⟨b2, o2, none⟩ = some (.int .i64 bx) /\ w'.cell? ⟨b2, o2 + 1, none⟩ = some (.int .i64 by')) (go_keep) (fail)
 all_goals go_wp2
 all_goals
  rename_i h
  go_ret
  obtain ⟨⟨p, q, rfl⟩⟩ := hWh;refine ⟨?_, 1, _, by rw [alloc_eq_grow, alloc_eq_grow, grow_grow, grow_grow]; rfl⟩;simp at h;rw [cfY_rows];simp [h]
end Go.Proofs.YtdddknniooimmaaGreat

namespace Go.Proofs.YtdddknniooimmaaGreat
open Go.Abs

def Col (s : List ze) (i n : Nat) (a : ze) : Prop := ∀ j, j < n -> s[i + j]? = some ⟨a.x, a.y + j⟩
def Stop (s : List ze) (i n : Nat) (a : ze) : Prop := ∀ b, s[i + n]? = some b -> ¬ (b.x = a.x /\ b.y = a.y + n)

theorem col_out {s : List ze} (h : s.Pairwise ltX) {i n : Nat} {a : ze} (hn : 0 < n) (hc : Col s i n a) (hs : Stop s i n a) : (⟨a.x, a.y + n⟩ : ze) ∉ s := by
 intro hm;have h1 := hc (n - 1) (by omega);have hu : upc (⟨a.x, a.y + ((n - 1 : Nat) : Int)⟩ : ze) = ⟨a.x, a.y + n⟩ := by simp [upc]; omega
 have h2 := up_next h h1 (by rw [hu]; exact hm);rw [hu, show i + (n - 1) + 1 = i + n from by omega] at h2;exact hs _ h2 ⟨rfl, rfl⟩
theorem col_vch {s : List ze} (h : s.Pairwise ltX) (hon : ∀ c ∈ s, onG c = true) {i n : Nat} {a : ze} (hn : 0 < n) (hc : Col s i n a) (hs : Stop s i n a) : ∀ (m j : Nat), m + j = n -> vch s ⟨a.x, a.y + j⟩ = (s.drop (i + j)).take m
 | 0, j, hj => by
  have : j = n := by omega
  subst this;rw [vch_out (col_out h hn hc hs)]; simp
 | m + 1, j, hj => by
  have h1 := hc j (by omega);have hm := List.mem_of_getElem? h1;have hg := zje (hon _ hm);have ih := col_vch h hon hn hc hs m (j + 1) (by omega);rw [vch_in hm (by simpa using hg.2.2.2), zgd h1, List.take_succ_cons]
  congr 1
  rw [show i + j + 1 = i + (j + 1) from by omega, <- ih];simp only [upc]
  congr 2
  omega
theorem col_piece {s : List ze} (h : s.Pairwise ltX) (hon : ∀ c ∈ s, onG c = true) {i n : Nat} {a : ze} (hn : 0 < n) (hc : Col s i n a) (hs : Stop s i n a) (hv : vst s a = true) :
  (s.take (i + n)).flatMap (vT s) = (s.take i).flatMap (vT s) ++ [trk ((s.drop i).take n)] := by
 have h0 := col_vch h hon hn hc hs n 0 (by omega);have e0 : (⟨a.x, a.y + ((0 : Nat) : Int)⟩ : ze) = a := by cases a; simp
 rw [e0, Nat.add_zero] at h0;rw [List.take_add, List.flatMap_append]
 congr 1
 have hd : ∀ (m j : Nat), m + j = n -> 0 < j -> ((s.drop (i + j)).take m).flatMap (vT s) = [] := by
  intro m;induction m with
  | zero => intro j _ _; simp
  | succ m ih =>
   intro j hj h1;have h2 := hc j (by omega);have h3 := hc (j - 1) (by omega);rw [zgd h2, List.take_succ_cons, List.flatMap_cons, show i + j + 1 = i + (j + 1) from by omega, ih (j + 1) (by omega) (by omega), List.append_nil];have : vst s ⟨a.x, a.y + (j : Int)⟩ = false := by
    simp only [vst, Bool.not_eq_false', decide_eq_true_eq];have e : (⟨a.x, a.y + ((j - 1 : Nat) : Int)⟩ : ze) = ⟨a.x, a.y + (j : Int) - 1⟩ := by simp; omega
    rw [<- e];exact List.mem_of_getElem? h3
   simp [vT, this]
 obtain ⟨m, rfl⟩ : ∃ m, n = m + 1 := ⟨n - 1, by omega⟩
 have h2 := hc 0 (by omega);rw [e0, Nat.add_zero] at h2
 conv => lhs; rw [zgd h2, List.take_succ_cons, List.flatMap_cons]
 rw [hd m 1 (by omega) (by omega), <- h0];simp [vT, hv]
theorem col_next {s : List ze} (h : s.Pairwise ltX) {i n : Nat} {a b : ze} (hn : 0 < n) (hc : Col s i n a) (hs : Stop s i n a) (hb : s[i + n]? = some b) : vst s b = true := by
 have h1 := hc (n - 1) (by omega);have := hs b hb;refine (down_prev h h1 (show s[i + (n - 1) + 1]? = some b by rw [show i + (n - 1) + 1 = i + n from by omega]; exact hb)).2 ?_;simp only;intro ⟨h2, h3⟩;exact this ⟨h2, by omega⟩

theorem cfX_ord : CmpOrd VC cfX where
 irrefl := by rintro _ ⟨⟨ax, ay⟩, rfl, _⟩; simp [cfX, ze.row]
 trans := by
  rintro _ _ _ ⟨⟨ax, ay⟩, rfl, _⟩ ⟨⟨bx, by'⟩, rfl, _⟩ ⟨⟨dx, dy⟩, rfl, _⟩;simp only [cfX, ze.row];intro h1 h2;split at h1 <;> split at h2 <;> split <;> omega
 ntrans := by
  rintro _ _ _ ⟨⟨ax, ay⟩, rfl, _⟩ ⟨⟨bx, by'⟩, rfl, _⟩ ⟨⟨dx, dy⟩, rfl, _⟩;simp only [cfX, ze.row];intro h1 h2;split at h1 <;> split at h2 <;> split <;> omega
theorem cfX_cells (a b : ze) : cfX a.row b.row < 0 ↔ ltX a b := by
 cases a; cases b;simp only [cfX, ze.row, ltX];split <;> omega
theorem zmc {s t : zm} {c d : ze} {l m : List ze} (h1 : s.cells = c :: l) (h2 : t.cells = d :: m) : cfY s.row t.row = if c.y ≠ d.y then c.y - d.y else c.x - d.x := by
 cases s; cases t; cases c; cases d;simp only at h1 h2;subst h1 h2;rw [cfY_rows]
theorem cfY_ord : CmpOrd VT cfY where
 irrefl := by rintro _ ⟨t, c, l, rfl, h, _⟩; rw [zmc h h]; simp
 trans := by
  rintro _ _ _ ⟨t, c, l, rfl, h, _⟩ ⟨t', c', l', rfl, h', _⟩ ⟨t'', c'', l'', rfl, h'', _⟩;rw [zmc h h', zmc h' h'', zmc h h''];intro h1 h2;split at h1 <;> split at h2 <;> split <;> omega
 ntrans := by
  rintro _ _ _ ⟨t, c, l, rfl, h, _⟩ ⟨t', c', l', rfl, h', _⟩ ⟨t'', c'', l'', rfl, h'', _⟩;rw [zmc h h', zmc h' h'', zmc h h''];intro h1 h2;split at h1 <;> split at h2 <;> split <;> omega

theorem sortX_rows (l : List ze) (hd : l.Nodup) : ((zkb l).map ze.row).Pairwise fun a b => ¬ cfX b a < 0 := by
 rw [List.pairwise_map];refine (sortX_lt hd).imp fun {a b} h => ?_;rw [cfX_cells];simp only [ltX] at *;omega
theorem cfX_anti {a b : ze} (h1 : ¬ cfX b.row a.row < 0) (h2 : ¬ cfX a.row b.row < 0) : a = b := by
 rw [cfX_cells] at h1 h2;cases a; cases b;simp only [ltX, ze.mk.injEq] at *;omega
theorem upAll_VT {s : List ze} (hon : ∀ c ∈ s, onG c = true) {t : zm} (ht : t ∈ zdb s) : VT t.row := by
 obtain ⟨c, hc, _, l, hl⟩ := zhu hon ht;exact ⟨t, c, l, rfl, hl, hon c hc⟩
theorem upAll_rows {l : List ze} (hp : l.Pairwise ltY) (hon : ∀ c ∈ l, onG c = true) : ((zdb l).map zm.row).Pairwise fun a b => ¬ cfY b a < 0 := by
 rw [List.pairwise_map];refine List.Pairwise.imp_of_mem (fun {s t} hs ht h => ?_) (upAll_pw hp hon);obtain ⟨c, hc, _, l, hl⟩ := zhu hon hs;obtain ⟨d, hd, _, m, hm⟩ := zhu hon ht;rw [zmc hm hl];rw [hl, hm] at h;simp only [ltY, List.getElem?_cons_zero, Option.getD_some] at h;split <;> omega
theorem upAll_anti {l : List ze} (hon : ∀ c ∈ l, onG c = true) {s t : zm} (hs : s ∈ zdb l) (ht : t ∈ zdb l) (h1 : ¬ cfY t.row s.row < 0) (h2 : ¬ cfY s.row t.row < 0) : s = t := by
 obtain ⟨c, hc, e1, l1, hl⟩ := zhu hon hs;obtain ⟨d, hd, e2, m, hm⟩ := zhu hon ht;rw [zmc hm hl] at h1;rw [zmc hl hm] at h2;have : c = d := by
  cases c; cases d;simp only [ze.mk.injEq] at *;split at h1 <;> split at h2 <;> omega
 rw [e1, e2, this]

def zej (R : List Row) : List zm := if zo R then zha R ++ zdb (zcc R) else []
theorem upAll_len {s : List ze} : (zdb s).length <= s.length := by
 have : ∀ l : List ze, (l.flatMap (vT s)).length <= l.length := by
  intro l;induction l with
  | nil => simp
  | cons c l ih =>
   rw [List.flatMap_cons, List.length_append, List.length_cons];have : (vT s c).length <= 1 := by unfold vT; split <;> simp
   omega
 exact this s

theorem lines_cells {R : List Row} : ∀ t ∈ zej R, t.cells.length <= 8192 := by
 intro t ht;unfold zej at ht;split at ht
 ·rename_i h;rcases List.mem_append.1 ht with ht | ht
  ·simp only [zha, zta, List.mem_flatMap] at ht;obtain ⟨w, hw, r, hr, ht⟩ := ht;have := zdv h hw hr;unfold zhq at ht;split at ht
   ·simp at ht
   ·simp at ht; subst ht; simp only; rw [zbr]; omega
  ·obtain ⟨c, hc, rfl, _⟩ := zhu (fun c hc => zeg h (zld h hc)) ht;have hg := zje (zeg h (zld h hc));have := vN_len (zcc R) (4096 - c.y).toNat c;simp only [trk, vch]; omega
 ·simp at ht
end Go.Proofs.YtdddknniooimmaaGreat
