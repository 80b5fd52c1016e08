/-
  Texts of this seat put together: S1, H1, AbsK, BK1, BK2, BK3, X4, BK4.
-/
import Derived.Test.YtdddknniooimmaaGreatI6
import Derived.Test.YtdddknniooimmaaGreatI8
import Derived.Test.YtdddknniooimmaaGreatI7
import Derived.Test.YtdddknniooimmaaGreatI4
import Derived.Test.YtdddknniooimmaaGreatChecked
import Derived.Deep.RegionHeld3
import Derived.Deep.DrawnRows
set_option linter.unusedVariables false
set_option linter.unusedSimpArgs false
set_option maxRecDepth 100000
namespace Go.Proofs.YtdddknniooimmaaGreat
open Go.Abs Go.Shelf Go.RowKit Go.Lib Go.Sort

def sortCell_ren : Go.Shelf.Ren := ⟨fun | 6 => 77 | 15 => 133 | 14 => 132 | 28 => 191 | 29 => 192 | 20 => 183 | 21 => 184 | 22 => 185 | 23 => 186 | 24 => 187 | 25 => 188 | 26 => 189 | 27 => 190 | 46 => 233 | 47 => 234 | 48 => 235 | 49 => 236 | 50 => 237 | 57 => 274 | n => n, fun | 22 => 75 | 24 => 67 | 25 => 107 | 3 => 3 | 39 => 174 | 0 => 0 | 53 => 228 | 55 => 230 | 4 => 4 | 46 => 222 | 45 => 221 | 50 => 204 | 5 => 5 | 9 => 9 | 66 => 256 | 70 => 260 | 76 => 284 | 77 => 148 | n => n, fun n => n⟩
def sortTrack_ren : Go.Shelf.Ren := ⟨fun | 6 => 80 | 15 => 133 | 14 => 134 | 28 => 191 | 29 => 192 | 20 => 193 | 21 => 194 | 22 => 195 | 23 => 196 | 24 => 197 | 25 => 198 | 26 => 199 | 27 => 200 | 46 => 238 | 47 => 234 | 48 => 235 | 49 => 239 | 50 => 240 | 57 => 275 | n => n, fun | 22 => 37 | 24 => 94 | 25 => 110 | 3 => 3 | 39 => 174 | 0 => 0 | 53 => 228 | 55 => 230 | 4 => 4 | 46 => 222 | 45 => 221 | 50 => 204 | 5 => 5 | 9 => 9 | 66 => 256 | 70 => 260 | 76 => 284 | 77 => 148 | n => n, fun n => n⟩
def cfX : List D → List D → Int
  | [.int _ ax, .int _ ay], [.int _ bx, .int _ by'] => if ax ≠ bx then ax - bx else ay - by'
  | _, _ => 0
def VC (r : List D) : Prop := ∃ c : Cell, r = c.row ∧ onG c = true

def cfY : List D → List D → Int
  | [_, _, .sl ([.int _ ax, .int _ ay] :: _)], [_, _, .sl ([.int _ bx, .int _ by'] :: _)] => if ay ≠ by' then ay - by' else ax - bx
  | _, _ => 0
def VT (r : List D) : Prop := ∃ (t : Track) (c : Cell) (l : List Cell), r = t.row ∧ t.cells = c :: l ∧ onG c = true

end Go.Proofs.YtdddknniooimmaaGreat

namespace Go.Proofs.YtdddknniooimmaaGreat
open Go.Abs

def sortRun_ren : Go.Shelf.Ren := ⟨fun | 6 => 225 | 15 => 133 | 14 => 256 | 28 => 191 | 29 => 192 | 20 => 281 | 21 => 282 | 22 => 283 | 23 => 284 | 24 => 285 | 25 => 286 | 26 => 287 | 27 => 288 | 46 => 296 | 47 => 234 | 48 => 235 | 49 => 297 | 50 => 298 | 57 => 301 | n => n, fun | 22 => 63 | 24 => 85 | 25 => 252 | 3 => 3 | 39 => 174 | 0 => 0 | 53 => 228 | 55 => 230 | 4 => 4 | 46 => 222 | 45 => 221 | 50 => 204 | 5 => 5 | 9 => 9 | 66 => 256 | 70 => 260 | 76 => 284 | 77 => 148 | n => n, fun n => n⟩
theorem sortRun_lays : SlLaysF0.n6 Tryz.prog sortRun_ren where
  mixed := by kernel_rfl
  f6 := ⟨Tryz.f225.name, by kernel_rfl, Tryz.func225.trans (congrArg some (by kernel_rfl))⟩
  f14 := ⟨Tryz.f256.name, by kernel_rfl, Tryz.func256.trans (congrArg some (by kernel_rfl))⟩
  f15 := Tryz.func133.trans (congrArg some (by kernel_rfl))
  f20 := ⟨Tryz.f281.name, by kernel_rfl, Tryz.func281.trans (congrArg some (by kernel_rfl))⟩
  f21 := ⟨Tryz.f282.name, by kernel_rfl, Tryz.func282.trans (congrArg some (by kernel_rfl))⟩
  f22 := ⟨Tryz.f283.name, by kernel_rfl, Tryz.func283.trans (congrArg some (by kernel_rfl))⟩
  f23 := ⟨Tryz.f284.name, by kernel_rfl, Tryz.func284.trans (congrArg some (by kernel_rfl))⟩
  f24 := ⟨Tryz.f285.name, by kernel_rfl, Tryz.func285.trans (congrArg some (by kernel_rfl))⟩
  f25 := ⟨Tryz.f286.name, by kernel_rfl, Tryz.func286.trans (congrArg some (by kernel_rfl))⟩
  f26 := ⟨Tryz.f287.name, by kernel_rfl, Tryz.func287.trans (congrArg some (by kernel_rfl))⟩
  f27 := ⟨Tryz.f288.name, by kernel_rfl, Tryz.func288.trans (congrArg some (by kernel_rfl))⟩
  f28 := Tryz.func191.trans (congrArg some (by kernel_rfl))
  f29 := Tryz.func192.trans (congrArg some (by kernel_rfl))
  f46 := ⟨Tryz.f296.name, by kernel_rfl, Tryz.func296.trans (congrArg some (by kernel_rfl))⟩
  f47 := Tryz.func234.trans (congrArg some (by kernel_rfl))
  f48 := Tryz.func235.trans (congrArg some (by kernel_rfl))
  f49 := ⟨Tryz.f297.name, by kernel_rfl, Tryz.func297.trans (congrArg some (by kernel_rfl))⟩
  f50 := ⟨Tryz.f298.name, by kernel_rfl, Tryz.func298.trans (congrArg some (by kernel_rfl))⟩
  f57 := ⟨Tryz.f301.name, by kernel_rfl, Tryz.func301.trans (congrArg some (by kernel_rfl))⟩
  t0 := Tryz.underlying0
  a0 := Tryz.isAgg0
  z0 := Tryz.sizeOf0
  v0 := Tryz.zeroValue0
  t3 := Tryz.underlying3
  a3 := Tryz.isAgg3
  z3 := Tryz.sizeOf3
  v3 := Tryz.zeroValue3
  t4 := Tryz.underlying4
  a4 := Tryz.isAgg4
  z4 := Tryz.sizeOf4
  v4 := Tryz.zeroValue4
  t5 := Tryz.underlying5
  a5 := Tryz.isAgg5
  z5 := Tryz.sizeOf5
  v5 := Tryz.zeroValue5
  t9 := Tryz.underlying9
  a9 := Tryz.isAgg9
  z9 := Tryz.sizeOf9
  v9 := Tryz.zeroValue9
  t22 := Tryz.underlying63
  a22 := Tryz.isAgg63
  z22 := Tryz.sizeOf63
  v22 := Tryz.zeroValue63
  t25 := Tryz.underlying252
  a25 := Tryz.isAgg252
  z25 := Tryz.sizeOf252
  v25 := Tryz.zeroValue252
  t39 := Tryz.underlying174
  a39 := Tryz.isAgg174
  z39 := Tryz.sizeOf174
  v39 := Tryz.zeroValue174
  t45 := Tryz.underlying221
  a45 := Tryz.isAgg221
  z45 := Tryz.sizeOf221
  v45 := Tryz.zeroValue221
  t46 := Tryz.underlying222
  a46 := Tryz.isAgg222
  z46 := Tryz.sizeOf222
  v46 := Tryz.zeroValue222
  t50 := Tryz.underlying204
  a50 := Tryz.isAgg204
  z50 := Tryz.sizeOf204
  v50 := Tryz.zeroValue204
  t53 := Tryz.underlying228
  a53 := Tryz.isAgg228
  z53 := Tryz.sizeOf228
  v53 := Tryz.zeroValue228
  t55 := Tryz.underlying230
  a55 := Tryz.isAgg230
  z55 := Tryz.sizeOf230
  v55 := Tryz.zeroValue230
  t66 := Tryz.underlying256
  a66 := Tryz.isAgg256
  z66 := Tryz.sizeOf256
  v66 := Tryz.zeroValue256
  t70 := Tryz.underlying260
  a70 := Tryz.isAgg260
  z70 := Tryz.sizeOf260
  v70 := Tryz.zeroValue260
  t76 := Tryz.underlying284
  a76 := Tryz.isAgg284
  z76 := Tryz.sizeOf284
  v76 := Tryz.zeroValue284
  t77 := Tryz.underlying148
  a77 := Tryz.isAgg148
  z77 := Tryz.sizeOf148
  v77 := Tryz.zeroValue148
def cfR : List D → List D → Int
  | [.int _ a, .int _ _], [.int _ b, .int _ _] => a - b
  | _, _ => 0
def VR (r : List D) : Prop := ∃ c : Run, r = c.row ∧ -1048576 ≤ c.a ∧ c.a ≤ 1048576
theorem normCmp_ok (a b : Run) (ha : -1048576 ≤ a.a ∧ a.a ≤ 1048576) (hb0 : -1048576 ≤ b.a ∧ b.a ≤ 1048576) : PC Tryz.prog 226 [.agg a.row, .agg b.row] (.p (.int .i64 (a.a - b.a))) := by
  have e := wrap_i64 (n := a.a - b.a) (by omega) (by omega)
  refine pc_of_awp cx (fn := Tryz.f226) (c := _) Tryz.func226 rfl rfl (Nat.le_of_ble_eq_true rfl) ?_
  rw [Tryz.ntmps226]; refine Nav.imp ?_
  refine awp_region cx [] fun K hK => ?_
  simp [push_cast, Run.row]
  repeat (refine And.intro (by clear hK; intros; first | omega | (simp_all; done) | (simp_all <;> omega)) ?_)
  refine hK _ ?_; clear hK K; refine Nav.imp ?_
  refine awp_region cx [] fun K hK => ?_
  simp [push_cast, e, Run.row]
  repeat (refine And.intro (by clear hK; intros; first | omega | (simp_all; done) | (simp_all <;> omega)) ?_)
  refine hK _ ?_; clear hK K; refine Nav.imp ?_
  simp [push_cast]
theorem cfR_ok : CmpOk Tryz.prog 226 VR cfR := by
  refine cmp_of_pc ?_
  rintro _ _ ⟨a, rfl, ha⟩ ⟨b, rfl, hb⟩
  exact normCmp_ok a b ha hb
theorem cfR_ord : CmpOrd VR cfR where
  irrefl := by rintro _ ⟨a, rfl, _⟩; simp [cfR, Run.row]
  trans := by
    rintro _ _ _ ⟨a, rfl, _⟩ ⟨b, rfl, _⟩ ⟨c, rfl, _⟩
    simp only [cfR, Run.row]; omega
  ntrans := by
    rintro _ _ _ ⟨a, rfl, _⟩ ⟨b, rfl, _⟩ ⟨c, rfl, _⟩
    simp only [cfR, Run.row]; omega
def srtOut (l : List Run) : List (Nat × Ob) → AV → Prop := fun hp' r => ∃ l' : List Run, l'.Perm l ∧ (l'.Pairwise fun p q => p.a ≤ q.a) ∧ hp' = [(0, ⟨85, 2, dr (l'.map Run.row)⟩)] ∧ r = .tup []
theorem sortR_pxe (l : List Run) (hf : ∀ r ∈ l, fitsB r = true) (hl : l.length ≤ 1000000) : PXE Tryz.prog 225 [.hs 0 0 l.length, .d (.fn (.func 226) [])] [(0, ⟨85, 2, dr (l.map Run.row)⟩)] [(0, 0)] (srtOut l) := by
  have h := sortFunc_allE (P := Tryz.prog) sortRun_lays (k := 2) (by decide) (fun w => by kernel_rfl) (fun w => by kernel_rfl) ⟨_, Tryz.func225, by kernel_rfl, by kernel_rfl⟩ (cg := 226) (fun args w => by kernel_rfl) cfR_ok cfR_ord 85 (rows := l.map Run.row)
    (fun r hr => by obtain ⟨c, hc, rfl⟩ := List.mem_map.1 hr; have := fitsB_bd (hf c hc); exact ⟨c, rfl, by omega, by omega⟩) (by simp; omega)
  simp only [List.length_map] at h
  refine ⟨h.1, fun g w vs h1 h2 h3 => (h.2 g w vs h1 h2 h3).mono fun e w' ⟨v, g', hp', r, he, ⟨rows', hp, hs, h4, h5⟩, k⟩ => ⟨v, g', hp', r, he, ?_, k⟩⟩
  have key : ∀ rows : List (List D), (∀ x ∈ rows, ∃ c : Run, x = c.row) → ∃ m : List Run, rows = m.map Run.row := fun rows hr => rows_of hr
  obtain ⟨l', rfl⟩ := key rows' fun x hx => by
    have := hp.subset hx
    obtain ⟨c, _, rfl⟩ := List.mem_map.1 this
    exact ⟨c, rfl⟩
  refine ⟨l', ?_, ?_, h4, h5⟩
  · have hinj : ∀ a b : Run, a.row = b.row → a = b := fun a b h => by cases a; cases b; simp only [Run.row, List.cons.injEq, D.int.injEq, true_and, and_true] at h; rw [h.1, h.2]
    have := hp.map (fun x : List D => match x with | [.int _ a, .int _ b] => (⟨a, b⟩ : Run) | _ => ⟨0, 0⟩)
    rw [List.map_map, List.map_map] at this
    have e : ((fun x : List D => match x with | [.int _ a, .int _ b] => (⟨a, b⟩ : Run) | _ => ⟨0, 0⟩) ∘ Run.row) = id := by funext r; rfl
    rw [e, List.map_id, List.map_id] at this
    exact this
  · rw [List.pairwise_map] at hs
    refine hs.imp fun {a b} h => ?_
    simp only [cfR, Run.row] at h
    omega

def fullB (r : Run) : Bool := decide (r.a < r.b)
def normL (l : List Run) : List Run := joinL ((l.filter fullB).mergeSort fun p q => decide (p.a ≤ q.a))
theorem inR_filter (l : List Run) (x : Int) : inR (l.filter fullB) x = inR l x := by
  rw [Bool.eq_iff_iff, inR_iff, inR_iff]
  constructor
  · rintro ⟨r, hr, h⟩; exact ⟨r, (List.mem_filter.1 hr).1, h⟩
  · rintro ⟨r, hr, h1, h2⟩; exact ⟨r, List.mem_filter.2 ⟨hr, by simp [fullB]; omega⟩, h1, h2⟩
theorem inR_perm {l l' : List Run} (h : l'.Perm l) (x : Int) : inR l' x = inR l x := by
  rw [Bool.eq_iff_iff, inR_iff, inR_iff]
  constructor
  · rintro ⟨r, hr, h'⟩; exact ⟨r, h.mem_iff.1 hr, h'⟩
  · rintro ⟨r, hr, h'⟩; exact ⟨r, h.mem_iff.2 hr, h'⟩
theorem join_sorted {l l' : List Run} (hp : l'.Perm (l.filter fullB)) (hs : l'.Pairwise fun p q => p.a ≤ q.a) : Apart (joinL l') ∧ ∀ x, inR (joinL l') x = inR l x := by
  obtain ⟨h1, h2, _⟩ := joinL_facts _ l' rfl (fun r hr => by
    have := (List.mem_filter.1 (hp.mem_iff.1 hr)).2
    simpa [fullB] using this) hs
  exact ⟨h1, fun x => by rw [h2, inR_perm hp, inR_filter]⟩
theorem norm_facts (l : List Run) : Apart (normL l) ∧ ∀ x, inR (normL l) x = inR l x := by
  refine join_sorted (List.mergeSort_perm _ _) ?_
  have := List.pairwise_mergeSort (le := fun p q : Run => decide (p.a ≤ q.a)) (fun a b c h1 h2 => by simp at *; omega) (fun a b => by simp; omega) (l.filter fullB)
  exact this.imp fun {a b} h => by simpa using h
theorem norm_eq {l l' : List Run} (hp : l'.Perm (l.filter fullB)) (hs : l'.Pairwise fun p q => p.a ≤ q.a) : joinL l' = normL l := by
  obtain ⟨h1, h2⟩ := join_sorted hp hs
  obtain ⟨h3, h4⟩ := norm_facts l
  exact apart_uniq h1 h3 fun y => by rw [h2, h4]

set_option maxHeartbeats 2000000 in
theorem norm_ok (l : List Run) (hf : ∀ r ∈ l, fitsB r = true) (hl : l.length ≤ 1000000) : PC Tryz.prog 152 [encRuns l] (.p (.tup [encRuns (normL l), .int .i64 0])) := by
  have hne := fun l' h1 h2 => @norm_eq l l' h1 h2
  generalize normL l = res at *
  refine pc_of_awp cx (fn := Tryz.f152) (c := _) Tryz.func152 rfl rfl (Nat.le_of_ble_eq_true rfl) ?_
  rw [Tryz.ntmps152]; refine Nav.imp ?_
  refine awp_region cx [] fun K hK => ?_
  simp [push_cast]
  repeat (refine And.intro (by clear hK; intros; first | omega | (simp_all; done) | (simp_all <;> omega)) ?_)
  refine hK _ ?_; clear hK K; refine Nav.imp ?_
  refine awp_region cx [] fun K hK => ?_
  simp [push_cast]
  repeat (refine And.intro (by clear hK; intros; first | omega | (simp_all; done) | (simp_all <;> omega)) ?_)
  refine hK _ ?_; clear hK K; refine Nav.imp ?_
  refine awp_region cx [] fun K hK => ?_
  simp [push_cast]
  repeat (refine And.intro (by clear hK; intros; first | omega | (simp_all; done) | (simp_all <;> omega)) ?_)
  refine hK _ ?_; clear hK K; refine Nav.imp ?_
  refine awp_loop (β := Nat × List Run) (fun s => ⟨30, [(3, .d (.int .i64 0)), (4, .hs 0 0 s.2.length), (7, .d (encRuns l)), (8, .d (.int .i64 l.length)), (9, .d (.int .i64 s.1))], [(0, some ⟨85, 2, dr (s.2.map Run.row)⟩)], 1⟩) (fun s => s.1 ≤ l.length ∧ s.2 = (l.take s.1).filter fullB) (fun s => l.length - s.1) (0, []) ?_ ⟨Nat.zero_le _, by simp⟩ ?_
  · refine weak_of [(0, none)] rfl (by simp [upT, up, upL, push_cast]) (by simp [upH, upR, upL, up, push_cast]) (by simp [namesOk, push_cast]) (by simp [olds])
  · rintro ⟨i, Z⟩ ⟨hi, hZ⟩
    simp only at hi hZ
    refine Nav.imp ?_
    refine awp_region cx [] fun K hK => ?_
    simp [push_cast]
    repeat (refine And.intro (by clear hK; intros; first | omega | (simp_all; done) | (simp_all <;> omega)) ?_)
    refine hK _ ?_; clear hK K; refine Nav.imp ?_
    refine awp_cond (b := decide ((i : Int) < l.length)) (by simp [push_cast]) (fun hb => ?_) (fun hb => ?_) <;> (refine Nav.imp ?_)
    · have hlt : i < l.length := by simpa using hb
      obtain ⟨r, hr⟩ := getq hlt
      have e0 := wrap_i64 (n := (i : Int) + 1) (by omega) (by omega)
      have hrf := hf r (List.mem_of_getElem? hr)
      have c1 := fits_ok r
      rw [hrf] at c1
      have hnx : (l.take (i + 1)).filter fullB = Z ++ if fullB r then [r] else [] := by
        rw [take_get hr, List.filter_append, hZ]
        congr 1
        cases hx : fullB r <;> simp [hx]
      have hZl : Z.length ≤ 1000000 := by have := List.length_filter_le fullB (l.take i); rw [← hZ] at this; simp at this; omega
      have hZ16 : (Z.length + 1) * 16 ≤ 140737488355328 := by omega
      obtain ⟨ra, rb⟩ := r
      refine awp_region cx [] fun K hK => ?_
      simp [push_cast, hr, Run.row]
      repeat (refine And.intro (by clear hK; intros; first | omega | (simp_all; done) | (simp_all <;> omega)) ?_)
      refine hK _ ?_; clear hK K; refine Nav.imp ?_
      by_cases hab : ra < rb
      · have hfb : fullB ⟨ra, rb⟩ = true := by simp [fullB, hab]
        rw [hfb, if_pos rfl] at hnx
        have q1 : ¬ rb ≤ ra := by omega
        refine awp_region cx [] fun K hK => ?_
        simp [push_cast, q1, Run.row]
        repeat (refine And.intro (by clear hK; intros; first | omega | (simp_all; done) | (simp_all <;> omega)) ?_)
        refine hK _ ?_; clear hK K; refine Nav.imp ?_
        refine awp_cond (b := false) (by simp [push_cast, q1]) (fun hb => ?_) (fun hb => ?_) <;> (refine Nav.imp ?_)
        · simp at hb
        · refine awp_region cx [(1, .p (.bool true))] fun K hK => ?_
          simp [push_cast, c1, Run.row]
          repeat (refine And.intro (by clear hK; intros; first | omega | (simp_all; done) | (simp_all <;> omega)) ?_)
          refine hK _ ?_; clear hK K; refine Nav.imp ?_
          refine awp_cond (b := false) (by simp [push_cast]) (fun hb => ?_) (fun hb => ?_) <;> (refine Nav.imp ?_)
          · simp at hb
          · refine awp_region cx [] fun K hK => ?_
            simp [push_cast, hZ16, Run.row]
            repeat (refine And.intro (by clear hK; intros; first | omega | (simp_all; done) | (simp_all <;> omega)) ?_)
            refine hK _ ?_; clear hK K; refine Nav.imp ?_
            refine awp_region cx [] fun K hK => ?_
            simp [push_cast, e0]
            repeat (refine And.intro (by clear hK; intros; first | omega | (simp_all; done) | (simp_all <;> omega)) ?_)
            refine hK _ ?_; clear hK K; refine Nav.imp ?_
            refine ⟨(i + 1, Z ++ [⟨ra, rb⟩]), ⟨hlt, hnx.symm⟩, by simp only; omega, ?_⟩
            refine weak_of [(0, some 17)] rfl (by simp [upT, up, upL, push_cast, Run.row]) (by simp [upH, upR, upL, up, push_cast, Run.row]) (by simp [namesOk, push_cast]) (by simp [olds])
      · have hfb : fullB ⟨ra, rb⟩ = false := by simp [fullB]; omega
        rw [hfb, if_neg (by simp), List.append_nil] at hnx
        have q1 : rb ≤ ra := by omega
        refine awp_region cx [] fun K hK => ?_
        simp [push_cast, q1, Run.row]
        repeat (refine And.intro (by clear hK; intros; first | omega | (simp_all; done) | (simp_all <;> omega)) ?_)
        refine hK _ ?_; clear hK K; refine Nav.imp ?_
        refine awp_cond (b := true) (by simp [push_cast, q1]) (fun hb => ?_) (fun hb => ?_) <;> (refine Nav.imp ?_)
        · refine awp_region cx [] fun K hK => ?_
          simp [push_cast, e0]
          repeat (refine And.intro (by clear hK; intros; first | omega | (simp_all; done) | (simp_all <;> omega)) ?_)
          refine hK _ ?_; clear hK K; refine Nav.imp ?_
          refine ⟨(i + 1, Z), ⟨hlt, hnx.symm⟩, by simp only; omega, ?_⟩
          refine weak_of [(0, some 0)] rfl (by simp [upT, up, upL, push_cast]) (by simp [upH, upR, upL, up, push_cast]) (by simp [namesOk, push_cast]) (by simp [olds])
        · simp at hb
    · have hge : i = l.length := by simp at hb; omega
      subst hge
      rw [List.take_length] at hZ
      have hZl : Z.length ≤ 1000000 := by have := List.length_filter_le fullB l; rw [← hZ] at this; omega
      have hZf : ∀ r ∈ Z, fitsB r = true := fun r hr => by rw [hZ] at hr; exact hf r (List.mem_filter.1 hr).1
      have d1 := sortR_pxe Z hZf hZl
      refine awp_regionE cx [] (l := [_, _]) (pre := [_]) (post := []) rfl rfl rfl rfl 0 ⟨[(0, 0)], [.hs 0 0 Z.length, .d (.fn (.func 226) [])], [(0, ⟨85, 2, dr (Z.map Run.row)⟩)], [(0, 0)], none, [], .any⟩ (srtOut Z) [] fun K hK => ?_
      simp [push_cast, freshOk, obE, effY]
      refine ⟨d1, ?_⟩
      rintro hp' r ⟨l', hp, hs, rfl, rfl⟩
      simp [push_cast]
      refine hK _ ?_; clear hK K; refine Nav.imp ?_
      have hpl := hp.length_eq
      have e := hne l' (by rw [← hZ]; exact hp) hs
      have c2 := join_ok l' (by omega)
      rw [e] at c2
      rw [← hpl]
      have ht : List.take l'.length (l'.map Run.row) = l'.map Run.row := List.take_of_length_le (by simp)
      refine awp_freeze 0 (l'.map Run.row) rfl (by simp [push_cast, ht]) fun K hK => ?_
      simp [push_cast, St.fz, fzT, fzH, fzO, fz, fzL, fzR, fzR_dr, fzR_app, fzR_set, fzL_map, ht]
      refine hK _ ?_; clear hK K; refine Nav.imp ?_
      refine awp_region cx [(1, .p (encRuns res))] fun K hK => ?_
      simp [push_cast, c2]
      repeat (refine And.intro (by clear hK; intros; first | omega | (simp_all; done) | (simp_all <;> omega)) ?_)
      refine hK _ ?_; clear hK K; refine Nav.imp ?_
      simp [push_cast]
end Go.Proofs.YtdddknniooimmaaGreat

set_option linter.unusedSectionVars false
namespace Go.Abs
variable [Flag]
open Go.RowKit

def retE (ty : TypeId → Option TI) (rs : List ResultVar) (n : Nat) (pin : List (Nat × Nat)) (Out : List (Nat × Ob) → AV → Prop) (Ls : Nat → Loc) (e : Exit) (s : St) : Prop := ∃ hp' r, Out hp' r ∧ retX ty rs n pin hp' r Ls e s
theorem pxe_of_awp {P : Program} {ty : TypeId → Option TI} (hc : Ctx P ty) {f : FuncId} {fn : Func} {c : Code} {avs : List AV} {hp : List (Nat × Ob)} {pin : List (Nat × Nat)} {Out : List (Nat × Ob) → AV → Prop} (nxt : Nat)
    (hf : P.funcs[f]? = some fn) (hb : fn.body = some c) (hname : (fn.name == "runtime.NumGoroutine") = false) (hn : avs.length ≤ fn.ntmps)
    (hids : (hp.all fun x => Nat.blt x.1 nxt) = true) (hpin : (pin.all fun x => (find hp x.1).isSome) = true)
    (h : ∀ Ls : Nat → Loc, AWp P c (retE ty fn.results.toList fn.ntmps pin Out Ls) (startX fn.ntmps avs pin Ls hp nxt)) : PXE P f avs hp pin Out := by
  refine ⟨⟨fn, hf, hname, by rw [hb]; rfl⟩, fun g w vs hH hu hd => ?_⟩
  have hl := hd.length
  let Ls : Nat → Loc := fun i => (g.loc i).getD ⟨0, 0, 0, false, false⟩
  have hpin' : ∀ i j, (i, j) ∈ pin → g.used i ∧ g.loc i = some (Ls i) := fun i j hij => by
    have := List.all_eq_true.1 hpin (i, j) hij
    obtain ⟨o, ho⟩ := Option.isSome_iff_exists.1 this
    obtain ⟨L, hL, _⟩ := hH.own i o ho
    exact ⟨(hH.live i L hL).1, by simp [Ls, hL]⟩
  have hrel : RelS (startX fn.ntmps avs pin Ls hp nxt) g { tmps := vs.toArray ++ Array.replicate (fn.ntmps - vs.toArray.size) undef, defers := [] } w := by
    refine ⟨rfl, by simp only [Array.size_append, List.size_toArray, Array.size_replicate, startX]; omega, fun t => ?_, fun id hid => ?_, ?_⟩
    · simp only [St.get, startX, find_addAVs]
      by_cases e : 0 ≤ t ∧ t < 0 + avs.length
      · rw [if_pos e]
        obtain ⟨d, hdt⟩ : ∃ d, avs[t]? = some d := ⟨avs[t]'(by omega), List.getElem?_eq_getElem _⟩
        obtain ⟨v, hv, hr⟩ := hd.get t d hdt
        simp only [Nat.sub_zero, hdt, Option.getD_some]
        have hlt : t < vs.length := (List.getElem?_eq_some_iff.1 hv).1
        have : (vs.toArray ++ Array.replicate (fn.ntmps - vs.toArray.size) undef)[t]? = some v := by
          rw [Array.getElem?_append_left (by simpa using hlt)]
          simpa using hv
        simp only [Array.getD_eq_getD_getElem?, this, Option.getD_some]
        exact hr
      · rw [if_neg e]
        cases hf' : find (pinTm fn.ntmps Ls pin) t with
        | none => simp [RepA]
        | some v =>
          obtain ⟨i, j, hij, rfl⟩ := find_pinTm hf'
          simp only [Option.getD_some, RepA]
          obtain ⟨h1, h2⟩ := hpin' i j hij
          exact ⟨h1, fun M hM => by rw [h2] at hM; exact (Option.some.inj hM).symm⟩
    · have h1 := hu id hid
      obtain ⟨o, ho⟩ := Option.isSome_iff_exists.1 h1
      have hk := find_key ho
      obtain ⟨x, hx, rfl⟩ := List.mem_map.1 hk
      exact Nat.le_of_ble_eq_true (List.all_eq_true.1 hids x hx)
    · have : (startX fn.ntmps avs pin Ls hp nxt).obj = objL hp := by
        funext id
        simp only [St.obj, startX, obs_find, objL]
        cases find hp id <;> rfl
      rw [this]
      exact hH
  refine calls_of_wp hf hb (wp_mono (h Ls _ _ w hrel) fun e a' w' ⟨s', g', h1, h2, h3⟩ => ?_)
  have done : ∀ hp' r, Out hp' r → (∃ ρ l, resAs ty s' fn.results.toList = some l ∧ rnsOk ρ [r] [oneOf l] ∧ hpOk s'.obj ρ hp' ∧ nodupB (ρ.map (·.2)) = true ∧ ρ.map (·.1) = hp'.map (·.1) ∧ pinsOk s' ρ fn.ntmps Ls pin) →
      a'.defers = [] ∧ ∃ v, (results fn a'.tmps).run P w' = .ok v w' ∧ ∃ v' g2 hp' r, Ending.returned v = .returned v' ∧ Out hp' r ∧ HRel g2 (objL hp') w' ∧ RepA g2 w' r v' ∧ Step g w g2 w' ∧ ∀ i j, (i, j) ∈ pin → g2.loc j = g.loc i := by
    rintro hp' r hO ⟨ρ, l, hl, hr, hhp, hρ, hdom, hpo⟩
    obtain ⟨v, hv, hrep⟩ := results_run hc h1 hl
    have hsame : ∀ b, (via g' ρ hp').owns b → g'.owns b := fun b ⟨i, L, hL, hvv, hb⟩ => by
      obtain ⟨x, _, q⟩ := via_loc' hL
      exact ⟨x, L, q, hvv, hb⟩
    refine ⟨h1.defers, v, hv, v, via g' ρ hp', hp', r, rfl, hO, via_rel h1.heap hhp (nodup_of hρ) hdom, ?_, ⟨h2.os, h2.tape, h2.output, h2.size, h2.block, fun b hb => h2.own b (hsame b hb), h2.ro, h2.ro'⟩, fun i j hij => ?_⟩
    · have := rnsOk_rep (g := g') (g' := via g' ρ hp') (w := w') (fun i x hi => via_used hdom hi) (fun i x hi => via_loc hi) (fun _ hb => hb) hr (vs := [v]) (by simp only [RepAs]; exact ⟨v, [], rfl, hrep, rfl⟩)
      exact one_arg this
    · obtain ⟨y, q1, q2, q3⟩ := pinsOk_mem hpo i j hij
      have hty := h1.tmp (fn.ntmps + i)
      rw [q2] at hty
      simp only [RepA] at hty
      obtain ⟨o, ho⟩ := Option.isSome_iff_exists.1 q3
      obtain ⟨M, hM, _⟩ := h1.heap.own y o ho
      rw [via_loc q1, hM, hty.2 M hM, (hpin' i j hij).2]
  cases e with
  | normal =>
    obtain ⟨hp', r, hO, hx⟩ := h3
    exact done hp' r hO (retX_spec hx)
  | ret =>
    obtain ⟨hp', r, hO, hx⟩ := h3
    exact done hp' r hO (retX_spec hx)
  | _ =>
    obtain ⟨hp', r, hO, hx⟩ := h3
    exact hx.elim

end Go.Abs

namespace Go.Proofs.YtdddknniooimmaaGreat
open Go.Abs

structure Up where
  x : Int
  lo : Int
  hi : Int
  s : Int
  deriving DecidableEq
abbrev Up.row (u : Up) : List D := [.int .i64 u.x, .int .i64 u.lo, .int .i64 u.hi, .int .i64 u.s]
def edge (a b : Cell) : List Up := if a.y < b.y then [⟨a.x, a.y, b.y, 1⟩] else if b.y < a.y then [⟨a.x, b.y, a.y, -1⟩] else []
def badE (a b : Cell) : Bool := (decide (min a.x a.y < -4096) || decide (4096 < max a.x a.y)) || ((a.x == b.x) == (a.y == b.y))
def edgeAt (P : List Cell) (k : Nat) : List Up := match P[k]?, P[(k + 1) % P.length]? with
  | some a, some b => edge a b
  | _, _ => []
def badAt (P : List Cell) (k : Nat) : Bool := match P[k]?, P[(k + 1) % P.length]? with
  | some a, some b => badE a b
  | _, _ => false
def upsP (P : List Cell) : List Up := (List.range P.length).flatMap (edgeAt P)
def badP (P : List Cell) : Bool := (List.range P.length).any (badAt P)
def ups (l : List (List Cell)) : List Up := l.flatMap upsP
def badL (l : List (List Cell)) : Bool := l.any badP
theorem edgeAt_some {P : List Cell} {k : Nat} {a b : Cell} (ha : P[k]? = some a) (hb : P[(k + 1) % P.length]? = some b) : edgeAt P k = edge a b := by simp only [edgeAt, ha, hb]
theorem badAt_some {P : List Cell} {k : Nat} {a b : Cell} (ha : P[k]? = some a) (hb : P[(k + 1) % P.length]? = some b) : badAt P k = badE a b := by simp only [badAt, ha, hb]
theorem edge_len (a b : Cell) : (edge a b).length ≤ 1 := by unfold edge; split <;> (try split) <;> simp
theorem edgeAt_len (P : List Cell) (k : Nat) : (edgeAt P k).length ≤ 1 := by unfold edgeAt; split <;> simp [edge_len]
theorem flat_cap1 {α β : Type} (f : α → List β) (h : ∀ a, (f a).length ≤ 1) : ∀ l : List α, (l.flatMap f).length ≤ l.length
  | [] => by simp
  | a :: l => by
    have h1 := h a
    have h2 := flat_cap1 f h l
    rw [List.flatMap_cons, List.length_append, List.length_cons]
    omega
theorem edges_len (P : List Cell) (k : Nat) : ((List.range k).flatMap (edgeAt P)).length ≤ k := by
  have := flat_cap1 (edgeAt P) (fun j => edgeAt_len P j) (List.range k)
  rwa [List.length_range] at this
theorem ups_len : ∀ l : List (List Cell), (ups l).length ≤ (l.map List.length).sum
  | [] => by simp [ups]
  | P :: l => by
    have h1 := ups_len l
    have h2 := edges_len P P.length
    simp only [ups, List.flatMap_cons, List.length_append, List.map_cons, List.sum_cons, upsP] at *
    omega

def cfU : List D → List D → Int
  | .int _ a :: _, .int _ b :: _ => b - a
  | _, _ => 0
def VU (r : List D) : Prop := ∃ u : Up, r = u.row ∧ -4096 ≤ u.x ∧ u.x ≤ 4096
theorem cmpU_pc (a b : Up) (ha : -4096 ≤ a.x ∧ a.x ≤ 4096) (hb0 : -4096 ≤ b.x ∧ b.x ≤ 4096) : PC Tryz.prog 150 [.agg a.row, .agg b.row] (.p (.int .i64 (b.x - a.x))) := by
  have e := wrap_i64 (n := b.x - a.x) (by omega) (by omega)
  refine pc_of_awp cx (fn := Tryz.f150) (c := _) Tryz.func150 rfl rfl (Nat.le_of_ble_eq_true rfl) ?_
  rw [Tryz.ntmps150]; refine Nav.imp ?_
  refine awp_region cx [] fun K hK => ?_
  simp [push_cast]
  repeat (refine And.intro (by clear hK; intros; first | omega | (simp_all; done) | (simp_all <;> omega)) ?_)
  refine hK _ ?_; clear hK K; refine Nav.imp ?_
  refine awp_region cx [] fun K hK => ?_
  simp [push_cast, e]
  repeat (refine And.intro (by clear hK; intros; first | omega | (simp_all; done) | (simp_all <;> omega)) ?_)
  refine hK _ ?_; clear hK K; refine Nav.imp ?_
  simp [push_cast]
theorem cfU_ok : CmpOk Tryz.prog 150 VU cfU := by
  refine cmp_of_pc ?_
  rintro _ _ ⟨a, rfl, ha⟩ ⟨b, rfl, hb⟩
  exact cmpU_pc a b ha hb
theorem cfU_ord : CmpOrd VU cfU where
  irrefl := by rintro _ ⟨a, rfl, _⟩; simp [cfU]
  trans := by
    rintro _ _ _ ⟨a, rfl, _⟩ ⟨b, rfl, _⟩ ⟨c, rfl, _⟩
    simp only [cfU]; omega
  ntrans := by
    rintro _ _ _ ⟨a, rfl, _⟩ ⟨b, rfl, _⟩ ⟨c, rfl, _⟩
    simp only [cfU]; omega
end Go.Proofs.YtdddknniooimmaaGreat

namespace Go.Proofs.YtdddknniooimmaaGreat
open Go.Abs

def sortUp_ren : Go.Shelf.Ren := ⟨fun | 6 => 149 | 15 => 133 | 14 => 215 | 28 => 191 | 29 => 192 | 20 => 245 | 21 => 246 | 22 => 247 | 23 => 248 | 24 => 249 | 25 => 250 | 26 => 251 | 27 => 252 | 46 => 277 | 47 => 234 | 48 => 235 | 49 => 278 | 50 => 279 | 57 => 295 | n => n, fun | 22 => 131 | 24 => 136 | 25 => 187 | 3 => 3 | 39 => 174 | 0 => 0 | 53 => 228 | 55 => 230 | 4 => 4 | 46 => 222 | 45 => 221 | 50 => 204 | 5 => 5 | 9 => 9 | 66 => 256 | 70 => 260 | 76 => 284 | 77 => 148 | n => n, fun n => n⟩
theorem sortUp_lays : SlLaysF0.n6 Tryz.prog sortUp_ren where
  mixed := by kernel_rfl
  f6 := ⟨Tryz.f149.name, by kernel_rfl, Tryz.func149.trans (congrArg some (by kernel_rfl))⟩
  f14 := ⟨Tryz.f215.name, by kernel_rfl, Tryz.func215.trans (congrArg some (by kernel_rfl))⟩
  f15 := Tryz.func133.trans (congrArg some (by kernel_rfl))
  f20 := ⟨Tryz.f245.name, by kernel_rfl, Tryz.func245.trans (congrArg some (by kernel_rfl))⟩
  f21 := ⟨Tryz.f246.name, by kernel_rfl, Tryz.func246.trans (congrArg some (by kernel_rfl))⟩
  f22 := ⟨Tryz.f247.name, by kernel_rfl, Tryz.func247.trans (congrArg some (by kernel_rfl))⟩
  f23 := ⟨Tryz.f248.name, by kernel_rfl, Tryz.func248.trans (congrArg some (by kernel_rfl))⟩
  f24 := ⟨Tryz.f249.name, by kernel_rfl, Tryz.func249.trans (congrArg some (by kernel_rfl))⟩
  f25 := ⟨Tryz.f250.name, by kernel_rfl, Tryz.func250.trans (congrArg some (by kernel_rfl))⟩
  f26 := ⟨Tryz.f251.name, by kernel_rfl, Tryz.func251.trans (congrArg some (by kernel_rfl))⟩
  f27 := ⟨Tryz.f252.name, by kernel_rfl, Tryz.func252.trans (congrArg some (by kernel_rfl))⟩
  f28 := Tryz.func191.trans (congrArg some (by kernel_rfl))
  f29 := Tryz.func192.trans (congrArg some (by kernel_rfl))
  f46 := ⟨Tryz.f277.name, by kernel_rfl, Tryz.func277.trans (congrArg some (by kernel_rfl))⟩
  f47 := Tryz.func234.trans (congrArg some (by kernel_rfl))
  f48 := Tryz.func235.trans (congrArg some (by kernel_rfl))
  f49 := ⟨Tryz.f278.name, by kernel_rfl, Tryz.func278.trans (congrArg some (by kernel_rfl))⟩
  f50 := ⟨Tryz.f279.name, by kernel_rfl, Tryz.func279.trans (congrArg some (by kernel_rfl))⟩
  f57 := ⟨Tryz.f295.name, by kernel_rfl, Tryz.func295.trans (congrArg some (by kernel_rfl))⟩
  t0 := Tryz.underlying0
  a0 := Tryz.isAgg0
  z0 := Tryz.sizeOf0
  v0 := Tryz.zeroValue0
  t3 := Tryz.underlying3
  a3 := Tryz.isAgg3
  z3 := Tryz.sizeOf3
  v3 := Tryz.zeroValue3
  t4 := Tryz.underlying4
  a4 := Tryz.isAgg4
  z4 := Tryz.sizeOf4
  v4 := Tryz.zeroValue4
  t5 := Tryz.underlying5
  a5 := Tryz.isAgg5
  z5 := Tryz.sizeOf5
  v5 := Tryz.zeroValue5
  t9 := Tryz.underlying9
  a9 := Tryz.isAgg9
  z9 := Tryz.sizeOf9
  v9 := Tryz.zeroValue9
  t22 := Tryz.underlying131
  a22 := Tryz.isAgg131
  z22 := Tryz.sizeOf131
  v22 := Tryz.zeroValue131
  t25 := Tryz.underlying187
  a25 := Tryz.isAgg187
  z25 := Tryz.sizeOf187
  v25 := Tryz.zeroValue187
  t39 := Tryz.underlying174
  a39 := Tryz.isAgg174
  z39 := Tryz.sizeOf174
  v39 := Tryz.zeroValue174
  t45 := Tryz.underlying221
  a45 := Tryz.isAgg221
  z45 := Tryz.sizeOf221
  v45 := Tryz.zeroValue221
  t46 := Tryz.underlying222
  a46 := Tryz.isAgg222
  z46 := Tryz.sizeOf222
  v46 := Tryz.zeroValue222
  t50 := Tryz.underlying204
  a50 := Tryz.isAgg204
  z50 := Tryz.sizeOf204
  v50 := Tryz.zeroValue204
  t53 := Tryz.underlying228
  a53 := Tryz.isAgg228
  z53 := Tryz.sizeOf228
  v53 := Tryz.zeroValue228
  t55 := Tryz.underlying230
  a55 := Tryz.isAgg230
  z55 := Tryz.sizeOf230
  v55 := Tryz.zeroValue230
  t66 := Tryz.underlying256
  a66 := Tryz.isAgg256
  z66 := Tryz.sizeOf256
  v66 := Tryz.zeroValue256
  t70 := Tryz.underlying260
  a70 := Tryz.isAgg260
  z70 := Tryz.sizeOf260
  v70 := Tryz.zeroValue260
  t76 := Tryz.underlying284
  a76 := Tryz.isAgg284
  z76 := Tryz.sizeOf284
  v76 := Tryz.zeroValue284
  t77 := Tryz.underlying148
  a77 := Tryz.isAgg148
  z77 := Tryz.sizeOf148
  v77 := Tryz.zeroValue148
def srtU (l : List Up) : List (Nat × Ob) → AV → Prop := fun hp' r => ∃ l' : List Up, l'.Perm l ∧ (l'.Pairwise fun p q => q.x ≤ p.x) ∧ hp' = [(0, ⟨136, 4, dr (l'.map Up.row)⟩)] ∧ r = .tup []
theorem rowsU_of {rows : List (List D)} (hr : ∀ x ∈ rows, ∃ c : Up, x = c.row) : ∃ m : List Up, rows = m.map Up.row := by
  induction rows with
  | nil => exact ⟨[], rfl⟩
  | cons a l ih =>
    obtain ⟨c, rfl⟩ := hr a (by simp)
    obtain ⟨m, rfl⟩ := ih fun x hx => hr x (by simp [hx])
    exact ⟨c :: m, rfl⟩
theorem sortU_pxe (l : List Up) (hf : ∀ r ∈ l, -4096 ≤ r.x ∧ r.x ≤ 4096) (hl : l.length ≤ 10000000) : PXE Tryz.prog 149 [.hs 0 0 l.length, .d (.fn (.func 150) [])] [(0, ⟨136, 4, dr (l.map Up.row)⟩)] [(0, 0)] (srtU l) := by
  have h := sortFunc_allE (P := Tryz.prog) sortUp_lays (k := 4) (by decide) (fun w => by kernel_rfl) (fun w => by kernel_rfl) ⟨_, Tryz.func149, by kernel_rfl, by kernel_rfl⟩ (cg := 150) (fun args w => by kernel_rfl) cfU_ok cfU_ord 136 (rows := l.map Up.row)
    (fun r hr => by obtain ⟨c, hc, rfl⟩ := List.mem_map.1 hr; exact ⟨c, rfl, hf c hc⟩) (by simp; omega)
  simp only [List.length_map] at h
  refine ⟨h.1, fun g w vs h1 h2 h3 => (h.2 g w vs h1 h2 h3).mono fun e w' ⟨v, g', hp', r, he, ⟨rows', hp, hs, h4, h5⟩, k⟩ => ⟨v, g', hp', r, he, ?_, k⟩⟩
  obtain ⟨l', rfl⟩ := rowsU_of (rows := rows') fun x hx => by
    have := hp.subset hx
    obtain ⟨c, _, rfl⟩ := List.mem_map.1 this
    exact ⟨c, rfl⟩
  refine ⟨l', ?_, ?_, h4, h5⟩
  · have := hp.map (fun x : List D => match x with | [.int _ a, .int _ b, .int _ c, .int _ d] => (⟨a, b, c, d⟩ : Up) | _ => ⟨0, 0, 0, 0⟩)
    rw [List.map_map, List.map_map] at this
    have e : ((fun x : List D => match x with | [.int _ a, .int _ b, .int _ c, .int _ d] => (⟨a, b, c, d⟩ : Up) | _ => ⟨0, 0, 0, 0⟩) ∘ Up.row) = id := by funext r; rfl
    rw [e, List.map_id, List.map_id] at this
    exact this
  · rw [List.pairwise_map] at hs
    refine hs.imp fun {a b} h => ?_
    simp only [cfU] at h
    omega
def upOut (l : List (List Cell)) : List (Nat × Ob) → AV → Prop := fun hp' r => (badL l = true ∧ hp' = [] ∧ r = .tup [.nl, .d (.bool false)]) ∨ (badL l = false ∧ ∃ U : List Up, U.Perm (ups l) ∧ (U.Pairwise fun p q => q.x ≤ p.x) ∧ hp' = [(0, ⟨136, 4, dr (U.map Up.row)⟩)] ∧ r = .tup [.hs 0 0 U.length, .d (.bool true)])
theorem any_take {α : Type} (f : α → Bool) {l : List α} {i : Nat} {x : α} (h : l[i]? = some x) : (l.take (i + 1)).any f = ((l.take i).any f || f x) := by
  rw [List.take_add_one, h]; simp
theorem any_rg (f : Nat → Bool) (k : Nat) : (List.range (k + 1)).any f = ((List.range k).any f || f k) := by
  rw [List.range_succ]; simp
theorem flat_rg {β : Type} (f : Nat → List β) (k : Nat) : (List.range (k + 1)).flatMap f = (List.range k).flatMap f ++ f k := by
  rw [List.range_succ]; simp
theorem edge_bd {a b : Cell} (h : badE a b = false) : ∀ u ∈ edge a b, -4096 ≤ u.x ∧ u.x ≤ 4096 := by
  unfold badE at h
  simp only [Bool.or_eq_false_iff, decide_eq_false_iff_not] at h
  have h1 := h.1.1
  have h2 := h.1.2
  intro u hu
  unfold edge at hu
  split at hu
  · simp at hu; subst hu; simp only; omega
  · split at hu
    · simp at hu; subst hu; simp only; omega
    · simp at hu
theorem bad_of {l : List (List Cell)} {i : Nat} {P : List Cell} (hP : l[i]? = some P) {k : Nat} (hk : k < P.length) (h : badAt P k = true) : badL l = true := by
  unfold badL
  rw [List.any_eq_true]
  refine ⟨P, List.mem_of_getElem? hP, ?_⟩
  unfold badP
  rw [List.any_eq_true]
  exact ⟨k, List.mem_range.2 hk, h⟩
set_option maxHeartbeats 16000000 in
theorem uprights_pxe (l : List (List Cell)) (hl : l.length ≤ 1000000) (hp : ∀ P ∈ l, P.length ≤ 1000000) (hs : (l.map List.length).sum ≤ 1000000) : PXE Tryz.prog 95 [.d (encPs l)] [] [] (upOut l) := by
  have hpre : ∀ i, i ≤ l.length → (ups (l.take i)).length ≤ 1000000 := fun i _ => by
    have h1 := ups_len (l.take i)
    have h2 : ((l.take i).map List.length).sum ≤ (l.map List.length).sum := by
      have : (l.map List.length).sum = ((l.take i).map List.length).sum + ((l.drop i).map List.length).sum := by
        rw [← List.sum_append, ← List.map_append, List.take_append_drop]
      omega
    omega
  refine pxe_of_awp cx (fn := Tryz.f95) (c := _) 0 Tryz.func95 rfl rfl (Nat.le_of_ble_eq_true rfl) rfl rfl fun Ls => ?_
  rw [Tryz.ntmps95]; refine Nav.imp ?_
  refine awp_region cx [] fun K hK => ?_
  simp [push_cast]
  repeat (refine And.intro (by clear hK; intros; first | omega | (simp_all; done) | (simp_all <;> omega)) ?_)
  refine hK _ ?_; clear hK K; refine Nav.imp ?_
  refine awp_region cx [] fun K hK => ?_
  simp [push_cast]
  repeat (refine And.intro (by clear hK; intros; first | omega | (simp_all; done) | (simp_all <;> omega)) ?_)
  refine hK _ ?_; clear hK K; refine Nav.imp ?_
  refine awp_region cx [] fun K hK => ?_
  simp [push_cast]
  repeat (refine And.intro (by clear hK; intros; first | omega | (simp_all; done) | (simp_all <;> omega)) ?_)
  refine hK _ ?_; clear hK K; refine Nav.imp ?_
  refine awp_loop (β := Nat × List Up) (fun s => ⟨98, [(4, .hs 0 0 s.2.length), (10, .d (encPs l)), (11, .d (.int .i64 l.length)), (12, .d (.int .i64 s.1))], [(0, some ⟨136, 4, dr (s.2.map Up.row)⟩)], 1⟩) (fun s => s.1 ≤ l.length ∧ s.2 = ups (l.take s.1) ∧ (l.take s.1).any badP = false ∧ ∀ u ∈ s.2, -4096 ≤ u.x ∧ u.x ≤ 4096) (fun s => l.length - s.1) (0, []) ?_ ⟨Nat.zero_le _, by simp [ups], by simp, by simp⟩ ?_
  · refine weak_of [(0, none)] rfl (by simp [upT, up, upL, push_cast]) (by simp [upH, upR, upL, up, push_cast]) (by simp [namesOk, push_cast]) (by simp [olds])
  · rintro ⟨i, U⟩ ⟨hi, hU, hbad, hbd⟩
    simp only at hi hU hbad hbd
    refine Nav.imp ?_
    refine awp_region cx [] fun K hK => ?_
    simp [push_cast]
    repeat (refine And.intro (by clear hK; intros; first | omega | (simp_all; done) | (simp_all <;> omega)) ?_)
    refine hK _ ?_; clear hK K; refine Nav.imp ?_
    refine awp_cond (b := decide ((i : Int) < l.length)) (by simp [push_cast]) (fun hb => ?_) (fun hb => ?_) <;> (refine Nav.imp ?_)
    · have hlt : i < l.length := by simpa using hb
      obtain ⟨P, hP⟩ := getq hlt
      have hPl := hp P (List.mem_of_getElem? hP)
      have e0 := wrap_i64 (n := (i : Int) + 1) (by omega) (by omega)
      have hU2 : ups (l.take (i + 1)) = ups (l.take i) ++ upsP P := flat_take upsP hP
      have hb2 := any_take badP hP
      rw [hbad, Bool.false_or] at hb2
      have hlen2 := hpre (i + 1) hlt
      rw [hU2, ← hU] at hlen2
      refine awp_region cx [] fun K hK => ?_
      simp [push_cast, hP]
      repeat (refine And.intro (by clear hK; intros; first | omega | (simp_all; done) | (simp_all <;> omega)) ?_)
      refine hK _ ?_; clear hK K; refine Nav.imp ?_
      refine awp_region cx [] fun K hK => ?_
      simp [push_cast]
      repeat (refine And.intro (by clear hK; intros; first | omega | (simp_all; done) | (simp_all <;> omega)) ?_)
      refine hK _ ?_; clear hK K; refine Nav.imp ?_
      refine awp_loop (β := Nat × List Up) (fun s => ⟨98, [(4, .hs 0 0 s.2.length), (10, .d (encPs l)), (11, .d (.int .i64 l.length)), (12, .d (.int .i64 i)), (6, .ptr 1 0 0), (17, .d (encCells P)), (18, .d (.int .i64 P.length)), (19, .d (.int .i64 s.1))], [(0, some ⟨136, 4, dr (s.2.map Up.row)⟩), (1, some ⟨55, 1, [[.d (encCells P)]]⟩)], 2⟩) (fun s => s.1 ≤ P.length ∧ s.2 = U ++ (List.range s.1).flatMap (edgeAt P) ∧ (List.range s.1).any (badAt P) = false ∧ ∀ u ∈ s.2, -4096 ≤ u.x ∧ u.x ≤ 4096) (fun s => P.length - s.1) (0, U) ?_ ⟨Nat.zero_le _, by simp, by simp, hbd⟩ ?_
      · refine weak_of [(0, some 0), (1, some 4)] rfl (by simp [upT, up, upL, push_cast]) (by simp [upH, upR, upL, up, push_cast]) (by simp [namesOk, push_cast]) (by simp [olds])
      · rintro ⟨k, V⟩ ⟨hk, hV, hkb, hVb⟩
        simp only at hk hV hkb hVb
        refine Nav.imp ?_
        refine awp_region cx [] fun K hK => ?_
        simp [push_cast]
        repeat (refine And.intro (by clear hK; intros; first | omega | (simp_all; done) | (simp_all <;> omega)) ?_)
        refine hK _ ?_; clear hK K; refine Nav.imp ?_
        refine awp_cond (b := decide ((k : Int) < P.length)) (by simp [push_cast]) (fun hb => ?_) (fun hb => ?_) <;> (refine Nav.imp ?_)
        · have hkl : k < P.length := by simpa using hb
          obtain ⟨a, ha⟩ := getq hkl
          obtain ⟨b, hb3⟩ := getq (l := P) (k := (k + 1) % P.length) (Nat.mod_lt _ (by omega))
          have eA := edgeAt_some ha hb3
          have eB := badAt_some ha hb3
          have e1 := wrap_i64 (n := (k : Int) + 1) (by omega) (by omega)
          have e3 : ((k : Int) + 1).tmod (P.length : Int) = (((k + 1) % P.length : Nat) : Int) := (Int.ofNat_tmod _ _).symm
          have e4 : ¬ P = [] := by intro e; rw [e] at hkl; simp at hkl
          have hn1 := any_rg (badAt P) k
          rw [hkb, Bool.false_or, eB] at hn1
          have hn2 := flat_rg (edgeAt P) k
          rw [eA] at hn2
          generalize (k + 1) % P.length = j at *
          refine awp_region cx [] fun K hK => ?_
          simp [push_cast, ha]
          repeat (refine And.intro (by clear hK; intros; first | omega | (simp_all; done) | (simp_all <;> omega)) ?_)
          refine hK _ ?_; clear hK K; refine Nav.imp ?_
          refine awp_region_draw cx mixed [] fun K hK => ?_
          simp [push_cast, hb3, e1, e3, e4]
          repeat (refine And.intro (by clear hK; intros; first | omega | (simp_all; done) | (simp_all <;> omega)) ?_)
          refine hK _ _ (by kernel_rfl) ?_; clear hK K; refine Nav.imp ?_
          have hE : badE a b = ((decide (min a.x a.y < -4096) || decide (4096 < max a.x a.y)) || ((a.x == b.x) == (a.y == b.y))) := rfl
          have hbl : badE a b = true → badL l = true := fun h => bad_of hP hkl (eB.trans h)
          have hUk := hpre i hi
          rw [← hU] at hUk
          have hVl : V.length ≤ 2000000 := by
            rw [hV, List.length_append]
            have := edges_len P k
            omega
          have h32 : (V.length + 1) * 32 ≤ 140737488355328 := by omega
          generalize hq : ((a.x == b.x) == (a.y == b.y)) = q at *
          by_cases g1 : min a.x a.y < -4096
          · have hbt : badE a b = true := by rw [hE]; simp [g1]
            refine awp_region cx [(11, .skip)] fun K hK => ?_
            simp [push_cast, g1]
            repeat (refine And.intro (by clear hK; intros; first | omega | (simp_all; done) | (simp_all <;> omega)) ?_)
            refine hK _ ?_; clear hK K; refine Nav.imp ?_
            refine awp_cond (b := true) (by simp [push_cast, g1]) (fun hb => ?_) (fun hb => ?_) <;> (refine Nav.imp ?_)
            · refine awp_region cx [] fun K hK => ?_
              simp [push_cast]
              repeat (refine And.intro (by clear hK; intros; first | omega | (simp_all; done) | (simp_all <;> omega)) ?_)
              refine hK _ ?_; clear hK K; refine Nav.imp ?_
              refine ⟨_, _, .inl ⟨hbl hbt, rfl, rfl⟩, ?_⟩
              first | refine rx_r [] ?_ | refine rx_n [] ?_
              simp [push_cast]
              try decide
            · simp at hb
          · by_cases g2 : 4096 < max a.x a.y
            · have hbt : badE a b = true := by rw [hE]; simp [g2]
              refine awp_region cx [] fun K hK => ?_
              simp [push_cast, g1, g2]
              repeat (refine And.intro (by clear hK; intros; first | omega | (simp_all; done) | (simp_all <;> omega)) ?_)
              refine hK _ ?_; clear hK K; refine Nav.imp ?_
              refine awp_cond (b := true) (by simp [push_cast, g1, g2]) (fun hb => ?_) (fun hb => ?_) <;> (refine Nav.imp ?_)
              · refine awp_region cx [] fun K hK => ?_
                simp [push_cast]
                repeat (refine And.intro (by clear hK; intros; first | omega | (simp_all; done) | (simp_all <;> omega)) ?_)
                refine hK _ ?_; clear hK K; refine Nav.imp ?_
                refine ⟨_, _, .inl ⟨hbl hbt, rfl, rfl⟩, ?_⟩
                first | refine rx_r [] ?_ | refine rx_n [] ?_
                simp [push_cast]
                try decide
              · simp at hb
            · rw [decide_eq_false g1, decide_eq_false g2, Bool.or_false, Bool.false_or] at hE
              refine awp_region cx [] fun K hK => ?_
              simp [push_cast, g1, g2, hq]
              repeat (refine And.intro (by clear hK; intros; first | omega | (simp_all; done) | (simp_all <;> omega)) ?_)
              refine hK _ ?_; clear hK K; refine Nav.imp ?_
              refine awp_cond (b := q) (by simp [push_cast, g1, g2]) (fun hb => ?_) (fun hb => ?_) <;> (refine Nav.imp ?_)
              · rw [hb] at hE
                refine awp_region cx [] fun K hK => ?_
                simp [push_cast]
                repeat (refine And.intro (by clear hK; intros; first | omega | (simp_all; done) | (simp_all <;> omega)) ?_)
                refine hK _ ?_; clear hK K; refine Nav.imp ?_
                refine ⟨_, _, .inl ⟨hbl hE, rfl, rfl⟩, ?_⟩
                first | refine rx_r [] ?_ | refine rx_n [] ?_
                simp [push_cast]
                try decide
              · rw [hb] at hE
                rw [hE] at hn1
                have hbd := edge_bd hE
                have hV2 : V ++ edge a b = U ++ (List.range (k + 1)).flatMap (edgeAt P) := by rw [hn2, hV, List.append_assoc]
                have hVb2 : ∀ u ∈ V ++ edge a b, -4096 ≤ u.x ∧ u.x ≤ 4096 := fun u hu => by
                  rcases List.mem_append.1 hu with h | h
                  · exact hVb u h
                  · exact hbd u h
                by_cases g3 : a.y < b.y
                · have hed : edge a b = [⟨a.x, a.y, b.y, 1⟩] := by unfold edge; rw [if_pos g3]
                  rw [hed] at hV2 hVb2
                  refine awp_region cx [] fun K hK => ?_
                  simp [push_cast]
                  repeat (refine And.intro (by clear hK; intros; first | omega | (simp_all; done) | (simp_all <;> omega)) ?_)
                  refine hK _ ?_; clear hK K; refine Nav.imp ?_
                  refine awp_cond (b := true) (by simp [push_cast, g3]) (fun hb => ?_) (fun hb => ?_) <;> (refine Nav.imp ?_)
                  · refine awp_region cx [] fun K hK => ?_
                    simp [push_cast, h32]
                    repeat (refine And.intro (by clear hK; intros; first | omega | (simp_all; done) | (simp_all <;> omega)) ?_)
                    refine hK _ ?_; clear hK K; refine Nav.imp ?_
                    refine awp_region cx [] fun K hK => ?_
                    simp [push_cast, e1]
                    repeat (refine And.intro (by clear hK; intros; first | omega | (simp_all; done) | (simp_all <;> omega)) ?_)
                    refine hK _ ?_; clear hK K; refine Nav.imp ?_
                    refine ⟨(k + 1, V ++ [⟨a.x, a.y, b.y, 1⟩]), ⟨hkl, hV2, hn1, hVb2⟩, by simp only; omega, ?_⟩
                    refine weak_of [(0, some 63), (1, some 1)] rfl (by simp [upT, up, upL, push_cast]) (by simp [upH, upR, upL, up, push_cast]) (by simp [namesOk, push_cast]) (by simp [olds])
                  · simp at hb
                · by_cases g4 : b.y < a.y
                  · have hed : edge a b = [⟨a.x, b.y, a.y, -1⟩] := by unfold edge; rw [if_neg g3, if_pos g4]
                    rw [hed] at hV2 hVb2
                    refine awp_region cx [] fun K hK => ?_
                    simp [push_cast]
                    repeat (refine And.intro (by clear hK; intros; first | omega | (simp_all; done) | (simp_all <;> omega)) ?_)
                    refine hK _ ?_; clear hK K; refine Nav.imp ?_
                    refine awp_cond (b := false) (by simp [push_cast, g3]) (fun hb => ?_) (fun hb => ?_) <;> (refine Nav.imp ?_)
                    · simp at hb
                    · refine awp_region cx [] fun K hK => ?_
                      simp [push_cast]
                      repeat (refine And.intro (by clear hK; intros; first | omega | (simp_all; done) | (simp_all <;> omega)) ?_)
                      refine hK _ ?_; clear hK K; refine Nav.imp ?_
                      refine awp_cond (b := true) (by simp [push_cast, g4]) (fun hb => ?_) (fun hb => ?_) <;> (refine Nav.imp ?_)
                      · refine awp_region cx [] fun K hK => ?_
                        simp [push_cast, h32]
                        repeat (refine And.intro (by clear hK; intros; first | omega | (simp_all; done) | (simp_all <;> omega)) ?_)
                        refine hK _ ?_; clear hK K; refine Nav.imp ?_
                        refine awp_region cx [] fun K hK => ?_
                        simp [push_cast, e1]
                        repeat (refine And.intro (by clear hK; intros; first | omega | (simp_all; done) | (simp_all <;> omega)) ?_)
                        refine hK _ ?_; clear hK K; refine Nav.imp ?_
                        refine ⟨(k + 1, V ++ [⟨a.x, b.y, a.y, -1⟩]), ⟨hkl, hV2, hn1, hVb2⟩, by simp only; omega, ?_⟩
                        refine weak_of [(0, some 69), (1, some 1)] rfl (by simp [upT, up, upL, push_cast]) (by simp [upH, upR, upL, up, push_cast]) (by simp [namesOk, push_cast]) (by simp [olds])
                      · simp at hb
                  · have hed : edge a b = [] := by unfold edge; rw [if_neg g3, if_neg g4]
                    rw [hed, List.append_nil] at hV2 hVb2
                    refine awp_region cx [] fun K hK => ?_
                    simp [push_cast]
                    repeat (refine And.intro (by clear hK; intros; first | omega | (simp_all; done) | (simp_all <;> omega)) ?_)
                    refine hK _ ?_; clear hK K; refine Nav.imp ?_
                    refine awp_cond (b := false) (by simp [push_cast, g3]) (fun hb => ?_) (fun hb => ?_) <;> (refine Nav.imp ?_)
                    · simp at hb
                    · refine awp_region cx [] fun K hK => ?_
                      simp [push_cast]
                      repeat (refine And.intro (by clear hK; intros; first | omega | (simp_all; done) | (simp_all <;> omega)) ?_)
                      refine hK _ ?_; clear hK K; refine Nav.imp ?_
                      refine awp_cond (b := false) (by simp [push_cast, g4]) (fun hb => ?_) (fun hb => ?_) <;> (refine Nav.imp ?_)
                      · simp at hb
                      · refine awp_region cx [] fun K hK => ?_
                        simp [push_cast, e1]
                        repeat (refine And.intro (by clear hK; intros; first | omega | (simp_all; done) | (simp_all <;> omega)) ?_)
                        refine hK _ ?_; clear hK K; refine Nav.imp ?_
                        refine ⟨(k + 1, V), ⟨hkl, hV2, hn1, hVb2⟩, by simp only; omega, ?_⟩
                        refine weak_of [(0, some 0), (1, some 1)] rfl (by simp [upT, up, upL, push_cast]) (by simp [upH, upR, upL, up, push_cast]) (by simp [namesOk, push_cast]) (by simp [olds])
        · have hke : k = P.length := by simp at hb; omega
          subst hke
          have hV2 : V = U ++ upsP P := hV
          have hbp : badP P = false := hkb
          rw [hbp] at hb2
          refine awp_region cx [] fun K hK => ?_
          simp [push_cast, e0]
          repeat (refine And.intro (by clear hK; intros; first | omega | (simp_all; done) | (simp_all <;> omega)) ?_)
          refine hK _ ?_; clear hK K; refine Nav.imp ?_
          refine ⟨(i + 1, V), ⟨hlt, by rw [hU2, hV2, hU], hb2, hVb⟩, by simp only; omega, ?_⟩
          refine weak_of [(0, some 0)] rfl (by simp [upT, up, upL, push_cast]) (by simp [upH, upR, upL, up, push_cast]) (by simp [namesOk, push_cast]) (by simp [olds])
    · have hie : i = l.length := by simp at hb; omega
      subst hie
      rw [List.take_length] at hU hbad
      have hUl := hpre l.length (Nat.le_refl _)
      rw [List.take_length, ← hU] at hUl
      have d1 := sortU_pxe U hbd (by omega)
      refine awp_regionE cx [] (l := [_, _]) (pre := [_]) (post := []) rfl rfl rfl rfl 0 ⟨[(0, 0)], [.hs 0 0 U.length, .d (.fn (.func 150) [])], [(0, ⟨136, 4, dr (U.map Up.row)⟩)], [(0, 0)], none, [], .any⟩ (srtU U) [] fun K hK => ?_
      simp [push_cast, freshOk, obE, effY]
      refine ⟨d1, ?_⟩
      rintro hp' r ⟨U', hp, hs, rfl, rfl⟩
      simp [push_cast]
      refine hK _ ?_; clear hK K; refine Nav.imp ?_
      have hpl := hp.length_eq
      refine awp_region cx [] fun K hK => ?_
      simp [push_cast]
      repeat (refine And.intro (by clear hK; intros; first | omega | (simp_all; done) | (simp_all <;> omega)) ?_)
      refine hK _ ?_; clear hK K; refine Nav.imp ?_
      refine ⟨_, _, .inr ⟨hbad, U', by rw [← hU]; exact hp, hs, rfl, rfl⟩, ?_⟩
      first | refine rx_r [(0, 0)] ?_ | refine rx_n [(0, 0)] ?_
      simp [push_cast, hpl]
      try decide
end Go.Proofs.YtdddknniooimmaaGreat

namespace Go.Proofs.YtdddknniooimmaaGreat
open Go.Abs

def bandStep (y : Int) (t : List Run × Int × Int) (u : Up) : List Run × Int × Int :=
  if decide (y < u.lo) || decide (u.hi ≤ y) then t else (if decide (0 < t.2.1) && decide (u.x < t.2.2) then t.1 ++ [⟨u.x, t.2.2⟩] else t.1, t.2.1 + u.s, u.x)
def bandF (U : List Up) (y : Int) : List Run × Int × Int := U.foldl (bandStep y) ([], 0, 4096)
def bandL (U : List Up) (y : Int) : List Run := normL (bandF U y).1
def okU (u : Up) : Prop := (-4096 ≤ u.x ∧ u.x ≤ 4096) ∧ -1 ≤ u.s ∧ u.s ≤ 1
theorem bandF_take {U : List Up} {i : Nat} {u : Up} (h : U[i]? = some u) (y : Int) : bandF (U.take (i + 1)) y = bandStep y (bandF (U.take i) y) u := by
  unfold bandF
  rw [List.take_add_one, h, List.foldl_append]; rfl
theorem bandF_ok (U : List Up) (y : Int) (hU : ∀ u ∈ U, okU u) : ∀ i, i ≤ U.length → (bandF (U.take i) y).1.length ≤ i ∧ (∀ r ∈ (bandF (U.take i) y).1, -4096 ≤ r.a ∧ r.a < r.b ∧ r.b ≤ 4096) ∧ (-(i : Int) ≤ (bandF (U.take i) y).2.1 ∧ (bandF (U.take i) y).2.1 ≤ i) ∧ -4096 ≤ (bandF (U.take i) y).2.2 ∧ (bandF (U.take i) y).2.2 ≤ 4096
  | 0, _ => by simp [bandF]
  | i + 1, hi => by
    obtain ⟨h1, h2, h3, h4⟩ := bandF_ok U y hU i (by omega)
    obtain ⟨u, hu⟩ := getq (l := U) (k := i) (by omega)
    obtain ⟨o1, o2⟩ := hU u (List.mem_of_getElem? hu)
    rw [bandF_take hu]
    generalize bandF (U.take i) y = t at *
    obtain ⟨out, w, r⟩ := t
    simp only at *
    unfold bandStep
    by_cases c1 : (decide (y < u.lo) || decide (u.hi ≤ y)) = true
    · rw [if_pos c1]
      exact ⟨by show out.length ≤ i + 1; omega, h2, by show -((i + 1 : Nat) : Int) ≤ w ∧ w ≤ ((i + 1 : Nat) : Int); omega, h4⟩
    · rw [if_neg c1]
      refine ⟨?_, ?_, by show -((i + 1 : Nat) : Int) ≤ w + u.s ∧ w + u.s ≤ ((i + 1 : Nat) : Int); omega, o1⟩
      · show (if (decide (0 < w) && decide (u.x < r)) = true then out ++ [⟨u.x, r⟩] else out).length ≤ i + 1
        by_cases c2 : (decide (0 < w) && decide (u.x < r)) = true
        · rw [if_pos c2, List.length_append, List.length_singleton]; omega
        · rw [if_neg c2]; omega
      · show ∀ q ∈ (if (decide (0 < w) && decide (u.x < r)) = true then out ++ [⟨u.x, r⟩] else out), -4096 ≤ q.a ∧ q.a < q.b ∧ q.b ≤ 4096
        by_cases c2 : (decide (0 < w) && decide (u.x < r)) = true
        · rw [if_pos c2]
          simp only [Bool.and_eq_true, decide_eq_true_eq] at c2
          intro q hq
          rcases List.mem_append.1 hq with hq | hq
          · exact h2 q hq
          · have hq := List.mem_singleton.1 hq
            rw [hq]
            exact ⟨o1.1, c2.2, h4.2⟩
        · rw [if_neg c2]; exact h2
set_option maxHeartbeats 8000000 in
theorem band_ok (U : List Up) (y : Int) (hl : U.length ≤ 1000000) (hU : ∀ u ∈ U, okU u) : PC Tryz.prog 98 [.sl (U.map Up.row), .int .i64 y] (.p (encRuns (bandL U y))) := by
  have hF := bandF_ok U y hU
  have hres : bandL U y = normL (bandF (U.take U.length) y).1 := by rw [List.take_length]; rfl
  generalize bandL U y = res at *
  refine pc_of_awp cx (fn := Tryz.f98) (c := _) Tryz.func98 rfl rfl (Nat.le_of_ble_eq_true rfl) ?_
  rw [Tryz.ntmps98]; refine Nav.imp ?_
  refine awp_region cx [] fun K hK => ?_
  simp [push_cast]
  repeat (refine And.intro (by clear hK; intros; first | omega | (simp_all; done) | (simp_all <;> omega)) ?_)
  refine hK _ ?_; clear hK K; refine Nav.imp ?_
  refine awp_region cx [] fun K hK => ?_
  simp [push_cast]
  repeat (refine And.intro (by clear hK; intros; first | omega | (simp_all; done) | (simp_all <;> omega)) ?_)
  refine hK _ ?_; clear hK K; refine Nav.imp ?_
  refine awp_region cx [] fun K hK => ?_
  simp [push_cast]
  repeat (refine And.intro (by clear hK; intros; first | omega | (simp_all; done) | (simp_all <;> omega)) ?_)
  refine hK _ ?_; clear hK K; refine Nav.imp ?_
  refine awp_region cx [] fun K hK => ?_
  simp [push_cast]
  repeat (refine And.intro (by clear hK; intros; first | omega | (simp_all; done) | (simp_all <;> omega)) ?_)
  refine hK _ ?_; clear hK K; refine Nav.imp ?_
  refine awp_loop (β := Nat) (fun i => ⟨54, [(1, .d (.int .i64 y)), (5, .hs 0 0 (bandF (U.take i) y).1.length), (6, .d (.int .i64 (bandF (U.take i) y).2.1)), (7, .d (.int .i64 (bandF (U.take i) y).2.2)), (10, .d (.sl (U.map Up.row))), (11, .d (.int .i64 U.length)), (12, .d (.int .i64 i))], [(0, some ⟨85, 2, dr ((bandF (U.take i) y).1.map Run.row)⟩)], 1⟩) (fun i => i ≤ U.length) (fun i => U.length - i) 0 ?_ (Nat.zero_le _) ?_
  · refine weak_of [(0, none)] rfl (by simp [upT, up, upL, push_cast, bandF]) (by simp [upH, upR, upL, up, push_cast, bandF]) (by simp [namesOk, push_cast]) (by simp [olds])
  · intro i hi
    obtain ⟨f1, f2, f3, f4⟩ := hF i hi
    refine Nav.imp ?_
    refine awp_region cx [] fun K hK => ?_
    simp [push_cast]
    repeat (refine And.intro (by clear hK; intros; first | omega | (simp_all; done) | (simp_all <;> omega)) ?_)
    refine hK _ ?_; clear hK K; refine Nav.imp ?_
    refine awp_cond (b := decide ((i : Int) < U.length)) (by simp [push_cast]) (fun hb => ?_) (fun hb => ?_) <;> (refine Nav.imp ?_)
    · have hlt : i < U.length := by simpa using hb
      obtain ⟨u, hu⟩ := getq hlt
      obtain ⟨o1, o2⟩ := hU u (List.mem_of_getElem? hu)
      have hnx := bandF_take hu y
      have e0 := wrap_i64 (n := (i : Int) + 1) (by omega) (by omega)
      generalize hB : bandF (U.take (i + 1)) y = B at hnx
      generalize bandF (U.take i) y = t at *
      obtain ⟨out, w, r⟩ := t
      simp only at *
      have h16 : (out.length + 1) * 16 ≤ 140737488355328 := by omega
      have e1 := wrap_i64 (n := w + u.s) (by omega) (by omega)
      unfold bandStep at hnx
      refine awp_region cx [] fun K hK => ?_
      simp [push_cast, hu]
      repeat (refine And.intro (by clear hK; intros; first | omega | (simp_all; done) | (simp_all <;> omega)) ?_)
      refine hK _ ?_; clear hK K; refine Nav.imp ?_
      by_cases g1 : y < u.lo
      · simp [g1] at hnx
        refine awp_region cx [] fun K hK => ?_
        simp [push_cast, g1]
        repeat (refine And.intro (by clear hK; intros; first | omega | (simp_all; done) | (simp_all <;> omega)) ?_)
        refine hK _ ?_; clear hK K; refine Nav.imp ?_
        refine awp_cond (b := true) (by simp [push_cast, g1]) (fun hb => ?_) (fun hb => ?_) <;> (refine Nav.imp ?_)
        · refine awp_region cx [] fun K hK => ?_
          simp [push_cast, e0]
          repeat (refine And.intro (by clear hK; intros; first | omega | (simp_all; done) | (simp_all <;> omega)) ?_)
          refine hK _ ?_; clear hK K; refine Nav.imp ?_
          refine ⟨i + 1, hlt, by omega, ?_⟩
          refine weak_of [(0, some 0)] rfl (by simp [upT, up, upL, push_cast, hB, hnx]) (by simp [upH, upR, upL, up, push_cast, hB, hnx]) (by simp [namesOk, push_cast]) (by simp [olds])
        · simp at hb
      · by_cases g2 : u.hi ≤ y
        · simp [g2] at hnx
          refine awp_region cx [] fun K hK => ?_
          simp [push_cast, g1, g2]
          repeat (refine And.intro (by clear hK; intros; first | omega | (simp_all; done) | (simp_all <;> omega)) ?_)
          refine hK _ ?_; clear hK K; refine Nav.imp ?_
          refine awp_cond (b := true) (by simp [push_cast, g1, g2]) (fun hb => ?_) (fun hb => ?_) <;> (refine Nav.imp ?_)
          · refine awp_region cx [] fun K hK => ?_
            simp [push_cast, e0]
            repeat (refine And.intro (by clear hK; intros; first | omega | (simp_all; done) | (simp_all <;> omega)) ?_)
            refine hK _ ?_; clear hK K; refine Nav.imp ?_
            refine ⟨i + 1, hlt, by omega, ?_⟩
            refine weak_of [(0, some 0)] rfl (by simp [upT, up, upL, push_cast, hB, hnx]) (by simp [upH, upR, upL, up, push_cast, hB, hnx]) (by simp [namesOk, push_cast]) (by simp [olds])
          · simp at hb
        · rw [decide_eq_false g1, decide_eq_false g2] at hnx
          simp only [Bool.or_self, Bool.false_eq_true, if_false] at hnx
          refine awp_region cx [] fun K hK => ?_
          simp [push_cast, g1, g2]
          repeat (refine And.intro (by clear hK; intros; first | omega | (simp_all; done) | (simp_all <;> omega)) ?_)
          refine hK _ ?_; clear hK K; refine Nav.imp ?_
          refine awp_cond (b := false) (by simp [push_cast, g1, g2]) (fun hb => ?_) (fun hb => ?_) <;> (refine Nav.imp ?_)
          · simp at hb
          · by_cases g3 : 0 < w
            · by_cases g4 : u.x < r
              · simp [g3, g4] at hnx
                refine awp_region cx [] fun K hK => ?_
                simp [push_cast, g3, g4]
                repeat (refine And.intro (by clear hK; intros; first | omega | (simp_all; done) | (simp_all <;> omega)) ?_)
                refine hK _ ?_; clear hK K; refine Nav.imp ?_
                refine awp_cond (b := true) (by simp [push_cast, g3, g4]) (fun hb => ?_) (fun hb => ?_) <;> (refine Nav.imp ?_)
                · refine awp_region cx [] fun K hK => ?_
                  simp [push_cast, h16]
                  repeat (refine And.intro (by clear hK; intros; first | omega | (simp_all; done) | (simp_all <;> omega)) ?_)
                  refine hK _ ?_; clear hK K; refine Nav.imp ?_
                  refine awp_region cx [] fun K hK => ?_
                  simp [push_cast, e1]
                  repeat (refine And.intro (by clear hK; intros; first | omega | (simp_all; done) | (simp_all <;> omega)) ?_)
                  refine hK _ ?_; clear hK K; refine Nav.imp ?_
                  refine awp_region cx [] fun K hK => ?_
                  simp [push_cast]
                  repeat (refine And.intro (by clear hK; intros; first | omega | (simp_all; done) | (simp_all <;> omega)) ?_)
                  refine hK _ ?_; clear hK K; refine Nav.imp ?_
                  refine awp_region cx [] fun K hK => ?_
                  simp [push_cast, e0]
                  repeat (refine And.intro (by clear hK; intros; first | omega | (simp_all; done) | (simp_all <;> omega)) ?_)
                  refine hK _ ?_; clear hK K; refine Nav.imp ?_
                  refine ⟨i + 1, hlt, by omega, ?_⟩
                  refine weak_of [(0, some 30)] rfl (by simp [upT, up, upL, push_cast, hB, hnx]) (by simp [upH, upR, upL, up, push_cast, hB, hnx]) (by simp [namesOk, push_cast]) (by simp [olds])
                · simp at hb
              · simp [g3, g4] at hnx
                refine awp_region cx [] fun K hK => ?_
                simp [push_cast, g3, g4]
                repeat (refine And.intro (by clear hK; intros; first | omega | (simp_all; done) | (simp_all <;> omega)) ?_)
                refine hK _ ?_; clear hK K; refine Nav.imp ?_
                refine awp_cond (b := false) (by simp [push_cast, g3, g4]) (fun hb => ?_) (fun hb => ?_) <;> (refine Nav.imp ?_)
                · simp at hb
                · refine awp_region cx [] fun K hK => ?_
                  simp [push_cast, e1]
                  repeat (refine And.intro (by clear hK; intros; first | omega | (simp_all; done) | (simp_all <;> omega)) ?_)
                  refine hK _ ?_; clear hK K; refine Nav.imp ?_
                  refine awp_region cx [] fun K hK => ?_
                  simp [push_cast]
                  repeat (refine And.intro (by clear hK; intros; first | omega | (simp_all; done) | (simp_all <;> omega)) ?_)
                  refine hK _ ?_; clear hK K; refine Nav.imp ?_
                  refine awp_region cx [] fun K hK => ?_
                  simp [push_cast, e0]
                  repeat (refine And.intro (by clear hK; intros; first | omega | (simp_all; done) | (simp_all <;> omega)) ?_)
                  refine hK _ ?_; clear hK K; refine Nav.imp ?_
                  refine ⟨i + 1, hlt, by omega, ?_⟩
                  refine weak_of [(0, some 0)] rfl (by simp [upT, up, upL, push_cast, hB, hnx]) (by simp [upH, upR, upL, up, push_cast, hB, hnx]) (by simp [namesOk, push_cast]) (by simp [olds])
            · simp [g3] at hnx
              refine awp_region cx [] fun K hK => ?_
              simp [push_cast, g3]
              repeat (refine And.intro (by clear hK; intros; first | omega | (simp_all; done) | (simp_all <;> omega)) ?_)
              refine hK _ ?_; clear hK K; refine Nav.imp ?_
              refine awp_cond (b := false) (by simp [push_cast, g3]) (fun hb => ?_) (fun hb => ?_) <;> (refine Nav.imp ?_)
              · simp at hb
              · refine awp_region cx [] fun K hK => ?_
                simp [push_cast, e1]
                repeat (refine And.intro (by clear hK; intros; first | omega | (simp_all; done) | (simp_all <;> omega)) ?_)
                refine hK _ ?_; clear hK K; refine Nav.imp ?_
                refine awp_region cx [] fun K hK => ?_
                simp [push_cast]
                repeat (refine And.intro (by clear hK; intros; first | omega | (simp_all; done) | (simp_all <;> omega)) ?_)
                refine hK _ ?_; clear hK K; refine Nav.imp ?_
                refine awp_region cx [] fun K hK => ?_
                simp [push_cast, e0]
                repeat (refine And.intro (by clear hK; intros; first | omega | (simp_all; done) | (simp_all <;> omega)) ?_)
                refine hK _ ?_; clear hK K; refine Nav.imp ?_
                refine ⟨i + 1, hlt, by omega, ?_⟩
                refine weak_of [(0, some 0)] rfl (by simp [upT, up, upL, push_cast, hB, hnx]) (by simp [upH, upR, upL, up, push_cast, hB, hnx]) (by simp [namesOk, push_cast]) (by simp [olds])
    · have hie : i = U.length := by simp at hb; omega
      subst hie
      generalize bandF (U.take U.length) y = t at *
      obtain ⟨out, w, r⟩ := t
      simp only at *
      have c1 := norm_ok out (fun q hq => by have := f2 q hq; simp [fitsB]; omega) (by omega)
      rw [← hres] at c1
      refine awp_freeze 0 (out.map Run.row) rfl (by simp [push_cast]) fun K hK => ?_
      simp [push_cast, St.fz, fzT, fzH, fzO, fz, fzL, fzR, fzR_dr, fzR_app, fzR_set, fzL_map]
      refine hK _ ?_; clear hK K; refine Nav.imp ?_
      refine awp_region cx [(1, .p (.tup [encRuns res, .int .i64 0]))] fun K hK => ?_
      simp [push_cast, c1]
      repeat (refine And.intro (by clear hK; intros; first | omega | (simp_all; done) | (simp_all <;> omega)) ?_)
      refine hK _ ?_; clear hK K; refine Nav.imp ?_
      refine awp_region cx [] fun K hK => ?_
      simp [push_cast]
      repeat (refine And.intro (by clear hK; intros; first | omega | (simp_all; done) | (simp_all <;> omega)) ?_)
      refine hK _ ?_; clear hK K; refine Nav.imp ?_
      simp [push_cast]
end Go.Proofs.YtdddknniooimmaaGreat

namespace Go.Proofs.YtdddknniooimmaaGreat
open Go.Abs Go.Shelf

def sortInt_ren : Go.Shelf.Ren := ⟨fun | 189 => 96 | 125 => 133 | 257 => 151 | 128 => 191 | 129 => 192 | 294 => 216 | 295 => 217 | 296 => 218 | 297 => 219 | 298 => 220 | 299 => 221 | 216 => 222 | 300 => 223 | 301 => 224 | 328 => 253 | 329 => 234 | 330 => 235 | 331 => 254 | 332 => 255 | 215 => 166 | 343 => 280 | n => n, fun | 28 => 134 | 3 => 3 | 46 => 174 | 0 => 0 | 51 => 228 | 53 => 230 | 4 => 4 | 183 => 222 | 182 => 221 | 131 => 204 | 5 => 5 | 9 => 9 | 218 => 256 | 222 => 260 | 228 => 284 | 229 => 148 | n => n, fun n => n⟩
theorem sortInt_lays : Lays.n189 Tryz.prog sortInt_ren where
  mixed := by kernel_rfl
  f125 := Tryz.func133.trans (congrArg some (by kernel_rfl))
  f128 := Tryz.func191.trans (congrArg some (by kernel_rfl))
  f129 := Tryz.func192.trans (congrArg some (by kernel_rfl))
  f189 := Tryz.func96.trans (congrArg some (by kernel_rfl))
  f215 := Tryz.func166.trans (congrArg some (by kernel_rfl))
  f216 := Tryz.func222.trans (congrArg some (by kernel_rfl))
  f257 := Tryz.func151.trans (congrArg some (by kernel_rfl))
  f294 := Tryz.func216.trans (congrArg some (by kernel_rfl))
  f295 := Tryz.func217.trans (congrArg some (by kernel_rfl))
  f296 := Tryz.func218.trans (congrArg some (by kernel_rfl))
  f297 := Tryz.func219.trans (congrArg some (by kernel_rfl))
  f298 := Tryz.func220.trans (congrArg some (by kernel_rfl))
  f299 := Tryz.func221.trans (congrArg some (by kernel_rfl))
  f300 := Tryz.func223.trans (congrArg some (by kernel_rfl))
  f301 := Tryz.func224.trans (congrArg some (by kernel_rfl))
  f328 := Tryz.func253.trans (congrArg some (by kernel_rfl))
  f329 := Tryz.func234.trans (congrArg some (by kernel_rfl))
  f330 := Tryz.func235.trans (congrArg some (by kernel_rfl))
  f331 := Tryz.func254.trans (congrArg some (by kernel_rfl))
  f332 := Tryz.func255.trans (congrArg some (by kernel_rfl))
  f343 := Tryz.func280.trans (congrArg some (by kernel_rfl))
  t0 := Tryz.underlying0
  a0 := Tryz.isAgg0
  z0 := Tryz.sizeOf0
  v0 := Tryz.zeroValue0
  t3 := Tryz.underlying3
  a3 := Tryz.isAgg3
  z3 := Tryz.sizeOf3
  v3 := Tryz.zeroValue3
  t4 := Tryz.underlying4
  a4 := Tryz.isAgg4
  z4 := Tryz.sizeOf4
  v4 := Tryz.zeroValue4
  t5 := Tryz.underlying5
  a5 := Tryz.isAgg5
  z5 := Tryz.sizeOf5
  v5 := Tryz.zeroValue5
  t9 := Tryz.underlying9
  a9 := Tryz.isAgg9
  z9 := Tryz.sizeOf9
  v9 := Tryz.zeroValue9
  t28 := Tryz.underlying134
  a28 := Tryz.isAgg134
  z28 := Tryz.sizeOf134
  v28 := Tryz.zeroValue134
  t46 := Tryz.underlying174
  a46 := Tryz.isAgg174
  z46 := Tryz.sizeOf174
  v46 := Tryz.zeroValue174
  t51 := Tryz.underlying228
  a51 := Tryz.isAgg228
  z51 := Tryz.sizeOf228
  v51 := Tryz.zeroValue228
  t53 := Tryz.underlying230
  a53 := Tryz.isAgg230
  z53 := Tryz.sizeOf230
  v53 := Tryz.zeroValue230
  t131 := Tryz.underlying204
  a131 := Tryz.isAgg204
  z131 := Tryz.sizeOf204
  v131 := Tryz.zeroValue204
  t182 := Tryz.underlying221
  a182 := Tryz.isAgg221
  z182 := Tryz.sizeOf221
  v182 := Tryz.zeroValue221
  t183 := Tryz.underlying222
  a183 := Tryz.isAgg222
  z183 := Tryz.sizeOf222
  v183 := Tryz.zeroValue222
  t218 := Tryz.underlying256
  a218 := Tryz.isAgg256
  z218 := Tryz.sizeOf256
  v218 := Tryz.zeroValue256
  t222 := Tryz.underlying260
  a222 := Tryz.isAgg260
  z222 := Tryz.sizeOf260
  v222 := Tryz.zeroValue260
  t228 := Tryz.underlying284
  a228 := Tryz.isAgg284
  z228 := Tryz.sizeOf284
  v228 := Tryz.zeroValue284
  t229 := Tryz.underlying148
  a229 := Tryz.isAgg148
  z229 := Tryz.sizeOf148
  v229 := Tryz.zeroValue148
def compactInt_ren : Go.Shelf.Ren := ⟨fun | 20 => 97 | n => n, fun | 22 => 134 | 3 => 3 | 4 => 4 | 0 => 0 | n => n, fun n => n⟩
theorem compactInt_lays : Lays2.n20 Tryz.prog compactInt_ren where
  mixed := by kernel_rfl
  f20 := Tryz.func97.trans (congrArg some (by kernel_rfl))
  t0 := Tryz.underlying0
  a0 := Tryz.isAgg0
  z0 := Tryz.sizeOf0
  v0 := Tryz.zeroValue0
  t3 := Tryz.underlying3
  a3 := Tryz.isAgg3
  z3 := Tryz.sizeOf3
  v3 := Tryz.zeroValue3
  t4 := Tryz.underlying4
  a4 := Tryz.isAgg4
  z4 := Tryz.sizeOf4
  v4 := Tryz.zeroValue4
  t22 := Tryz.underlying134
  a22 := Tryz.isAgg134
  z22 := Tryz.sizeOf134
  v22 := Tryz.zeroValue134
  i3 := by kernel_rfl

theorem sortInts_px (l : List Int) (hl : l.length ≤ 1000000000) : PX Tryz.prog 96 [.hs 0 0 l.length] [(0, ⟨3, 1, dr (l.map iRow)⟩)] [(0, 0)] [(0, ⟨3, 1, dr ((l.mergeSort fun x y => decide (x ≤ y)).map iRow)⟩)] (.tup []) :=
  sortI_px sortInt_lays ⟨_, Tryz.func96, by kernel_rfl, by kernel_rfl⟩ 3 l (by omega)
theorem compactInts_px (l : List Int) (hl : l.length ≤ 1000000000) : PX Tryz.prog 97 [.hs 0 0 l.length] [(0, ⟨3, 1, dr (l.map iRow)⟩)] [(0, 0)] [(0, ⟨3, 1, dr ((Go.Lib.compact l ++ List.replicate (l.length - (Go.Lib.compact l).length) 0).map iRow)⟩)] (.hs 0 0 (Go.Lib.compact l).length) :=
  compactI_px compactInt_lays ⟨_, Tryz.func97, by kernel_rfl, by kernel_rfl⟩ 3 l (by omega)

theorem free_runs : ∀ l : List Run, D.freess (l.map Run.row) = true
  | [] => rfl
  | c :: l => by simp [D.freess, D.frees, D.free, free_runs l]
theorem cloneR_ok (l : List Run) (hl : l.length ≤ 100000000) : PC Tryz.prog 99 [encRuns l] (.f (encRuns l)) := by
  have h16 : l.length * 16 ≤ 140737488355328 := by omega
  refine pc_of_awp cx (fn := Tryz.f99) (c := _) Tryz.func99 rfl rfl (Nat.le_of_ble_eq_true rfl) ?_
  rw [Tryz.ntmps99]; refine Nav.imp ?_
  refine awp_region cx [] fun K hK => ?_
  simp [push_cast]
  repeat (refine And.intro (by clear hK; intros; first | omega | (simp_all; done) | (simp_all <;> omega)) ?_)
  refine hK _ ?_; clear hK K; refine Nav.imp ?_
  refine awp_region cx [] fun K hK => ?_
  simp [push_cast]
  repeat (refine And.intro (by clear hK; intros; first | omega | (simp_all; done) | (simp_all <;> omega)) ?_)
  refine hK _ ?_; clear hK K; refine Nav.imp ?_
  refine awp_ub 4 (by simp [push_cast]; exact ⟨rfl, rfl⟩) fun bu hu1 hu2 => ?_
  refine awp_cond (b := bu) (by simp [push_cast]) (fun hb => ?_) (fun hb => ?_) <;> (refine Nav.imp ?_)
  · have hl0 : l = [] := by simpa using hu1 hb
    subst hl0
    refine awp_region cx [] fun K hK => ?_
    simp [push_cast]
    repeat (refine And.intro (by clear hK; intros; first | omega | (simp_all; done) | (simp_all <;> omega)) ?_)
    refine hK _ ?_; clear hK K; refine Nav.imp ?_
    simp [push_cast]
  · refine awp_region cx [] fun K hK => ?_
    simp [push_cast, h16]
    repeat (refine And.intro (by clear hK; intros; first | omega | (simp_all; done) | (simp_all <;> omega)) ?_)
    refine hK _ ?_; clear hK K; refine Nav.imp ?_
    have ht : List.take l.length (l.map Run.row) = l.map Run.row := List.take_of_length_le (by simp)
    simp [push_cast, ht, free_runs]
end Go.Proofs.YtdddknniooimmaaGreat

namespace Go.Proofs.YtdddknniooimmaaGreat
open Go.Abs

def endsL (U : List Up) : List Int := U.flatMap fun u => [u.lo, u.hi]
def bandRows (U : List Up) (lo hi : Int) : List Row := if bandL U lo = [] then [] else (List.range (hi - lo).toNat).map fun k : Nat => ⟨lo + k, bandL U lo⟩
def bandAt (U : List Up) (C : List Int) (i : Nat) : List Row := match C[i]?, C[i + 1]? with
  | some lo, some hi => bandRows U lo hi
  | _, _ => []
def endsC (U : List Up) : List Int := Go.Lib.compact ((endsL U).mergeSort fun x y => decide (x ≤ y))
def backRows (U : List Up) : List Row := (List.range ((endsC U).length - 1)).flatMap (bandAt U (endsC U))
structure FineU (u : Up) : Prop where
  x : -4096 ≤ u.x ∧ u.x ≤ 4096
  y : -4096 ≤ u.lo ∧ u.lo < u.hi ∧ u.hi ≤ 4096
  s : u.s = 1 ∨ u.s = -1
theorem badE_bd {a b : Cell} (h : badE a b = false) : (-4096 ≤ a.x ∧ a.x ≤ 4096) ∧ -4096 ≤ a.y ∧ a.y ≤ 4096 := by
  unfold badE at h
  simp only [Bool.or_eq_false_iff, decide_eq_false_iff_not] at h
  have h1 := h.1.1
  have h2 := h.1.2
  omega
theorem ups_fine {l : List (List Cell)} (h : badL l = false) : ∀ u ∈ ups l, FineU u := by
  intro u hu
  obtain ⟨P, hP, hu⟩ := List.mem_flatMap.1 hu
  obtain ⟨k, hk, hu⟩ := List.mem_flatMap.1 hu
  rw [List.mem_range] at hk
  have hg : ∀ j, j < P.length → badAt P j = false := fun j hj => by
    cases hc : badAt P j with
    | false => rfl
    | true =>
      obtain ⟨i, hi⟩ := List.mem_iff_getElem?.1 hP
      rw [bad_of hi hj hc] at h; cases h
  have hm : (k + 1) % P.length < P.length := Nat.mod_lt _ (by omega)
  obtain ⟨a, ha⟩ := getq hk
  obtain ⟨b, hb⟩ := getq hm
  obtain ⟨c, hc⟩ := getq (l := P) (k := ((k + 1) % P.length + 1) % P.length) (Nat.mod_lt _ (by omega))
  have h1 := hg k hk
  have h2 := hg _ hm
  rw [badAt_some ha hb] at h1
  rw [badAt_some hb hc] at h2
  have b1 := badE_bd h1
  have b2 := badE_bd h2
  rw [edgeAt_some ha hb] at hu
  unfold edge at hu
  split at hu
  · have hu := List.mem_singleton.1 hu
    subst hu
    exact ⟨b1.1, by simp only; omega, .inl rfl⟩
  · split at hu
    · have hu := List.mem_singleton.1 hu
      subst hu
      exact ⟨b1.1, by simp only; omega, .inr rfl⟩
    · cases hu
theorem endsL_take {U : List Up} {i : Nat} {u : Up} (h : U[i]? = some u) : endsL (U.take (i + 1)) = endsL (U.take i) ++ [u.lo, u.hi] := flat_take (fun u : Up => [u.lo, u.hi]) h
theorem endsL_len : ∀ U : List Up, (endsL U).length = 2 * U.length
  | [] => rfl
  | u :: U => by
    have := endsL_len U
    simp only [endsL, List.flatMap_cons, List.length_append, List.length_cons, List.length_nil] at *
    omega
theorem bandRows_len (U : List Up) (lo hi : Int) (h1 : -4096 ≤ lo) (h2 : hi ≤ 4096) : (bandRows U lo hi).length ≤ 8192 := by
  unfold bandRows
  split
  · simp
  · simp; omega
theorem bandL_facts {U : List Up} (h : ∀ u ∈ U, FineU u) (y : Int) : Apart (bandL U y) ∧ (∀ r ∈ bandL U y, -4096 ≤ r.a ∧ r.b ≤ 4096) ∧ ∀ x, inR (bandL U y) x = inR (bandF U y).1 x := by
  obtain ⟨h1, h2⟩ := norm_facts (bandF U y).1
  refine ⟨h1, ?_, h2⟩
  have hb := (bandF_ok U y (fun u hu => ⟨(h u hu).x, by have := (h u hu).s; omega⟩) U.length (Nat.le_refl _)).2.1
  rw [List.take_length] at hb
  refine apart_bounds h1 fun z hz => ?_
  rw [h2] at hz
  obtain ⟨r, hr, h3, h4⟩ := inR_iff.1 hz
  have := hb r hr
  omega
theorem bandL_len {U : List Up} (h : ∀ u ∈ U, FineU u) (y : Int) : (bandL U y).length ≤ 8192 := by
  obtain ⟨h1, h2, _⟩ := bandL_facts h y
  have := apart_len h1 h2
  omega
set_option maxHeartbeats 16000000 in
theorem back_ok (l : List (List Cell)) (hl : l.length ≤ 1000000) (hp : ∀ P ∈ l, P.length ≤ 1000000) (hs : (l.map List.length).sum ≤ 1000000) (B : List Row) (hB : badL l = false → ∀ U : List Up, U.Perm (ups l) → (U.Pairwise fun p q => q.x ≤ p.x) → backRows U = B) :
    PC Tryz.prog 37 [encPs l] (.p (.tup [.agg (regRow (if badL l then [] else B)), .int .i64 (if badL l then 1 else 0)])) := by
  have d1 := uprights_pxe l hl hp hs
  refine pc_of_awp cx (fn := Tryz.f37) (c := _) Tryz.func37 rfl rfl (Nat.le_of_ble_eq_true rfl) ?_
  rw [Tryz.ntmps37]; refine Nav.imp ?_
  refine awp_region cx [] fun K hK => ?_
  simp [push_cast]
  repeat (refine And.intro (by clear hK; intros; first | omega | (simp_all; done) | (simp_all <;> omega)) ?_)
  refine hK _ ?_; clear hK K; refine Nav.imp ?_
  refine awp_regionE cx [] (l := [_, _, _, _, _, _, _]) (pre := [_]) (post := [_, _, _, _, _]) rfl rfl rfl rfl 0 ⟨[], [.d (encPs l)], [], [], none, [], .any⟩ (upOut l) [(3, 0)] fun K hK => ?_
  simp [push_cast, freshOk, obE, effY]
  refine ⟨d1, ?_⟩
  rintro hp' r (⟨hb1, rfl, rfl⟩ | ⟨hb1, U, hU1, hU2, rfl, rfl⟩)
  · simp [push_cast]
    refine hK _ ?_; clear hK K; refine Nav.imp ?_
    rw [hb1]
    refine awp_region cx [] fun K hK => ?_
    simp [push_cast]
    repeat (refine And.intro (by clear hK; intros; first | omega | (simp_all; done) | (simp_all <;> omega)) ?_)
    refine hK _ ?_; clear hK K; refine Nav.imp ?_
    refine awp_cond (b := true) (by simp [push_cast]) (fun hb => ?_) (fun hb => ?_) <;> (refine Nav.imp ?_)
    · refine awp_region cx [] fun K hK => ?_
      simp [push_cast]
      repeat (refine And.intro (by clear hK; intros; first | omega | (simp_all; done) | (simp_all <;> omega)) ?_)
      refine hK _ ?_; clear hK K; refine Nav.imp ?_
      simp [push_cast]
    · simp at hb
  · simp [push_cast]
    refine hK _ ?_; clear hK K; refine Nav.imp ?_
    have hB := hB hb1 U hU1 hU2
    have hfine : ∀ u ∈ U, FineU u := fun u hu => ups_fine hb1 u (hU1.mem_iff.1 hu)
    have hUl : U.length ≤ 1000000 := by
      have h1 := hU1.length_eq
      have h2 := ups_len l
      omega
    rw [hb1]
    simp only [Bool.false_eq_true, if_false]
    clear hU1 hU2 d1 hp hs hb1
    refine awp_freeze 3 (U.map Up.row) rfl (by simp [push_cast]) fun K hK => ?_
    simp [push_cast, St.fz, fzT, fzH, fzO, fz, fzL, fzR, fzR_dr, fzR_app, fzR_set, fzL_map]
    refine hK _ ?_; clear hK K; refine Nav.imp ?_
    refine awp_region cx [] fun K hK => ?_
    simp [push_cast]
    repeat (refine And.intro (by clear hK; intros; first | omega | (simp_all; done) | (simp_all <;> omega)) ?_)
    refine hK _ ?_; clear hK K; refine Nav.imp ?_
    refine awp_cond (b := false) (by simp [push_cast]) (fun hb => ?_) (fun hb => ?_) <;> (refine Nav.imp ?_)
    · simp at hb
    · refine awp_region cx [] fun K hK => ?_
      simp [push_cast]
      repeat (refine And.intro (by clear hK; intros; first | omega | (simp_all; done) | (simp_all <;> omega)) ?_)
      refine hK _ ?_; clear hK K; refine Nav.imp ?_
      refine awp_region cx [] fun K hK => ?_
      simp [push_cast]
      repeat (refine And.intro (by clear hK; intros; first | omega | (simp_all; done) | (simp_all <;> omega)) ?_)
      refine hK _ ?_; clear hK K; refine Nav.imp ?_
      refine awp_loop (β := Nat) (fun i => ⟨80, [(2, .ptr 0 0 0), (4, .d (.sl (U.map Up.row))), (6, .hs 1 0 (endsL (U.take i)).length), (21, .d (.sl (U.map Up.row))), (22, .d (.int .i64 U.length)), (23, .d (.int .i64 i))], [(0, some ⟨24, 1, [[.nl]]⟩), (1, some ⟨3, 1, dr ((endsL (U.take i)).map iRow)⟩)], 2⟩) (fun i => i ≤ U.length) (fun i => U.length - i) 0 ?_ (Nat.zero_le _) ?_
      · refine weak_of [(0, some 0), (1, none)] rfl (by simp [upT, up, upL, push_cast, endsL]) (by simp [upH, upR, upL, up, push_cast, endsL]) (by simp [namesOk, push_cast]) (by simp [olds])
      · intro i hi
        refine Nav.imp ?_
        refine awp_region cx [] fun K hK => ?_
        simp [push_cast]
        repeat (refine And.intro (by clear hK; intros; first | omega | (simp_all; done) | (simp_all <;> omega)) ?_)
        refine hK _ ?_; clear hK K; refine Nav.imp ?_
        refine awp_cond (b := decide ((i : Int) < U.length)) (by simp [push_cast]) (fun hb => ?_) (fun hb => ?_) <;> (refine Nav.imp ?_)
        · have hlt : i < U.length := by simpa using hb
          obtain ⟨u, hu⟩ := getq hlt
          have hnx := endsL_take hu
          have hel := endsL_len (U.take i)
          rw [List.length_take, Nat.min_eq_left hi] at hel
          have e0 := wrap_i64 (n := (i : Int) + 1) (by omega) (by omega)
          generalize hE1 : endsL (U.take (i + 1)) = E1 at hnx
          generalize endsL (U.take i) = E at *
          have h8 : (E.length + 2) * 8 ≤ 140737488355328 := by omega
          refine awp_region cx [] fun K hK => ?_
          simp [push_cast, hu]
          repeat (refine And.intro (by clear hK; intros; first | omega | (simp_all; done) | (simp_all <;> omega)) ?_)
          refine hK _ ?_; clear hK K; refine Nav.imp ?_
          refine awp_region cx [] fun K hK => ?_
          simp [push_cast, h8]
          repeat (refine And.intro (by clear hK; intros; first | omega | (simp_all; done) | (simp_all <;> omega)) ?_)
          refine hK _ ?_; clear hK K; refine Nav.imp ?_
          refine awp_region cx [] fun K hK => ?_
          simp [push_cast, e0]
          repeat (refine And.intro (by clear hK; intros; first | omega | (simp_all; done) | (simp_all <;> omega)) ?_)
          refine hK _ ?_; clear hK K; refine Nav.imp ?_
          refine ⟨i + 1, hlt, by omega, ?_⟩
          refine weak_of [(0, some 0), (1, some 13)] rfl (by simp [upT, up, upL, push_cast, hE1, hnx]) (by simp [upH, upR, upL, up, push_cast, hE1, hnx]) (by simp [namesOk, push_cast]) (by simp [olds])
        · have hie : i = U.length := by simp at hb; omega
          subst hie
          rw [List.take_length]
          have hEb : ∀ e ∈ endsL U, -4096 ≤ e ∧ e ≤ 4096 := fun e he => by
            obtain ⟨u, hu, he⟩ := List.mem_flatMap.1 he
            have := (hfine u hu).y
            simp at he
            rcases he with rfl | rfl <;> omega
          have hEl := endsL_len U
          have hC0 : endsC U = Go.Lib.compact ((endsL U).mergeSort fun x y => decide (x ≤ y)) := rfl
          have d1 := sortInts_px (endsL U) (by omega)
          have hsl : ((endsL U).mergeSort fun x y => decide (x ≤ y)).length = (endsL U).length := List.length_mergeSort _
          have hsm : ∀ e ∈ (endsL U).mergeSort fun x y => decide (x ≤ y), -4096 ≤ e ∧ e ≤ 4096 := fun e he => hEb e ((List.mergeSort_perm _ _).mem_iff.1 he)
          have hsp : ((endsL U).mergeSort fun x y => decide (x ≤ y)).Pairwise (· ≤ ·) := by
            have := List.pairwise_mergeSort (le := fun x y : Int => decide (x ≤ y)) (fun a b c h1 h2 => by simp at *; omega) (fun a b => by simp; omega) (endsL U)
            exact this.imp fun {a b} h => by simpa using h
          have hBdef : backRows U = (List.range ((endsC U).length - 1)).flatMap (bandAt U (endsC U)) := rfl
          rw [hB] at hBdef
          generalize hE : endsL U = E at *
          generalize hS : (E.mergeSort fun x y => decide (x ≤ y)) = S at *
          have d2 := compactInts_px S (by omega)
          obtain ⟨q1, q2⟩ := compact_sorted hsp
          have hcl := Go.Lib.compact_length_le S
          rw [hC0] at hBdef
          have hCb : ∀ e ∈ Go.Lib.compact S, -4096 ≤ e ∧ e ≤ 4096 := fun e he => hsm e ((q2 e).1 he)
          generalize hCc : Go.Lib.compact S = C at *
          generalize hZs : List.replicate (S.length - C.length) (0 : Int) = Zs at *
          have htk : List.take C.length ((C ++ Zs).map iRow) = C.map iRow := by rw [List.map_append, List.take_left' (by simp)]
          have hCl : C.length ≤ 2000000 := by omega
          have hCle : C.length ≤ (C ++ Zs).length := by simp
          generalize hEE : C ++ Zs = EE at *
          refine awp_region cx [(1, .x ⟨[(0, 1)], [.hs 0 0 E.length], [(0, ⟨3, 1, dr (E.map iRow)⟩)], [(0, 0)], none, [(0, ⟨3, 1, dr (S.map iRow)⟩)], .tup []⟩)] fun K hK => ?_
          simp [push_cast, d1]
          repeat (refine And.intro (by clear hK; intros; first | omega | (simp_all; done) | (simp_all <;> omega)) ?_)
          refine hK _ ?_; clear hK K; refine Nav.imp ?_
          rw [← hsl]
          refine awp_region cx [(1, .x ⟨[(0, 1)], [.hs 0 0 S.length], [(0, ⟨3, 1, dr (S.map iRow)⟩)], [(0, 0)], none, [(0, ⟨3, 1, dr (EE.map iRow)⟩)], .hs 0 0 C.length⟩)] fun K hK => ?_
          simp [push_cast, d2]
          repeat (refine And.intro (by clear hK; intros; first | omega | (simp_all; done) | (simp_all <;> omega)) ?_)
          refine hK _ ?_; clear hK K; refine Nav.imp ?_
          refine awp_freeze 1 (EE.map iRow) rfl (by simp [push_cast, htk, hCle]) fun K hK => ?_
          simp [push_cast, St.fz, fzT, fzH, fzO, fz, fzL, fzR, fzR_dr, fzR_app, fzR_set, fzL_map, htk, hCle]
          refine hK _ ?_; clear hK K; refine Nav.imp ?_
          refine awp_region cx [] fun K hK => ?_
          simp [push_cast]
          repeat (refine And.intro (by clear hK; intros; first | omega | (simp_all; done) | (simp_all <;> omega)) ?_)
          refine hK _ ?_; clear hK K; refine Nav.imp ?_
          refine awp_region cx [] fun K hK => ?_
          simp [push_cast]
          repeat (refine And.intro (by clear hK; intros; first | omega | (simp_all; done) | (simp_all <;> omega)) ?_)
          refine hK _ ?_; clear hK K; refine Nav.imp ?_
          refine awp_loop (β := Nat × List Row) (fun s => ⟨80, [(2, .ptr 0 0 0), (4, .d (.sl (U.map Up.row))), (6, .d (.sl (C.map iRow))), (9, .ptr 1 0 0), (10, .d (.int .i64 s.1))], [(0, some ⟨24, 1, [[.nl]]⟩), (1, some ⟨24, 1, [[.hs 2 0 s.2.length]]⟩), (2, some ⟨65, 2, dr (s.2.map Row.row)⟩)], 3⟩) (fun s => (s.1 = 0 ∨ s.1 < C.length) ∧ s.2 = (List.range s.1).flatMap (bandAt U C) ∧ s.2.length ≤ s.1 * 8192) (fun s => C.length - s.1) (0, []) ?_ ⟨.inl rfl, by simp, by simp⟩ ?_
          · refine weak_of [(0, some 0), (1, some 8), (2, none)] rfl (by simp [upT, up, upL, push_cast]) (by simp [upH, upR, upL, up, push_cast]) (by simp [namesOk, push_cast]) (by simp [olds])
          · rintro ⟨i, Z⟩ ⟨hi, hZ, hZl⟩
            simp only at hi hZ hZl
            have e0 := wrap_i64 (n := (i : Int) + 1) (by omega) (by omega)
            refine Nav.imp ?_
            refine awp_region cx [] fun K hK => ?_
            simp [push_cast, e0]
            repeat (refine And.intro (by clear hK; intros; first | omega | (simp_all; done) | (simp_all <;> omega)) ?_)
            refine hK _ ?_; clear hK K; refine Nav.imp ?_
            refine awp_cond (b := decide ((i : Int) + 1 < C.length)) (by simp [push_cast]) (fun hb => ?_) (fun hb => ?_) <;> (refine Nav.imp ?_)
            · have hlt : i + 1 < C.length := by simp at hb; omega
              obtain ⟨lo, hlo⟩ := getq (l := C) (k := i) (by omega)
              obtain ⟨hi', hhi⟩ := getq hlt
              have hlb := hCb lo (List.mem_of_getElem? hlo)
              have hhb := hCb hi' (List.mem_of_getElem? hhi)
              have hba : bandAt U C i = bandRows U lo hi' := by simp only [bandAt, hlo, hhi]
              have hnx := flat_rg (bandAt U C) i
              rw [hba, ← hZ] at hnx
              have c1 := band_ok U lo hUl (fun u hu => ⟨(hfine u hu).x, by have := (hfine u hu).s; omega⟩)
              have hbr : bandRows U lo hi' = if bandL U lo = [] then [] else (List.range (hi' - lo).toNat).map fun k : Nat => ⟨lo + k, bandL U lo⟩ := rfl
              have hxl := bandL_len hfine lo
              have hbl := bandRows_len U lo hi' hlb.1 hhb.2
              generalize hbR : bandRows U lo hi' = bR at *
              generalize bandL U lo = x at *
              have c2 := cloneR_ok x (by omega)
              refine awp_region cx [(5, .p (encRuns x))] fun K hK => ?_
              simp [push_cast, hlo, c1]
              repeat (refine And.intro (by clear hK; intros; first | omega | (simp_all; done) | (simp_all <;> omega)) ?_)
              refine hK _ ?_; clear hK K; refine Nav.imp ?_
              refine awp_region cx [] fun K hK => ?_
              simp [push_cast, hlo]
              repeat (refine And.intro (by clear hK; intros; first | omega | (simp_all; done) | (simp_all <;> omega)) ?_)
              refine hK _ ?_; clear hK K; refine Nav.imp ?_
              refine awp_loop (β := Nat × List Row) (fun s => ⟨80, [(2, .ptr 0 0 0), (4, .d (.sl (U.map Up.row))), (6, .d (.sl (C.map iRow))), (9, .ptr 1 0 0), (10, .d (.int .i64 i)), (11, .d (encRuns x)), (12, .d (.int .i64 (lo + s.1)))], [(0, some ⟨24, 1, [[.nl]]⟩), (1, some ⟨24, 1, [[.hs 2 0 s.2.length]]⟩), (2, some ⟨65, 2, dr (s.2.map Row.row)⟩)], 3⟩) (fun s => s.1 ≤ (hi' - lo).toNat ∧ (x = [] → s.1 = 0) ∧ s.2 = Z ++ (List.range s.1).map fun k : Nat => ⟨lo + k, x⟩) (fun s => (hi' - lo).toNat - s.1) (0, Z) ?_ ⟨Nat.zero_le _, fun _ => rfl, by simp⟩ ?_
              · simp only [Int.natCast_zero, Int.add_zero]
                refine weak_of [(0, some 0), (1, some 1), (2, some 2)] rfl (by simp [upT, up, upL, push_cast]) (by simp [upH, upR, upL, up, push_cast]) (by simp [namesOk, push_cast]) (by simp [olds])
              · rintro ⟨k, Y⟩ ⟨hk, hx0, hY⟩
                simp only at hk hx0 hY
                have hYl : Y.length = Z.length + k := by rw [hY]; simp
                refine Nav.imp ?_
                by_cases g1 : lo + (k : Int) < hi'
                · cases x with
                  | nil =>
                    have hk0 := hx0 rfl
                    subst hk0
                    have hY0 : Y = Z := by rw [hY]; simp
                    rw [if_pos rfl] at hbr
                    rw [hbr, List.append_nil, ← hY0] at hnx
                    refine awp_region cx [] fun K hK => ?_
                    simp [push_cast, e0, hhi, g1]
                    repeat (refine And.intro (by clear hK; intros; first | omega | (simp_all; done) | (simp_all <;> omega)) ?_)
                    refine hK _ ?_; clear hK K; refine Nav.imp ?_
                    refine awp_cond (b := false) (by simp [push_cast]) (fun hb => ?_) (fun hb => ?_) <;> (refine Nav.imp ?_)
                    · simp at hb
                    · refine awp_region cx [] fun K hK => ?_
                      simp [push_cast, e0]
                      repeat (refine And.intro (by clear hK; intros; first | omega | (simp_all; done) | (simp_all <;> omega)) ?_)
                      refine hK _ ?_; clear hK K; refine Nav.imp ?_
                      refine ⟨(i + 1, Y), ⟨.inr hlt, hnx.symm, by rw [hY0]; simp only; omega⟩, by simp only; omega, ?_⟩
                      refine weak_of [(0, some 0), (1, some 1), (2, some 2)] rfl (by simp [upT, up, upL, push_cast]) (by simp [upH, upR, upL, up, push_cast]) (by simp [namesOk, push_cast]) (by simp [olds])
                  | cons x0 xs =>
                    have hYn : Y ++ [⟨lo + k, x0 :: xs⟩] = Z ++ (List.range (k + 1)).map fun k : Nat => ⟨lo + k, x0 :: xs⟩ := by rw [hY, List.range_succ, List.map_append]; simp
                    have e1 := wrap_i64 (n := lo + (k : Int) + 1) (by omega) (by omega)
                    have h32 : (Y.length + 1) * 32 ≤ 140737488355328 := by omega
                    have e2 : lo + ((k + 1 : Nat) : Int) = lo + k + 1 := by omega
                    generalize hxx : x0 :: xs = x at *
                    have hxp : 0 < x.length := by rw [← hxx]; simp
                    have hxp2 : (0 : Int) < x.length := by omega
                    refine awp_region cx [] fun K hK => ?_
                    simp [push_cast, e0, hhi, g1]
                    repeat (refine And.intro (by clear hK; intros; first | omega | (simp_all; done) | (simp_all <;> omega)) ?_)
                    refine hK _ ?_; clear hK K; refine Nav.imp ?_
                    refine awp_cond (b := true) (by simp [push_cast, hxp, hxp2, g1]) (fun hb => ?_) (fun hb => ?_) <;> (refine Nav.imp ?_)
                    · refine awp_region_draw cx mixed [(4, .f (encRuns x))] fun K hK => ?_
                      simp [push_cast, c2, h32]
                      repeat (refine And.intro (by clear hK; intros; first | omega | (simp_all; done) | (simp_all <;> omega)) ?_)
                      refine hK _ _ (by kernel_rfl) ?_; clear hK K; refine Nav.imp ?_
                      refine awp_region cx [] fun K hK => ?_
                      simp [push_cast, e1]
                      repeat (refine And.intro (by clear hK; intros; first | omega | (simp_all; done) | (simp_all <;> omega)) ?_)
                      refine hK _ ?_; clear hK K; refine Nav.imp ?_
                      refine ⟨(k + 1, Y ++ [⟨lo + k, x⟩]), ⟨by simp only; omega, fun h => by rw [h] at hxp; simp at hxp, hYn⟩, by simp only; omega, ?_⟩
                      simp only [e2]
                      refine weak_of [(0, some 0), (1, some 1), (2, some 22)] rfl (by simp [upT, up, upL, push_cast]) (by simp [upH, upR, upL, up, push_cast]) (by simp [namesOk, push_cast]) (by simp [olds])
                    · simp at hb
                · have hke : k = (hi' - lo).toNat := by omega
                  have hbY : Y = Z ++ bR := by
                    rw [hY, hbr, hke]
                    by_cases h : x = []
                    · rw [if_pos h, ← hke, hx0 h]; simp
                    · rw [if_neg h]
                  refine awp_region cx [] fun K hK => ?_
                  simp [push_cast, e0, hhi, g1]
                  repeat (refine And.intro (by clear hK; intros; first | omega | (simp_all; done) | (simp_all <;> omega)) ?_)
                  refine hK _ ?_; clear hK K; refine Nav.imp ?_
                  refine awp_cond (b := false) (by simp [push_cast, g1]) (fun hb => ?_) (fun hb => ?_) <;> (refine Nav.imp ?_)
                  · simp at hb
                  · refine awp_region cx [] fun K hK => ?_
                    simp [push_cast, e0]
                    repeat (refine And.intro (by clear hK; intros; first | omega | (simp_all; done) | (simp_all <;> omega)) ?_)
                    refine hK _ ?_; clear hK K; refine Nav.imp ?_
                    refine ⟨(i + 1, Y), ⟨.inr hlt, by rw [hnx, hbY], by rw [hbY, List.length_append]; simp only; omega⟩, by simp only; omega, ?_⟩
                    refine weak_of [(0, some 0), (1, some 1), (2, some 2)] rfl (by simp [upT, up, upL, push_cast]) (by simp [upH, upR, upL, up, push_cast]) (by simp [namesOk, push_cast]) (by simp [olds])
            · have hie : i = C.length - 1 := by simp at hb; omega
              have hBZ : B = Z := by rw [hBdef, hZ, hie]
              rw [hBZ]
              refine awp_freeze 2 (Z.map Row.row) rfl (by simp [push_cast]) fun K hK => ?_
              simp [push_cast, St.fz, fzT, fzH, fzO, fz, fzL, fzR, fzR_dr, fzR_app, fzR_set, fzL_map]
              refine hK _ ?_; clear hK K; refine Nav.imp ?_
              refine awp_region cx [] fun K hK => ?_
              simp [push_cast]
              repeat (refine And.intro (by clear hK; intros; first | omega | (simp_all; done) | (simp_all <;> omega)) ?_)
              refine hK _ ?_; clear hK K; refine Nav.imp ?_
              simp [push_cast]
end Go.Proofs.YtdddknniooimmaaGreat
