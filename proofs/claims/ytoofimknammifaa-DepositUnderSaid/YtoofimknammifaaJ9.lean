/-
  Texts of this seat put together: B1, P8, P9, P10, P11, L0, P12.
-/
import Derived.Test.YtoofimknammifaaJ8
import Derived.Test.YtoofimknammifaaJ7
import Derived.Test.YtoofimknammifaaJ4
import Derived.Test.YtoofimknammifaaJ3
import Derived.Test.YtoofimknammifaaChecked
set_option linter.unusedVariables false
set_option linter.unusedSimpArgs false
set_option maxRecDepth 100000
namespace Go.Proofs.Ytoofimknammifaa
open Go.Abs

/-! The region of any cells; regions with X and Y exchanged; spans. -/
theorem one_valid {c : Cell} (h : onG c = true) : validR [⟨c.y, [⟨c.x, c.x + 1⟩]⟩] = true ∧ ∀ d, d ∈ regCells [⟨c.y, [⟨c.x, c.x + 1⟩]⟩] ↔ d = c := by
  obtain ⟨x, y⟩ := c
  have hg := onG_bd h
  simp only at hg
  constructor
  · simp [validR, rowAt, okB, fine, fnAt, List.range_succ]
    omega
  · rintro ⟨a, b⟩
    rw [mem_regCells]
    simp
    omega
theorem set_region : ∀ {l : List Cell}, (∀ c ∈ l, onG c = true) → ∃ R, validR R = true ∧ ∀ c, c ∈ regCells R ↔ c ∈ l
  | [], _ => ⟨[], rfl, fun c => by simp [regCells]⟩
  | c :: l, h => by
    obtain ⟨R, h1, h2⟩ := set_region (l := l) fun d hd => h d (by simp [hd])
    obtain ⟨h3, h4⟩ := one_valid (h c (by simp))
    refine ⟨opR fU [⟨c.y, [⟨c.x, c.x + 1⟩]⟩] R, (opR_facts rfl h3 h1).1, fun d => ?_⟩
    rw [opU_iff h3 h1, h4, h2, List.mem_cons]
theorem of_set {l : List Cell} (hn : l.Nodup) (hon : ∀ c ∈ l, onG c = true) : validR (ofR l) = true ∧ (∀ c, c ∈ regCells (ofR l) ↔ c ∈ l) ∧ (regCells (ofR l)).length = l.length := by
  obtain ⟨R, h1, h2⟩ := set_region hon
  have hp : l.Perm (regCells R) := (List.perm_ext_iff_of_nodup hn (nodup_of_ltY (cells_pw h1))).2 fun c => (h2 c).symm
  have e : ofR l = R := by
    unfold ofR
    rw [if_pos (List.all_eq_true.2 hon), sortY_cells h1 hp, build_cells h1]
  rw [e]
  exact ⟨h1, h2, hp.length_eq.symm⟩
def xc (c : Cell) : Cell := ⟨c.y, c.x⟩
def turnR (R : List Row) : List Row := ofR ((regCells R).map xc)
/-- Whether a run lies between two cells that are held. -/
def anch (H : List Row) (y : Int) (q : Run) : Bool := decide ((⟨q.a - 1, y⟩ : Cell) ∈ regCells H) && decide ((⟨q.b, y⟩ : Cell) ∈ regCells H)
def spanRun (H : List Row) (y : Int) (q : Run) : List (List Cell) := if anch H y q then [runCells y q] else []
def spanRow (H : List Row) (w : Row) : List (List Cell) := w.runs.flatMap (spanRun H w.y)
def spanR (D H : List Row) : List (List Cell) := D.flatMap (spanRow H)
def spansL (r b : List Row) : List (List Cell) := spanR (opR fD r b) (opR fI r b)
def spansU (r b : List Row) (up : Bool) : List (List Cell) := if up then (spansL (turnR r) (turnR b)).map (·.map xc) else spansL r b
def coverR (L : List (List Cell)) : List Row := ofR L.flatten

end Go.Proofs.Ytoofimknammifaa

set_option linter.unusedVariables false
set_option linter.unusedSimpArgs false
set_option maxRecDepth 100000
namespace Go.Proofs.Ytoofimknammifaa
open Go.Abs

/-! Laying material. -/
theorem den_dr (l : List (List D)) : List.map (fun r => List.map den r) (dr l) = dr l := by
  induction l with
  | nil => rfl
  | cons r l ih =>
    rw [dr_cons, List.map_cons, ih, List.map_map]
    congr 1
theorem weak_den {s : St} (id : Nat) {o : Ob} (ho : s.obj id = some o) (hom : Nat.beq o.m mapM = false) : Weak s { s with hp := (id, some ⟨o.elem, o.m, o.rows.map (fun r => r.map den)⟩) :: s.hp } := by
  refine (fun g a w hr => ⟨g, ⟨hr.defers, hr.size, hr.tmp, hr.used, ⟨fun x o' hx => ?_, fun x hx => ?_, hr.heap.live, hr.heap.inj, hr.heap.ro⟩⟩, Step.refl g w⟩)
  · simp only [St.obj, find] at hx
    split at hx
    · rename_i e
      subst e
      cases hx
      obtain ⟨L, hL, hok⟩ := hr.heap.own id o ho
      refine ⟨L, hL, hok.m, hok.pos, by simpa using hok.len, fun hv => by simp [hok.virt hv], fun hv => ?_, fun hv => by have := (hok.ents hv).1; rw [← hok.m, this] at hom; cases hom⟩
      obtain ⟨cur, c1, c2, c3, c5⟩ := hok.cells hv
      refine ⟨cur, c1, c2, c3, fun i row hi => ?_⟩
      simp only [List.getElem?_map, Option.map_eq_some_iff] at hi
      obtain ⟨r0, hr0, rfl⟩ := hi
      obtain ⟨d1, d2⟩ := c5 i r0 hr0
      refine ⟨by simpa using d1, fun j av hj => ?_⟩
      simp only [List.getElem?_map, Option.map_eq_some_iff] at hj
      obtain ⟨a0, ha0, rfl⟩ := hj
      obtain ⟨v, q1, q2, q3⟩ := d2 j a0 ha0
      exact ⟨v, q1, q2, den_rep q3⟩
    · exact hr.heap.own x o' hx
  · simp only [St.obj, find] at hx
    split at hx
    · cases hx
    · exact hr.heap.gone x hx
/-- The cells of a bench at work: its layers lie in memory of its own, and the cell and the layer below the nozzle come last. -/
abbrev Bench.wav (b : Bench) (c : Cell) (l : Int) (x : AV) : List AV := [.d (.int .i64 b.real.p), .d (.int .i64 b.real.q), .d (.int .i64 b.real.r), .d (.int .i64 b.real.s), .d (.int .i64 b.t0), .d (.int .i64 b.t1), .d (.int .i64 b.pw0), .d (.int .i64 b.ls0), .d (.int .i64 b.ms0), .d (.int .i64 b.am0), .d (.int .i64 b.pw1), .d (.int .i64 b.ls1), .d (.int .i64 b.ms1), .d (.int .i64 b.am1), .d (.int .i64 b.filament), .d (.int .i64 b.drawn), .d (.int .i64 b.dry), x, .d (.int .i64 b.hits), .d (.bool b.door), .d (.bool b.k0), .d (.bool b.k1), .d (.int .i64 c.x), .d (.int .i64 c.y), .d (.int .i64 l)]
theorem grid_ok (c : Cell) : PC Try.prog 72 [.agg c.row] (.p (.bool (onG c))) := by
  refine pc_of_awp cx (fn := Try.f72) (c := _) Try.func72 rfl rfl (Nat.le_of_ble_eq_true rfl) ?_
  rw [Try.ntmps72]; refine Nav.imp ?_
  refine awp_region cx [] fun K hK => ?_
  simp [push_cast]
  repeat (refine And.intro (by clear hK; intros; first | omega | (simp_all; done) | (simp_all <;> omega)) ?_)
  refine hK _ ?_; clear hK K; refine Nav.imp ?_
  refine awp_region cx [] fun K hK => ?_
  simp [push_cast]
  repeat (refine And.intro (by clear hK; intros; first | omega | (simp_all; done) | (simp_all <;> omega)) ?_)
  refine hK _ ?_; clear hK K; refine Nav.imp ?_
  simp [push_cast, onG]
def layL (L : List (List Row)) (n : Nat) (c : Cell) : List (List Row) := (L ++ List.replicate (n + 1 - L.length) []).set n (opR fU ((L ++ List.replicate (n + 1 - L.length) []).getD n []) (ofR [c]))
def layOk (l : Int) (c : Cell) : Bool := decide (0 ≤ l) && decide (l < 256) && onG c
def layF (L : List (List Row)) (l : Int) (c : Cell) : List (List Row) := if layOk l c then layL L l.toNat c else L
theorem layL_len {L : List (List Row)} {n : Nat} {c : Cell} : (layL L n c).length = if L.length ≤ n then n + 1 else L.length := by
  unfold layL
  simp only [List.length_set, List.length_append, List.length_replicate]
  split <;> omega
set_option maxHeartbeats 4000000 in
theorem lay_px (b : Bench) (c : Cell) (l : Int) (L : List (List Row)) (hL : ∀ R ∈ L, validR R = true) (hl : L.length ≤ 256) :
    PX Try.prog 55 [.ptr 0 0 0] [(0, ⟨75, 25, [b.wav c l (.hs 1 0 L.length)]⟩), (1, ⟨56, 1, dr (L.map regRow)⟩)] [(0, 0)] [(0, ⟨75, 25, [b.wav c l (.hs 1 0 (layF L l c).length)]⟩), (1, ⟨56, 1, dr ((layF L l c).map regRow)⟩)] (.tup []) := by
  have c1 := grid_ok c
  have hok : layOk l c = (!(decide (l < 0) || decide (256 ≤ l) || !onG c)) := by
    unfold layOk
    have h1 : decide (0 ≤ l) = !decide (l < 0) := by rw [Bool.eq_iff_iff]; simp
    have h2 : decide (l < 256) = !decide (256 ≤ l) := by rw [Bool.eq_iff_iff]; simp
    rw [h1, h2]; simp
  have hF : layF L l c = if layOk l c then layL L l.toNat c else L := rfl
  generalize hg : onG c = og at *
  generalize layF L l c = F at *
  refine px_of_awp cx (fn := Try.f55) (c := _) 2 Try.func55 rfl rfl (Nat.le_of_ble_eq_true rfl) rfl rfl fun Ls => ?_
  rw [Try.ntmps55]; refine Nav.imp ?_
  refine awp_region cx [(17, .p (.bool og))] fun K hK => ?_
  simp [push_cast, c1, Cell.row]
  repeat (refine And.intro (by clear hK; intros; first | omega | (simp_all; done) | (simp_all <;> omega)) ?_)
  refine hK _ ?_; clear hK K; refine Nav.imp ?_
  refine awp_cond (b := !layOk l c) (by simp [push_cast, hok]) (fun hb => ?_) (fun hb => ?_) <;> (refine Nav.imp ?_)
  · have hf : layOk l c = false := by simpa using hb
    rw [hf, if_neg (by simp)] at hF
    subst hF
    first | refine rx_r [(0, 0), (1, 1)] ?_ | refine rx_n [(0, 0), (1, 1)] ?_
    simp [push_cast]
    try decide
  · have hf : layOk l c = true := by simpa using hb
    rw [hf, if_pos rfl] at hF
    have hf2 := hf
    rw [hok] at hf2
    have hl0 : 0 ≤ l ∧ l < 256 ∧ og = true := by
      simp at hf2; exact ⟨by omega, by omega, hf2.2⟩
    clear hok
    obtain ⟨n, rfl⟩ : ∃ n : Nat, l = n := ⟨l.toNat, by omega⟩
    rw [show ((n : Int)).toNat = n by omega] at hF
    refine awp_loop (β := List (List Row) × Nat) (fun s => ⟨79, [(0, .ptr 0 0 0), (79, .pin 0 (Ls 0))], [(0, some ⟨75, 25, [b.wav c n (.hs 1 0 s.1.length)]⟩), (1, some ⟨56, 1, dr (s.1.map regRow)⟩)], 2⟩) (fun s => s.1 = L ++ List.replicate s.2 [] ∧ (s.2 = 0 ∨ s.1.length ≤ n + 1)) (fun s => n + 1 - s.1.length) (L, 0) ?_ ⟨by simp, .inl rfl⟩ ?_
    · refine weak_of [(0, some 0), (1, some 1)] rfl (by simp [upT, up, upL, push_cast]) (by simp [upH, upR, upL, up, push_cast]) (by simp [namesOk, push_cast]) (by simp [olds])
    · rintro ⟨M, k⟩ ⟨hM, hk⟩
      simp only at hM hk
      have hMl : M.length ≤ 257 := by
        rcases hk with h | h
        · subst h; rw [hM]; simp; omega
        · omega
      refine Nav.imp ?_
      refine awp_region_draw cx mixed [] fun K hK => ?_
      simp [push_cast]
      repeat (refine And.intro (by clear hK; intros; first | omega | (simp_all; done) | (simp_all <;> omega)) ?_)
      refine hK _ _ (by kernel_rfl) ?_; clear hK K; refine Nav.imp ?_
      refine awp_cond (b := decide (M.length ≤ n)) (by simp [push_cast]) (fun hb => ?_) (fun hb => ?_) <;> (refine Nav.imp ?_)
      · have hlt : M.length ≤ n := by simpa using hb
        have h24 : (M.length + 1) * 24 ≤ 140737488355328 := by omega
        refine awp_region cx [] fun K hK => ?_
        simp [push_cast, h24]
        repeat (refine And.intro (by clear hK; intros; first | omega | (simp_all; done) | (simp_all <;> omega)) ?_)
        refine hK _ ?_; clear hK K; refine Nav.imp ?_
        refine ⟨(M ++ [[]], k + 1), ⟨by simp only; rw [hM, List.append_assoc, ← List.replicate_succ'], .inr (by simp; omega)⟩, by simp; omega, ?_⟩
        refine Weak.trans (weak_den 21 rfl rfl) ?_
        simp [push_cast, den, den_dr]
        refine weak_of [(0, some 0), (1, some 21)] rfl (by simp [upT, up, upL, push_cast]) (by simp [upH, upR, upL, up, push_cast]) (by simp [namesOk, push_cast]) (by simp [olds])
      · have hge : ¬ M.length ≤ n := by simpa using hb
        have c2 := of_ok [c] (by simp)
        have hD : ofD [c] = .tup [.agg (regRow (ofR [c])), .int .i64 0] := by simp [ofE, hg, hl0.2.2]
        rw [hD] at c2
        obtain ⟨Q, hQ⟩ := getq (show n < M.length by omega)
        have hQv : validR Q = true := by
          rw [hM] at hQ
          rw [List.getElem?_append] at hQ
          split at hQ
          · exact hL Q (List.mem_of_getElem? hQ)
          · have := List.mem_of_getElem? hQ
            rw [List.mem_replicate] at this
            rw [this.2]; rfl
        have hOv : validR (ofR [c]) = true := (of_set (l := [c]) (by simp) (by simp [hg, hl0.2.2])).1
        have c3 := unionR_ok Q (ofR [c]) (small_valid hQv) (small_valid hOv)
        have hFM : F = M.set n (opR fU Q (ofR [c])) := by
          rw [hF]; unfold layL
          have hp : L ++ List.replicate (n + 1 - L.length) [] = M := by
            rw [hM]
            congr 2
            rcases hk with h | h
            · subst h
              rw [hM] at hge
              simp at hge
              omega
            · rw [hM] at h hge
              simp at h hge
              omega
          rw [hp]
          congr 2
          rw [List.getD_eq_getElem?_getD, hQ]; rfl
        have hFl : F.length = M.length := by rw [hFM]; simp
        generalize ofR [c] = O at *
        generalize opR fU Q O = U at *
        refine awp_region cx [(4, .f (encCells [c])), (5, .p (.tup [.agg (regRow O), .int .i64 0]))] fun K hK => ?_
        simp [push_cast, c2, Cell.row]
        repeat (refine And.intro (by clear hK; intros; first | omega | (simp_all; done) | (simp_all <;> omega)) ?_)
        refine hK _ ?_; clear hK K; refine Nav.imp ?_
        refine awp_region_draw cx mixed [(21, .p (.agg (regRow U)))] fun K hK => ?_
        simp [push_cast, hQ, c3]
        repeat (refine And.intro (by clear hK; intros; first | omega | (simp_all; done) | (simp_all <;> omega)) ?_)
        refine hK _ _ (by kernel_rfl) ?_; clear hK K; refine Nav.imp ?_
        have hFr : dr (F.map regRow) = (dr (M.map regRow)).set n [AV.d (encRows U)] := by
          rw [hFM, List.map_set, dr_set]; rfl
        rw [← hFr]
        clear hFr
        first | refine rx_r [(0, 0), (1, 1)] ?_ | refine rx_n [(0, 0), (1, 1)] ?_
        simp [push_cast, hFl]
        try decide
end Go.Proofs.Ytoofimknammifaa

set_option linter.unusedVariables false
set_option linter.unusedSimpArgs false
set_option maxRecDepth 100000
namespace Go.Proofs.Ytoofimknammifaa
open Go.Abs

/-! The extruder, and collisions. -/
def extB (b : Bench) (c : Cell) (l : Int) (by_ : Int) : Bench :=
  if by_ < 0 then { b with drawn := b.drawn + 1 } else if by_ = 0 then b else if 0 < b.drawn then { b with drawn := b.drawn - 1 } else if 0 < b.filament then { b with filament := b.filament - 1, lays := layF b.lays l c } else { b with dry := b.dry + 1 }
def cntB (n : Int) : Bool := decide (0 ≤ n) && decide (n ≤ 1099511627776)
set_option maxHeartbeats 4000000 in
theorem extrude_px (b : Bench) (c : Cell) (l : Int) (by_ : Int) (hL : ∀ R ∈ b.lays, validR R = true) (hl : b.lays.length ≤ 256) (h1 : cntB b.filament = true) (h2 : cntB b.drawn = true) (h3 : cntB b.dry = true) :
    PX Try.prog 30 [.ptr 0 0 0, .d (.int .i64 by_)] [(0, ⟨75, 25, [b.wav c l (.hs 1 0 b.lays.length)]⟩), (1, ⟨56, 1, dr (b.lays.map regRow)⟩)] [(0, 0)] [(0, ⟨75, 25, [(extB b c l by_).wav c l (.hs 1 0 (extB b c l by_).lays.length)]⟩), (1, ⟨56, 1, dr ((extB b c l by_).lays.map regRow)⟩)] (.tup []) := by
  simp [cntB] at h1 h2 h3
  have hE : extB b c l by_ = if by_ < 0 then { b with drawn := b.drawn + 1 } else if by_ = 0 then b else if 0 < b.drawn then { b with drawn := b.drawn - 1 } else if 0 < b.filament then { b with filament := b.filament - 1, lays := layF b.lays l c } else { b with dry := b.dry + 1 } := rfl
  generalize extB b c l by_ = B at *
  have w1 := wrap_i64 (n := b.drawn + 1) (by omega) (by omega)
  have w2 := wrap_i64 (n := b.drawn - 1) (by omega) (by omega)
  have w3 := wrap_i64 (n := b.filament - 1) (by omega) (by omega)
  have w4 := wrap_i64 (n := b.dry + 1) (by omega) (by omega)
  by_cases q1 : by_ < 0
  · rw [if_pos q1] at hE
    subst hE
    refine px_of_awp cx (fn := Try.f30) (c := _) 2 Try.func30 rfl rfl (Nat.le_of_ble_eq_true rfl) rfl rfl fun Ls => ?_
    rw [Try.ntmps30]; refine Nav.imp ?_
    refine awp_region cx [] fun K hK => ?_
    simp [push_cast]
    repeat (refine And.intro (by clear hK; intros; first | omega | (simp_all; done) | (simp_all <;> omega)) ?_)
    refine hK _ ?_; clear hK K; refine Nav.imp ?_
    refine awp_cond (b := true) (by simp [push_cast, q1]) (fun hb => ?_) (fun hb => ?_) <;> (refine Nav.imp ?_)
    · refine awp_region cx [] fun K hK => ?_
      simp [push_cast, w1]
      repeat (refine And.intro (by clear hK; intros; first | omega | (simp_all; done) | (simp_all <;> omega)) ?_)
      refine hK _ ?_; clear hK K; refine Nav.imp ?_
      first | refine rx_r [(0, 0), (1, 1)] ?_ | refine rx_n [(0, 0), (1, 1)] ?_
      simp [push_cast]
      try decide
    · simp at hb
  rw [if_neg q1] at hE
  by_cases q2 : by_ = 0
  · rw [if_pos q2] at hE
    subst hE
    subst q2
    refine px_of_awp cx (fn := Try.f30) (c := _) 2 Try.func30 rfl rfl (Nat.le_of_ble_eq_true rfl) rfl rfl fun Ls => ?_
    rw [Try.ntmps30]; refine Nav.imp ?_
    refine awp_region cx [] fun K hK => ?_
    simp [push_cast]
    repeat (refine And.intro (by clear hK; intros; first | omega | (simp_all; done) | (simp_all <;> omega)) ?_)
    refine hK _ ?_; clear hK K; refine Nav.imp ?_
    refine awp_cond (b := false) (by simp [push_cast]) (fun hb => ?_) (fun hb => ?_) <;> (refine Nav.imp ?_)
    · simp at hb
    · refine awp_region cx [] fun K hK => ?_
      simp [push_cast]
      repeat (refine And.intro (by clear hK; intros; first | omega | (simp_all; done) | (simp_all <;> omega)) ?_)
      refine hK _ ?_; clear hK K; refine Nav.imp ?_
      refine awp_cond (b := true) (by simp [push_cast]) (fun hb => ?_) (fun hb => ?_) <;> (refine Nav.imp ?_)
      · first | refine rx_r [(0, 0), (1, 1)] ?_ | refine rx_n [(0, 0), (1, 1)] ?_
        simp [push_cast]
        try decide
      · simp at hb
  rw [if_neg q2] at hE
  have q2' : (by_ == 0) = false := by simp; exact q2
  by_cases q3 : 0 < b.drawn
  · rw [if_pos q3] at hE
    subst hE
    refine px_of_awp cx (fn := Try.f30) (c := _) 2 Try.func30 rfl rfl (Nat.le_of_ble_eq_true rfl) rfl rfl fun Ls => ?_
    rw [Try.ntmps30]; refine Nav.imp ?_
    refine awp_region cx [] fun K hK => ?_
    simp [push_cast]
    repeat (refine And.intro (by clear hK; intros; first | omega | (simp_all; done) | (simp_all <;> omega)) ?_)
    refine hK _ ?_; clear hK K; refine Nav.imp ?_
    refine awp_cond (b := false) (by simp [push_cast, q1]) (fun hb => ?_) (fun hb => ?_) <;> (refine Nav.imp ?_)
    · simp at hb
    · refine awp_region cx [] fun K hK => ?_
      simp [push_cast]
      repeat (refine And.intro (by clear hK; intros; first | omega | (simp_all; done) | (simp_all <;> omega)) ?_)
      refine hK _ ?_; clear hK K; refine Nav.imp ?_
      refine awp_cond (b := false) (by simp [push_cast, q2']) (fun hb => ?_) (fun hb => ?_) <;> (refine Nav.imp ?_)
      · simp at hb
      · refine awp_region cx [] fun K hK => ?_
        simp [push_cast]
        repeat (refine And.intro (by clear hK; intros; first | omega | (simp_all; done) | (simp_all <;> omega)) ?_)
        refine hK _ ?_; clear hK K; refine Nav.imp ?_
        refine awp_cond (b := true) (by simp [push_cast, q3]) (fun hb => ?_) (fun hb => ?_) <;> (refine Nav.imp ?_)
        · refine awp_region cx [] fun K hK => ?_
          simp [push_cast, w2]
          repeat (refine And.intro (by clear hK; intros; first | omega | (simp_all; done) | (simp_all <;> omega)) ?_)
          refine hK _ ?_; clear hK K; refine Nav.imp ?_
          first | refine rx_r [(0, 0), (1, 1)] ?_ | refine rx_n [(0, 0), (1, 1)] ?_
          simp [push_cast]
          try decide
        · simp at hb
  rw [if_neg q3] at hE
  by_cases q4 : 0 < b.filament
  · rw [if_pos q4] at hE
    have c1 := lay_px { b with filament := b.filament - 1 } c l b.lays hL hl
    subst hE
    generalize layF b.lays l c = F at *
    refine px_of_awp cx (fn := Try.f30) (c := _) 2 Try.func30 rfl rfl (Nat.le_of_ble_eq_true rfl) rfl rfl fun Ls => ?_
    rw [Try.ntmps30]; refine Nav.imp ?_
    refine awp_region cx [] fun K hK => ?_
    simp [push_cast]
    repeat (refine And.intro (by clear hK; intros; first | omega | (simp_all; done) | (simp_all <;> omega)) ?_)
    refine hK _ ?_; clear hK K; refine Nav.imp ?_
    refine awp_cond (b := false) (by simp [push_cast, q1]) (fun hb => ?_) (fun hb => ?_) <;> (refine Nav.imp ?_)
    · simp at hb
    · refine awp_region cx [] fun K hK => ?_
      simp [push_cast]
      repeat (refine And.intro (by clear hK; intros; first | omega | (simp_all; done) | (simp_all <;> omega)) ?_)
      refine hK _ ?_; clear hK K; refine Nav.imp ?_
      refine awp_cond (b := false) (by simp [push_cast, q2']) (fun hb => ?_) (fun hb => ?_) <;> (refine Nav.imp ?_)
      · simp at hb
      · refine awp_region cx [] fun K hK => ?_
        simp [push_cast]
        repeat (refine And.intro (by clear hK; intros; first | omega | (simp_all; done) | (simp_all <;> omega)) ?_)
        refine hK _ ?_; clear hK K; refine Nav.imp ?_
        refine awp_cond (b := false) (by simp [push_cast, q3]) (fun hb => ?_) (fun hb => ?_) <;> (refine Nav.imp ?_)
        · simp at hb
        · refine awp_region cx [] fun K hK => ?_
          simp [push_cast]
          repeat (refine And.intro (by clear hK; intros; first | omega | (simp_all; done) | (simp_all <;> omega)) ?_)
          refine hK _ ?_; clear hK K; refine Nav.imp ?_
          refine awp_cond (b := true) (by simp [push_cast, q4]) (fun hb => ?_) (fun hb => ?_) <;> (refine Nav.imp ?_)
          · refine awp_region cx [] fun K hK => ?_
            simp [push_cast, w3]
            repeat (refine And.intro (by clear hK; intros; first | omega | (simp_all; done) | (simp_all <;> omega)) ?_)
            refine hK _ ?_; clear hK K; refine Nav.imp ?_
            refine awp_region cx [(1, .x ⟨[(0, 0), (1, 1)], [.ptr 0 0 0], [(0, ⟨75, 25, [Bench.wav { b with filament := b.filament - 1 } c l (.hs 1 0 b.lays.length)]⟩), (1, ⟨56, 1, dr (b.lays.map regRow)⟩)], [(0, 0)], some 1, [(0, ⟨75, 25, [Bench.wav { b with filament := b.filament - 1 } c l (.hs 1 0 F.length)]⟩), (1, ⟨56, 1, dr (F.map regRow)⟩)], .tup []⟩)] fun K hK => ?_
            simp [push_cast, c1]
            repeat (refine And.intro (by clear hK; intros; first | omega | (simp_all; done) | (simp_all <;> omega)) ?_)
            refine hK _ ?_; clear hK K; refine Nav.imp ?_
            first | refine rx_r [(0, 0), (1, 33)] ?_ | refine rx_n [(0, 0), (1, 33)] ?_
            simp [push_cast]
            try decide
          · simp at hb
  rw [if_neg q4] at hE
  subst hE
  refine px_of_awp cx (fn := Try.f30) (c := _) 2 Try.func30 rfl rfl (Nat.le_of_ble_eq_true rfl) rfl rfl fun Ls => ?_
  rw [Try.ntmps30]; refine Nav.imp ?_
  refine awp_region cx [] fun K hK => ?_
  simp [push_cast]
  repeat (refine And.intro (by clear hK; intros; first | omega | (simp_all; done) | (simp_all <;> omega)) ?_)
  refine hK _ ?_; clear hK K; refine Nav.imp ?_
  refine awp_cond (b := false) (by simp [push_cast, q1]) (fun hb => ?_) (fun hb => ?_) <;> (refine Nav.imp ?_)
  · simp at hb
  · refine awp_region cx [] fun K hK => ?_
    simp [push_cast]
    repeat (refine And.intro (by clear hK; intros; first | omega | (simp_all; done) | (simp_all <;> omega)) ?_)
    refine hK _ ?_; clear hK K; refine Nav.imp ?_
    refine awp_cond (b := false) (by simp [push_cast, q2']) (fun hb => ?_) (fun hb => ?_) <;> (refine Nav.imp ?_)
    · simp at hb
    · refine awp_region cx [] fun K hK => ?_
      simp [push_cast]
      repeat (refine And.intro (by clear hK; intros; first | omega | (simp_all; done) | (simp_all <;> omega)) ?_)
      refine hK _ ?_; clear hK K; refine Nav.imp ?_
      refine awp_cond (b := false) (by simp [push_cast, q3]) (fun hb => ?_) (fun hb => ?_) <;> (refine Nav.imp ?_)
      · simp at hb
      · refine awp_region cx [] fun K hK => ?_
        simp [push_cast]
        repeat (refine And.intro (by clear hK; intros; first | omega | (simp_all; done) | (simp_all <;> omega)) ?_)
        refine hK _ ?_; clear hK K; refine Nav.imp ?_
        refine awp_cond (b := false) (by simp [push_cast, q4]) (fun hb => ?_) (fun hb => ?_) <;> (refine Nav.imp ?_)
        · simp at hb
        · refine awp_region cx [] fun K hK => ?_
          simp [push_cast, w4]
          repeat (refine And.intro (by clear hK; intros; first | omega | (simp_all; done) | (simp_all <;> omega)) ?_)
          refine hK _ ?_; clear hK K; refine Nav.imp ?_
          first | refine rx_r [(0, 0), (1, 1)] ?_ | refine rx_n [(0, 0), (1, 1)] ?_
          simp [push_cast]
          try decide

def aboveB (L : List (List Row)) (s : Nat) (c : Cell) : Bool := (L.drop s).any fun R => conB R c
def hitF (b : Bench) (c : Cell) (l by_ : Int) : Bench := if by_ = 0 then b else if aboveB b.lays (l + 1).toNat c then { b with hits := b.hits + 1 } else b
set_option maxHeartbeats 4000000 in
theorem hit_px (b : Bench) (c : Cell) (l : Int) (by_ : Int) (hl0 : -1 ≤ l ∧ l ≤ 4611686018427387905) (hL : ∀ R ∈ b.lays, smallR R) (hl : b.lays.length ≤ 256) (h1 : cntB b.hits = true) :
    PX Try.prog 31 [.ptr 0 0 0, .d (.int .i64 by_)] [(0, ⟨75, 25, [b.wav c l (.hs 1 0 b.lays.length)]⟩), (1, ⟨56, 1, dr (b.lays.map regRow)⟩)] [(0, 0)] [(0, ⟨75, 25, [(hitF b c l by_).wav c l (.hs 1 0 (hitF b c l by_).lays.length)]⟩), (1, ⟨56, 1, dr ((hitF b c l by_).lays.map regRow)⟩)] (.tup []) := by
  simp [cntB] at h1
  have hE : hitF b c l by_ = if by_ = 0 then b else if aboveB b.lays (l + 1).toNat c then { b with hits := b.hits + 1 } else b := rfl
  generalize hitF b c l by_ = B at *
  have w1 := wrap_i64 (n := b.hits + 1) (by omega) (by omega)
  have w2 := wrap_i64 (n := l + 1) (by omega) (by omega)
  by_cases q : by_ = 0
  · rw [if_pos q] at hE
    subst hE
    subst q
    refine px_of_awp cx (fn := Try.f31) (c := _) 2 Try.func31 rfl rfl (Nat.le_of_ble_eq_true rfl) rfl rfl fun Ls => ?_
    rw [Try.ntmps31]; refine Nav.imp ?_
    refine awp_region cx [] fun K hK => ?_
    simp [push_cast]
    repeat (refine And.intro (by clear hK; intros; first | omega | (simp_all; done) | (simp_all <;> omega)) ?_)
    refine hK _ ?_; clear hK K; refine Nav.imp ?_
    refine awp_cond (b := true) (by simp [push_cast]) (fun hb => ?_) (fun hb => ?_) <;> (refine Nav.imp ?_)
    · first | refine rx_r [(0, 0), (1, 1)] ?_ | refine rx_n [(0, 0), (1, 1)] ?_
      simp [push_cast]
      try decide
    · simp at hb
  have q' : (by_ == 0) = false := by simp; exact q
  rw [if_neg q] at hE
  obtain ⟨s, hs⟩ : ∃ s : Nat, l + 1 = s := ⟨(l + 1).toNat, by omega⟩
  have hmx : (if (0 : Int) < (s : Int) then (s : Int) else 0) = s := by split <;> omega
  rw [hs] at hE w2
  rw [show ((s : Int)).toNat = s by omega] at hE
  refine px_of_awp cx (fn := Try.f31) (c := _) 2 Try.func31 rfl rfl (Nat.le_of_ble_eq_true rfl) rfl rfl fun Ls => ?_
  rw [Try.ntmps31]; refine Nav.imp ?_
  refine awp_region cx [] fun K hK => ?_
  simp [push_cast]
  repeat (refine And.intro (by clear hK; intros; first | omega | (simp_all; done) | (simp_all <;> omega)) ?_)
  refine hK _ ?_; clear hK K; refine Nav.imp ?_
  refine awp_cond (b := false) (by simp [push_cast, q']) (fun hb => ?_) (fun hb => ?_) <;> (refine Nav.imp ?_)
  · simp at hb
  · refine awp_region cx [] fun K hK => ?_
    simp [push_cast, w2, hs]
    repeat (refine And.intro (by clear hK; intros; first | omega | (simp_all; done) | (simp_all <;> omega)) ?_)
    refine hK _ ?_; clear hK K; refine Nav.imp ?_
    refine awp_loop (β := Nat) (fun i => ⟨45, [(0, .ptr 0 0 0), (4, .d (.int .i64 i)), (45, .pin 0 (Ls 0))], [(0, some ⟨75, 25, [b.wav c l (.hs 1 0 b.lays.length)]⟩), (1, some ⟨56, 1, dr (b.lays.map regRow)⟩)], 2⟩) (fun i => aboveB b.lays s c = aboveB b.lays i c ∧ (i = s ∨ i ≤ 256)) (fun i => b.lays.length - i) s ?_ ⟨rfl, .inl rfl⟩ ?_
    · refine weak_of [(0, some 0), (1, some 1)] rfl (by simp [upT, up, upL, push_cast]) (by simp [upH, upR, upL, up, push_cast]) (by simp [namesOk, push_cast]) (by simp [olds])
    · rintro i ⟨hi, hi2⟩
      refine Nav.imp ?_
      refine awp_region cx [] fun K hK => ?_
      simp [push_cast]
      repeat (refine And.intro (by clear hK; intros; first | omega | (simp_all; done) | (simp_all <;> omega)) ?_)
      refine hK _ ?_; clear hK K; refine Nav.imp ?_
      refine awp_cond (b := decide (i < b.lays.length)) (by simp [push_cast]) (fun hb => ?_) (fun hb => ?_) <;> (refine Nav.imp ?_)
      · have hlt : i < b.lays.length := by simpa using hb
        obtain ⟨R, hR⟩ := getq hlt
        have c1 := contains_ok R c (hL R (List.mem_of_getElem? hR))
        have e0 := wrap_i64 (n := (i : Int) + 1) (by omega) (by omega)
        have hst : aboveB b.lays i c = (conB R c || aboveB b.lays (i + 1) c) := by
          unfold aboveB
          rw [drop_get hR]; rfl
        cases hc : conB R c with
        | true =>
          rw [hc] at c1 hst
          rw [hi, hst, if_pos (by simp)] at hE
          subst hE
          refine awp_region_draw cx mixed [(12, .p (.bool true))] fun K hK => ?_
          simp [push_cast, hR, c1, Cell.row]
          repeat (refine And.intro (by clear hK; intros; first | omega | (simp_all; done) | (simp_all <;> omega)) ?_)
          refine hK _ _ (by kernel_rfl) ?_; clear hK K; refine Nav.imp ?_
          refine awp_cond (b := true) (by simp [push_cast]) (fun hb => ?_) (fun hb => ?_) <;> (refine Nav.imp ?_)
          · refine awp_region cx [] fun K hK => ?_
            simp [push_cast, w1]
            repeat (refine And.intro (by clear hK; intros; first | omega | (simp_all; done) | (simp_all <;> omega)) ?_)
            refine hK _ ?_; clear hK K; refine Nav.imp ?_
            first | refine rx_r [(0, 0), (1, 1)] ?_ | refine rx_n [(0, 0), (1, 1)] ?_
            simp [push_cast]
            try decide
          · simp at hb
        | false =>
          rw [hc] at c1 hst
          rw [Bool.false_or] at hst
          refine awp_region_draw cx mixed [(12, .p (.bool false))] fun K hK => ?_
          simp [push_cast, hR, c1, Cell.row]
          repeat (refine And.intro (by clear hK; intros; first | omega | (simp_all; done) | (simp_all <;> omega)) ?_)
          refine hK _ _ (by kernel_rfl) ?_; clear hK K; refine Nav.imp ?_
          refine awp_cond (b := false) (by simp [push_cast]) (fun hb => ?_) (fun hb => ?_) <;> (refine Nav.imp ?_)
          · simp at hb
          · refine awp_region cx [] fun K hK => ?_
            simp [push_cast, e0]
            repeat (refine And.intro (by clear hK; intros; first | omega | (simp_all; done) | (simp_all <;> omega)) ?_)
            refine hK _ ?_; clear hK K; refine Nav.imp ?_
            refine ⟨i + 1, ⟨hi.trans hst, .inr (by omega)⟩, by omega, ?_⟩
            refine weak_of [(0, some 0), (1, some 1)] rfl (by simp [upT, up, upL, push_cast]) (by simp [upH, upR, upL, up, push_cast]) (by simp [namesOk, push_cast]) (by simp [olds])
      · have hge : ¬ i < b.lays.length := by simpa using hb
        have h0 : aboveB b.lays i c = false := by
          unfold aboveB
          rw [List.drop_eq_nil_of_le (by omega)]; rfl
        rw [hi, h0, if_neg (by simp)] at hE
        subst hE
        first | refine rx_r [(0, 0), (1, 1)] ?_ | refine rx_n [(0, 0), (1, 1)] ?_
        simp [push_cast]
        try decide
end Go.Proofs.Ytoofimknammifaa

set_option linter.unusedVariables false
set_option linter.unusedSimpArgs false
set_option maxRecDepth 100000
namespace Go.Proofs.Ytoofimknammifaa
open Go.Abs

/-! Which benches are valid. -/
def Bench.cnts (b : Bench) : Pos := ⟨b.filament, b.drawn, b.dry, b.hits⟩
def realB (x : Pos) : Bool := withB x.p 1099511627776 && withB x.q 1099511627776 && withB x.r 1099511627776 && withB x.s 1099511627776
def cntsB (x : Pos) : Bool := cntB x.p && cntB x.q && cntB x.r && cntB x.s
theorem four_iff {f : Int → Bool} {x : Pos} : (f x.p && f x.q && f x.r && f x.s) = true ↔ ∀ j < 4, f (x.at j) = true := by
  constructor
  · intro h j hj
    simp only [Bool.and_eq_true] at h
    rcases (show j = 0 ∨ j = 1 ∨ j = 2 ∨ j = 3 by omega) with rfl | rfl | rfl | rfl <;> simp [Pos.at, h]
  · intro h
    have h0 := h 0 (by omega)
    have h1 := h 1 (by omega)
    have h3 := h 2 (by omega)
    have h4 := h 3 (by omega)
    simp only [Pos.at] at h0 h1 h3 h4
    simp [h0, h1, h3, h4]
def soundB (b : Bench) : Bool := realB b.real && cntsB b.cnts && decide (b.lays.length ≤ 256)
def validE (b : Bench) : Bool := b.lays.all validR && soundB b
theorem sound_facts (b : Bench) : (soundB b = true → ∀ j < 4, withB (b.real.at j) 1099511627776 = true) ∧ (soundB b = true → ∀ j < 4, cntB (b.cnts.at j) = true) ∧ ((∀ j < 4, withB (b.real.at j) 1099511627776 = true) → (∀ j < 4, cntB (b.cnts.at j) = true) → soundB b = decide (b.lays.length ≤ 256)) := by
  have h1 : realB b.real = true ↔ _ := four_iff (f := fun n => withB n 1099511627776)
  have h2 : cntsB b.cnts = true ↔ _ := four_iff (f := cntB)
  refine ⟨fun h => ?_, fun h => ?_, fun a c => ?_⟩
  · simp only [soundB, Bool.and_eq_true] at h; exact h1.1 h.1.1
  · simp only [soundB, Bool.and_eq_true] at h; exact h2.1 h.1.2
  · simp only [soundB, h1.2 a, h2.2 c, Bool.true_and]
set_option maxHeartbeats 4000000 in
theorem sound_ok (b : Bench) (hl : b.lays.length ≤ 1000) : PC Try.prog 32 [.agg b.row] (.p (.bool (soundB b))) := by
  obtain ⟨f1, f2, f3⟩ := sound_facts b
  generalize soundB b = sb at *
  have w3 : IntKind.i64.wrap 3 = 3 := by decide
  have w4 : IntKind.i64.wrap 4 = 4 := by decide
  refine pc_of_awp cx (fn := Try.f32) (c := _) Try.func32 rfl rfl (Nat.le_of_ble_eq_true rfl) ?_
  rw [Try.ntmps32]; refine Nav.imp ?_
  refine awp_region cx [] fun K hK => ?_
  simp [push_cast]
  repeat (refine And.intro (by clear hK; intros; first | omega | (simp_all; done) | (simp_all <;> omega)) ?_)
  refine hK _ ?_; clear hK K; refine Nav.imp ?_
  refine awp_region cx [] fun K hK => ?_
  simp [push_cast]
  repeat (refine And.intro (by clear hK; intros; first | omega | (simp_all; done) | (simp_all <;> omega)) ?_)
  refine hK _ ?_; clear hK K; refine Nav.imp ?_
  refine awp_loop (β := Nat) (fun i => ⟨42, [(1, .ptr 0 0 0), (8, .d (.agg b.real.row)), (9, .d (.int .i64 i))], [(0, some ⟨43, 22, [b.row.map .d]⟩)], 1⟩) (fun i => i ≤ 4 ∧ ∀ j < i, withB (b.real.at j) 1099511627776 = true) (fun i => 4 - i) 0 ?_ ⟨Nat.zero_le _, by simp⟩ ?_
  · refine weak_of [(0, some 0)] rfl (by simp [upT, up, upL, push_cast]) (by simp [upH, upR, upL, up, push_cast]) (by simp [namesOk, push_cast]) (by simp [olds])
  · rintro i ⟨hi, hall⟩
    rcases (show i = 0 ∨ i = 1 ∨ i = 2 ∨ i = 3 ∨ i = 4 by omega) with rfl | rfl | rfl | rfl | rfl
    · have hw2 : withB b.real.p 1099511627776 = !(decide (b.real.p < -1099511627776) || decide (1099511627776 < b.real.p)) := by rw [Bool.eq_iff_iff]; simp [withB]
      refine Nav.imp ?_
      refine awp_region cx [] fun K hK => ?_
      simp [push_cast]
      repeat (refine And.intro (by clear hK; intros; first | omega | (simp_all; done) | (simp_all <;> omega)) ?_)
      refine hK _ ?_; clear hK K; refine Nav.imp ?_
      refine awp_cond (b := true) (by simp [push_cast]) (fun hb => ?_) (fun hb => ?_) <;> (refine Nav.imp ?_)
      · refine awp_region cx [] fun K hK => ?_
        simp [push_cast]
        repeat (refine And.intro (by clear hK; intros; first | omega | (simp_all; done) | (simp_all <;> omega)) ?_)
        refine hK _ ?_; clear hK K; refine Nav.imp ?_
        refine awp_region cx [] fun K hK => ?_
        simp [push_cast]
        repeat (refine And.intro (by clear hK; intros; first | omega | (simp_all; done) | (simp_all <;> omega)) ?_)
        refine hK _ ?_; clear hK K; refine Nav.imp ?_
        refine awp_cond (b := decide (b.real.p < -1099511627776) || decide (1099511627776 < b.real.p)) (by simp [push_cast]) (fun hb => ?_) (fun hb => ?_) <;> (refine Nav.imp ?_)
        · rw [hb] at hw2
          have hf : sb = false := by
            cases sb
            · rfl
            · have := f1 rfl 0 (by omega)
              simp only [Pos.at] at this
              rw [this] at hw2; cases hw2
          rw [hf]
          refine awp_region cx [] fun K hK => ?_
          simp [push_cast]
          repeat (refine And.intro (by clear hK; intros; first | omega | (simp_all; done) | (simp_all <;> omega)) ?_)
          refine hK _ ?_; clear hK K; refine Nav.imp ?_
          simp [push_cast]
        · rw [hb] at hw2
          refine awp_region cx [] fun K hK => ?_
          simp [push_cast, w3, w4]
          repeat (refine And.intro (by clear hK; intros; first | omega | (simp_all; done) | (simp_all <;> omega)) ?_)
          refine hK _ ?_; clear hK K; refine Nav.imp ?_
          refine ⟨1, ⟨by omega, fun j hj => ?_⟩, by omega, ?_⟩
          · by_cases e : j < 0
            · exact hall j e
            · have : j = 0 := by omega
              subst this
              simpa [Pos.at] using hw2
          · refine weak_of [(0, some 0)] rfl (by simp [upT, up, upL, push_cast]) (by simp [upH, upR, upL, up, push_cast]) (by simp [namesOk, push_cast]) (by simp [olds])
      · simp at hb
    · have hw2 : withB b.real.q 1099511627776 = !(decide (b.real.q < -1099511627776) || decide (1099511627776 < b.real.q)) := by rw [Bool.eq_iff_iff]; simp [withB]
      refine Nav.imp ?_
      refine awp_region cx [] fun K hK => ?_
      simp [push_cast]
      repeat (refine And.intro (by clear hK; intros; first | omega | (simp_all; done) | (simp_all <;> omega)) ?_)
      refine hK _ ?_; clear hK K; refine Nav.imp ?_
      refine awp_cond (b := true) (by simp [push_cast]) (fun hb => ?_) (fun hb => ?_) <;> (refine Nav.imp ?_)
      · refine awp_region cx [] fun K hK => ?_
        simp [push_cast]
        repeat (refine And.intro (by clear hK; intros; first | omega | (simp_all; done) | (simp_all <;> omega)) ?_)
        refine hK _ ?_; clear hK K; refine Nav.imp ?_
        refine awp_region cx [] fun K hK => ?_
        simp [push_cast]
        repeat (refine And.intro (by clear hK; intros; first | omega | (simp_all; done) | (simp_all <;> omega)) ?_)
        refine hK _ ?_; clear hK K; refine Nav.imp ?_
        refine awp_cond (b := decide (b.real.q < -1099511627776) || decide (1099511627776 < b.real.q)) (by simp [push_cast]) (fun hb => ?_) (fun hb => ?_) <;> (refine Nav.imp ?_)
        · rw [hb] at hw2
          have hf : sb = false := by
            cases sb
            · rfl
            · have := f1 rfl 1 (by omega)
              simp only [Pos.at] at this
              rw [this] at hw2; cases hw2
          rw [hf]
          refine awp_region cx [] fun K hK => ?_
          simp [push_cast]
          repeat (refine And.intro (by clear hK; intros; first | omega | (simp_all; done) | (simp_all <;> omega)) ?_)
          refine hK _ ?_; clear hK K; refine Nav.imp ?_
          simp [push_cast]
        · rw [hb] at hw2
          refine awp_region cx [] fun K hK => ?_
          simp [push_cast, w3, w4]
          repeat (refine And.intro (by clear hK; intros; first | omega | (simp_all; done) | (simp_all <;> omega)) ?_)
          refine hK _ ?_; clear hK K; refine Nav.imp ?_
          refine ⟨2, ⟨by omega, fun j hj => ?_⟩, by omega, ?_⟩
          · by_cases e : j < 1
            · exact hall j e
            · have : j = 1 := by omega
              subst this
              simpa [Pos.at] using hw2
          · refine weak_of [(0, some 0)] rfl (by simp [upT, up, upL, push_cast]) (by simp [upH, upR, upL, up, push_cast]) (by simp [namesOk, push_cast]) (by simp [olds])
      · simp at hb
    · have hw2 : withB b.real.r 1099511627776 = !(decide (b.real.r < -1099511627776) || decide (1099511627776 < b.real.r)) := by rw [Bool.eq_iff_iff]; simp [withB]
      refine Nav.imp ?_
      refine awp_region cx [] fun K hK => ?_
      simp [push_cast]
      repeat (refine And.intro (by clear hK; intros; first | omega | (simp_all; done) | (simp_all <;> omega)) ?_)
      refine hK _ ?_; clear hK K; refine Nav.imp ?_
      refine awp_cond (b := true) (by simp [push_cast]) (fun hb => ?_) (fun hb => ?_) <;> (refine Nav.imp ?_)
      · refine awp_region cx [] fun K hK => ?_
        simp [push_cast]
        repeat (refine And.intro (by clear hK; intros; first | omega | (simp_all; done) | (simp_all <;> omega)) ?_)
        refine hK _ ?_; clear hK K; refine Nav.imp ?_
        refine awp_region cx [] fun K hK => ?_
        simp [push_cast]
        repeat (refine And.intro (by clear hK; intros; first | omega | (simp_all; done) | (simp_all <;> omega)) ?_)
        refine hK _ ?_; clear hK K; refine Nav.imp ?_
        refine awp_cond (b := decide (b.real.r < -1099511627776) || decide (1099511627776 < b.real.r)) (by simp [push_cast]) (fun hb => ?_) (fun hb => ?_) <;> (refine Nav.imp ?_)
        · rw [hb] at hw2
          have hf : sb = false := by
            cases sb
            · rfl
            · have := f1 rfl 2 (by omega)
              simp only [Pos.at] at this
              rw [this] at hw2; cases hw2
          rw [hf]
          refine awp_region cx [] fun K hK => ?_
          simp [push_cast]
          repeat (refine And.intro (by clear hK; intros; first | omega | (simp_all; done) | (simp_all <;> omega)) ?_)
          refine hK _ ?_; clear hK K; refine Nav.imp ?_
          simp [push_cast]
        · rw [hb] at hw2
          refine awp_region cx [] fun K hK => ?_
          simp [push_cast, w3, w4]
          repeat (refine And.intro (by clear hK; intros; first | omega | (simp_all; done) | (simp_all <;> omega)) ?_)
          refine hK _ ?_; clear hK K; refine Nav.imp ?_
          refine ⟨3, ⟨by omega, fun j hj => ?_⟩, by omega, ?_⟩
          · by_cases e : j < 2
            · exact hall j e
            · have : j = 2 := by omega
              subst this
              simpa [Pos.at] using hw2
          · refine weak_of [(0, some 0)] rfl (by simp [upT, up, upL, push_cast]) (by simp [upH, upR, upL, up, push_cast]) (by simp [namesOk, push_cast]) (by simp [olds])
      · simp at hb
    · have hw2 : withB b.real.s 1099511627776 = !(decide (b.real.s < -1099511627776) || decide (1099511627776 < b.real.s)) := by rw [Bool.eq_iff_iff]; simp [withB]
      refine Nav.imp ?_
      refine awp_region cx [] fun K hK => ?_
      simp [push_cast]
      repeat (refine And.intro (by clear hK; intros; first | omega | (simp_all; done) | (simp_all <;> omega)) ?_)
      refine hK _ ?_; clear hK K; refine Nav.imp ?_
      refine awp_cond (b := true) (by simp [push_cast]) (fun hb => ?_) (fun hb => ?_) <;> (refine Nav.imp ?_)
      · refine awp_region cx [] fun K hK => ?_
        simp [push_cast]
        repeat (refine And.intro (by clear hK; intros; first | omega | (simp_all; done) | (simp_all <;> omega)) ?_)
        refine hK _ ?_; clear hK K; refine Nav.imp ?_
        refine awp_region cx [] fun K hK => ?_
        simp [push_cast]
        repeat (refine And.intro (by clear hK; intros; first | omega | (simp_all; done) | (simp_all <;> omega)) ?_)
        refine hK _ ?_; clear hK K; refine Nav.imp ?_
        refine awp_cond (b := decide (b.real.s < -1099511627776) || decide (1099511627776 < b.real.s)) (by simp [push_cast]) (fun hb => ?_) (fun hb => ?_) <;> (refine Nav.imp ?_)
        · rw [hb] at hw2
          have hf : sb = false := by
            cases sb
            · rfl
            · have := f1 rfl 3 (by omega)
              simp only [Pos.at] at this
              rw [this] at hw2; cases hw2
          rw [hf]
          refine awp_region cx [] fun K hK => ?_
          simp [push_cast]
          repeat (refine And.intro (by clear hK; intros; first | omega | (simp_all; done) | (simp_all <;> omega)) ?_)
          refine hK _ ?_; clear hK K; refine Nav.imp ?_
          simp [push_cast]
        · rw [hb] at hw2
          refine awp_region cx [] fun K hK => ?_
          simp [push_cast, w3, w4]
          repeat (refine And.intro (by clear hK; intros; first | omega | (simp_all; done) | (simp_all <;> omega)) ?_)
          refine hK _ ?_; clear hK K; refine Nav.imp ?_
          refine ⟨4, ⟨by omega, fun j hj => ?_⟩, by omega, ?_⟩
          · by_cases e : j < 3
            · exact hall j e
            · have : j = 3 := by omega
              subst this
              simpa [Pos.at] using hw2
          · refine weak_of [(0, some 0)] rfl (by simp [upT, up, upL, push_cast]) (by simp [upH, upR, upL, up, push_cast]) (by simp [namesOk, push_cast]) (by simp [olds])
      · simp at hb
    · refine Nav.imp ?_
      refine awp_region cx [] fun K hK => ?_
      simp [push_cast]
      repeat (refine And.intro (by clear hK; intros; first | omega | (simp_all; done) | (simp_all <;> omega)) ?_)
      refine hK _ ?_; clear hK K; refine Nav.imp ?_
      refine awp_cond (b := false) (by simp [push_cast]) (fun hb => ?_) (fun hb => ?_) <;> (refine Nav.imp ?_)
      · simp at hb
      · refine awp_region cx [] fun K hK => ?_
        simp [push_cast]
        repeat (refine And.intro (by clear hK; intros; first | omega | (simp_all; done) | (simp_all <;> omega)) ?_)
        refine hK _ ?_; clear hK K; refine Nav.imp ?_
        refine awp_loop (β := Nat) (fun i => ⟨42, [(1, .ptr 0 0 0), (27, .d (.agg b.cnts.row)), (28, .d (.int .i64 i))], [(0, some ⟨43, 22, [b.row.map .d]⟩)], 1⟩) (fun i => i ≤ 4 ∧ ∀ j < i, cntB (b.cnts.at j) = true) (fun i => 4 - i) 0 ?_ ⟨Nat.zero_le _, by simp⟩ ?_
        · refine weak_of [(0, some 0)] rfl (by simp [upT, up, upL, push_cast, Bench.cnts]) (by simp [upH, upR, upL, up, push_cast, Bench.cnts]) (by simp [namesOk, push_cast]) (by simp [olds])
        · rintro i ⟨hi, hall2⟩
          rcases (show i = 0 ∨ i = 1 ∨ i = 2 ∨ i = 3 ∨ i = 4 by omega) with rfl | rfl | rfl | rfl | rfl
          · have hw2 : cntB b.cnts.p = !(decide (b.cnts.p < 0) || decide (1099511627776 < b.cnts.p)) := by rw [Bool.eq_iff_iff]; simp [cntB]
            refine Nav.imp ?_
            refine awp_region cx [] fun K hK => ?_
            simp [push_cast]
            repeat (refine And.intro (by clear hK; intros; first | omega | (simp_all; done) | (simp_all <;> omega)) ?_)
            refine hK _ ?_; clear hK K; refine Nav.imp ?_
            refine awp_cond (b := true) (by simp [push_cast]) (fun hb => ?_) (fun hb => ?_) <;> (refine Nav.imp ?_)
            · refine awp_region cx [] fun K hK => ?_
              simp [push_cast]
              repeat (refine And.intro (by clear hK; intros; first | omega | (simp_all; done) | (simp_all <;> omega)) ?_)
              refine hK _ ?_; clear hK K; refine Nav.imp ?_
              refine awp_region cx [] fun K hK => ?_
              simp [push_cast]
              repeat (refine And.intro (by clear hK; intros; first | omega | (simp_all; done) | (simp_all <;> omega)) ?_)
              refine hK _ ?_; clear hK K; refine Nav.imp ?_
              refine awp_cond (b := decide (b.cnts.p < 0) || decide (1099511627776 < b.cnts.p)) (by simp [push_cast]) (fun hb => ?_) (fun hb => ?_) <;> (refine Nav.imp ?_)
              · rw [hb] at hw2
                have hf : sb = false := by
                  cases sb
                  · rfl
                  · have := f2 rfl 0 (by omega)
                    simp only [Pos.at] at this
                    rw [this] at hw2; cases hw2
                rw [hf]
                refine awp_region cx [] fun K hK => ?_
                simp [push_cast]
                repeat (refine And.intro (by clear hK; intros; first | omega | (simp_all; done) | (simp_all <;> omega)) ?_)
                refine hK _ ?_; clear hK K; refine Nav.imp ?_
                simp [push_cast]
              · rw [hb] at hw2
                refine awp_region cx [] fun K hK => ?_
                simp [push_cast, w3, w4]
                repeat (refine And.intro (by clear hK; intros; first | omega | (simp_all; done) | (simp_all <;> omega)) ?_)
                refine hK _ ?_; clear hK K; refine Nav.imp ?_
                refine ⟨1, ⟨by omega, fun j hj => ?_⟩, by omega, ?_⟩
                · by_cases e : j < 0
                  · exact hall2 j e
                  · have : j = 0 := by omega
                    subst this
                    simpa [Pos.at] using hw2
                · refine weak_of [(0, some 0)] rfl (by simp [upT, up, upL, push_cast]) (by simp [upH, upR, upL, up, push_cast]) (by simp [namesOk, push_cast]) (by simp [olds])
            · simp at hb
          · have hw2 : cntB b.cnts.q = !(decide (b.cnts.q < 0) || decide (1099511627776 < b.cnts.q)) := by rw [Bool.eq_iff_iff]; simp [cntB]
            refine Nav.imp ?_
            refine awp_region cx [] fun K hK => ?_
            simp [push_cast]
            repeat (refine And.intro (by clear hK; intros; first | omega | (simp_all; done) | (simp_all <;> omega)) ?_)
            refine hK _ ?_; clear hK K; refine Nav.imp ?_
            refine awp_cond (b := true) (by simp [push_cast]) (fun hb => ?_) (fun hb => ?_) <;> (refine Nav.imp ?_)
            · refine awp_region cx [] fun K hK => ?_
              simp [push_cast]
              repeat (refine And.intro (by clear hK; intros; first | omega | (simp_all; done) | (simp_all <;> omega)) ?_)
              refine hK _ ?_; clear hK K; refine Nav.imp ?_
              refine awp_region cx [] fun K hK => ?_
              simp [push_cast]
              repeat (refine And.intro (by clear hK; intros; first | omega | (simp_all; done) | (simp_all <;> omega)) ?_)
              refine hK _ ?_; clear hK K; refine Nav.imp ?_
              refine awp_cond (b := decide (b.cnts.q < 0) || decide (1099511627776 < b.cnts.q)) (by simp [push_cast]) (fun hb => ?_) (fun hb => ?_) <;> (refine Nav.imp ?_)
              · rw [hb] at hw2
                have hf : sb = false := by
                  cases sb
                  · rfl
                  · have := f2 rfl 1 (by omega)
                    simp only [Pos.at] at this
                    rw [this] at hw2; cases hw2
                rw [hf]
                refine awp_region cx [] fun K hK => ?_
                simp [push_cast]
                repeat (refine And.intro (by clear hK; intros; first | omega | (simp_all; done) | (simp_all <;> omega)) ?_)
                refine hK _ ?_; clear hK K; refine Nav.imp ?_
                simp [push_cast]
              · rw [hb] at hw2
                refine awp_region cx [] fun K hK => ?_
                simp [push_cast, w3, w4]
                repeat (refine And.intro (by clear hK; intros; first | omega | (simp_all; done) | (simp_all <;> omega)) ?_)
                refine hK _ ?_; clear hK K; refine Nav.imp ?_
                refine ⟨2, ⟨by omega, fun j hj => ?_⟩, by omega, ?_⟩
                · by_cases e : j < 1
                  · exact hall2 j e
                  · have : j = 1 := by omega
                    subst this
                    simpa [Pos.at] using hw2
                · refine weak_of [(0, some 0)] rfl (by simp [upT, up, upL, push_cast]) (by simp [upH, upR, upL, up, push_cast]) (by simp [namesOk, push_cast]) (by simp [olds])
            · simp at hb
          · have hw2 : cntB b.cnts.r = !(decide (b.cnts.r < 0) || decide (1099511627776 < b.cnts.r)) := by rw [Bool.eq_iff_iff]; simp [cntB]
            refine Nav.imp ?_
            refine awp_region cx [] fun K hK => ?_
            simp [push_cast]
            repeat (refine And.intro (by clear hK; intros; first | omega | (simp_all; done) | (simp_all <;> omega)) ?_)
            refine hK _ ?_; clear hK K; refine Nav.imp ?_
            refine awp_cond (b := true) (by simp [push_cast]) (fun hb => ?_) (fun hb => ?_) <;> (refine Nav.imp ?_)
            · refine awp_region cx [] fun K hK => ?_
              simp [push_cast]
              repeat (refine And.intro (by clear hK; intros; first | omega | (simp_all; done) | (simp_all <;> omega)) ?_)
              refine hK _ ?_; clear hK K; refine Nav.imp ?_
              refine awp_region cx [] fun K hK => ?_
              simp [push_cast]
              repeat (refine And.intro (by clear hK; intros; first | omega | (simp_all; done) | (simp_all <;> omega)) ?_)
              refine hK _ ?_; clear hK K; refine Nav.imp ?_
              refine awp_cond (b := decide (b.cnts.r < 0) || decide (1099511627776 < b.cnts.r)) (by simp [push_cast]) (fun hb => ?_) (fun hb => ?_) <;> (refine Nav.imp ?_)
              · rw [hb] at hw2
                have hf : sb = false := by
                  cases sb
                  · rfl
                  · have := f2 rfl 2 (by omega)
                    simp only [Pos.at] at this
                    rw [this] at hw2; cases hw2
                rw [hf]
                refine awp_region cx [] fun K hK => ?_
                simp [push_cast]
                repeat (refine And.intro (by clear hK; intros; first | omega | (simp_all; done) | (simp_all <;> omega)) ?_)
                refine hK _ ?_; clear hK K; refine Nav.imp ?_
                simp [push_cast]
              · rw [hb] at hw2
                refine awp_region cx [] fun K hK => ?_
                simp [push_cast, w3, w4]
                repeat (refine And.intro (by clear hK; intros; first | omega | (simp_all; done) | (simp_all <;> omega)) ?_)
                refine hK _ ?_; clear hK K; refine Nav.imp ?_
                refine ⟨3, ⟨by omega, fun j hj => ?_⟩, by omega, ?_⟩
                · by_cases e : j < 2
                  · exact hall2 j e
                  · have : j = 2 := by omega
                    subst this
                    simpa [Pos.at] using hw2
                · refine weak_of [(0, some 0)] rfl (by simp [upT, up, upL, push_cast]) (by simp [upH, upR, upL, up, push_cast]) (by simp [namesOk, push_cast]) (by simp [olds])
            · simp at hb
          · have hw2 : cntB b.cnts.s = !(decide (b.cnts.s < 0) || decide (1099511627776 < b.cnts.s)) := by rw [Bool.eq_iff_iff]; simp [cntB]
            refine Nav.imp ?_
            refine awp_region cx [] fun K hK => ?_
            simp [push_cast]
            repeat (refine And.intro (by clear hK; intros; first | omega | (simp_all; done) | (simp_all <;> omega)) ?_)
            refine hK _ ?_; clear hK K; refine Nav.imp ?_
            refine awp_cond (b := true) (by simp [push_cast]) (fun hb => ?_) (fun hb => ?_) <;> (refine Nav.imp ?_)
            · refine awp_region cx [] fun K hK => ?_
              simp [push_cast]
              repeat (refine And.intro (by clear hK; intros; first | omega | (simp_all; done) | (simp_all <;> omega)) ?_)
              refine hK _ ?_; clear hK K; refine Nav.imp ?_
              refine awp_region cx [] fun K hK => ?_
              simp [push_cast]
              repeat (refine And.intro (by clear hK; intros; first | omega | (simp_all; done) | (simp_all <;> omega)) ?_)
              refine hK _ ?_; clear hK K; refine Nav.imp ?_
              refine awp_cond (b := decide (b.cnts.s < 0) || decide (1099511627776 < b.cnts.s)) (by simp [push_cast]) (fun hb => ?_) (fun hb => ?_) <;> (refine Nav.imp ?_)
              · rw [hb] at hw2
                have hf : sb = false := by
                  cases sb
                  · rfl
                  · have := f2 rfl 3 (by omega)
                    simp only [Pos.at] at this
                    rw [this] at hw2; cases hw2
                rw [hf]
                refine awp_region cx [] fun K hK => ?_
                simp [push_cast]
                repeat (refine And.intro (by clear hK; intros; first | omega | (simp_all; done) | (simp_all <;> omega)) ?_)
                refine hK _ ?_; clear hK K; refine Nav.imp ?_
                simp [push_cast]
              · rw [hb] at hw2
                refine awp_region cx [] fun K hK => ?_
                simp [push_cast, w3, w4]
                repeat (refine And.intro (by clear hK; intros; first | omega | (simp_all; done) | (simp_all <;> omega)) ?_)
                refine hK _ ?_; clear hK K; refine Nav.imp ?_
                refine ⟨4, ⟨by omega, fun j hj => ?_⟩, by omega, ?_⟩
                · by_cases e : j < 3
                  · exact hall2 j e
                  · have : j = 3 := by omega
                    subst this
                    simpa [Pos.at] using hw2
                · refine weak_of [(0, some 0)] rfl (by simp [upT, up, upL, push_cast]) (by simp [upH, upR, upL, up, push_cast]) (by simp [namesOk, push_cast]) (by simp [olds])
            · simp at hb
          · refine Nav.imp ?_
            refine awp_region cx [] fun K hK => ?_
            simp [push_cast]
            repeat (refine And.intro (by clear hK; intros; first | omega | (simp_all; done) | (simp_all <;> omega)) ?_)
            refine hK _ ?_; clear hK K; refine Nav.imp ?_
            refine awp_cond (b := false) (by simp [push_cast]) (fun hb => ?_) (fun hb => ?_) <;> (refine Nav.imp ?_)
            · simp at hb
            · rw [f3 hall hall2]
              refine awp_region cx [] fun K hK => ?_
              simp [push_cast]
              repeat (refine And.intro (by clear hK; intros; first | omega | (simp_all; done) | (simp_all <;> omega)) ?_)
              refine hK _ ?_; clear hK K; refine Nav.imp ?_
              simp [push_cast]
              omega
theorem bvalid_ok (b : Bench) (hL : smallL b.lays) : PC Try.prog 29 [.agg b.row] (.p (.bool (validE b))) := by
  have c1 := sound_ok b hL.1
  obtain ⟨hl, hR⟩ := hL
  have hv : validE b = (b.lays.all validR && soundB b) := rfl
  generalize soundB b = sb at *
  generalize validE b = vb at *
  refine pc_of_awp cx (fn := Try.f29) (c := _) Try.func29 rfl rfl (Nat.le_of_ble_eq_true rfl) ?_
  rw [Try.ntmps29]; refine Nav.imp ?_
  refine awp_region cx [] fun K hK => ?_
  simp [push_cast]
  repeat (refine And.intro (by clear hK; intros; first | omega | (simp_all; done) | (simp_all <;> omega)) ?_)
  refine hK _ ?_; clear hK K; refine Nav.imp ?_
  refine awp_region cx [] fun K hK => ?_
  simp [push_cast]
  repeat (refine And.intro (by clear hK; intros; first | omega | (simp_all; done) | (simp_all <;> omega)) ?_)
  refine hK _ ?_; clear hK K; refine Nav.imp ?_
  refine awp_loop (β := Nat) (fun i => ⟨18, [(1, .ptr 0 0 0), (6, .d (encLays b.lays)), (7, .d (.int .i64 b.lays.length)), (8, .d (.int .i64 i))], [(0, some ⟨43, 22, [b.row.map .d]⟩)], 1⟩) (fun i => i ≤ b.lays.length ∧ ∀ (j : Nat) R, j < i → b.lays[j]? = some R → validR R = true) (fun i => b.lays.length - i) 0 ?_ ⟨Nat.zero_le _, by simp⟩ ?_
  · refine weak_of [(0, some 0)] rfl (by simp [upT, up, upL, push_cast]) (by simp [upH, upR, upL, up, push_cast]) (by simp [namesOk, push_cast]) (by simp [olds])
  · rintro i ⟨hi, hall⟩
    refine Nav.imp ?_
    refine awp_region cx [] fun K hK => ?_
    simp [push_cast]
    repeat (refine And.intro (by clear hK; intros; first | omega | (simp_all; done) | (simp_all <;> omega)) ?_)
    refine hK _ ?_; clear hK K; refine Nav.imp ?_
    refine awp_cond (b := decide ((i : Int) < b.lays.length)) (by simp [push_cast]) (fun hb => ?_) (fun hb => ?_) <;> (refine Nav.imp ?_)
    · have hlt : i < b.lays.length := by simpa using hb
      obtain ⟨R, hRi⟩ := getq hlt
      have e0 := wrap_i64 (n := (i : Int) + 1) (by omega) (by omega)
      have c2 := valid_ok R (hR R (List.mem_of_getElem? hRi))
      refine awp_region cx [] fun K hK => ?_
      simp [push_cast, hRi]
      repeat (refine And.intro (by clear hK; intros; first | omega | (simp_all; done) | (simp_all <;> omega)) ?_)
      refine hK _ ?_; clear hK K; refine Nav.imp ?_
      cases hvR : validR R with
      | false =>
        rw [hvR] at c2
        have hf : vb = false := by
          rw [hv, Bool.and_eq_false_iff]; left
          rw [List.all_eq_false]
          exact ⟨R, List.mem_of_getElem? hRi, by simp [hvR]⟩
        rw [hf]
        refine awp_region cx [(1, .p (.bool false))] fun K hK => ?_
        simp [push_cast, c2]
        repeat (refine And.intro (by clear hK; intros; first | omega | (simp_all; done) | (simp_all <;> omega)) ?_)
        refine hK _ ?_; clear hK K; refine Nav.imp ?_
        refine awp_cond (b := true) (by simp [push_cast]) (fun hb => ?_) (fun hb => ?_) <;> (refine Nav.imp ?_)
        · refine awp_region cx [] fun K hK => ?_
          simp [push_cast]
          repeat (refine And.intro (by clear hK; intros; first | omega | (simp_all; done) | (simp_all <;> omega)) ?_)
          refine hK _ ?_; clear hK K; refine Nav.imp ?_
          simp [push_cast]
        · simp at hb
      | true =>
        rw [hvR] at c2
        refine awp_region cx [(1, .p (.bool true))] fun K hK => ?_
        simp [push_cast, c2]
        repeat (refine And.intro (by clear hK; intros; first | omega | (simp_all; done) | (simp_all <;> omega)) ?_)
        refine hK _ ?_; clear hK K; refine Nav.imp ?_
        refine awp_cond (b := false) (by simp [push_cast]) (fun hb => ?_) (fun hb => ?_) <;> (refine Nav.imp ?_)
        · simp at hb
        · refine awp_region cx [] fun K hK => ?_
          simp [push_cast, e0]
          repeat (refine And.intro (by clear hK; intros; first | omega | (simp_all; done) | (simp_all <;> omega)) ?_)
          refine hK _ ?_; clear hK K; refine Nav.imp ?_
          refine ⟨i + 1, ⟨hlt, fun j S hj hS => ?_⟩, by omega, ?_⟩
          · by_cases e : j < i
            · exact hall j S e hS
            · have : j = i := by omega
              subst this
              rw [hRi] at hS; cases hS; exact hvR
          · refine weak_of [(0, some 0)] rfl (by simp [upT, up, upL, push_cast]) (by simp [upH, upR, upL, up, push_cast]) (by simp [namesOk, push_cast]) (by simp [olds])
    · have hie : i = b.lays.length := by simp at hb; omega
      have : b.lays.all validR = true := by
        rw [List.all_eq_true]
        intro R hR'
        obtain ⟨j, hj⟩ := List.mem_iff_getElem?.1 hR'
        exact hall j R (by have := (List.getElem?_eq_some_iff.1 hj).1; omega) hj
      rw [this, Bool.true_and] at hv
      rw [hv]
      refine awp_region cx [(1, .p (.bool sb))] fun K hK => ?_
      simp [push_cast, c1]
      repeat (refine And.intro (by clear hK; intros; first | omega | (simp_all; done) | (simp_all <;> omega)) ?_)
      refine hK _ ?_; clear hK K; refine Nav.imp ?_
      simp [push_cast]
end Go.Proofs.Ytoofimknammifaa

set_option linter.unusedVariables false
set_option linter.unusedSimpArgs false
set_option maxRecDepth 100000
namespace Go.Proofs.Ytoofimknammifaa
open Go.Abs
attribute [push_cast] okHead calleeB

/-! A pulse. -/
def stepP (x p : Pos) : Pos := ⟨x.p + p.p, x.q + p.q, x.r + p.r, x.s + p.s⟩
def oneB (n : Int) : Bool := !(decide (n < -1) || decide (1 < n))
def unitP (p : Pos) : Bool := oneB p.p && oneB p.q && oneB p.r && oneB p.s
def pulseW (b : Bench) (m : Mach) (s : Sett) (p : Pos) : Bench :=
  hitF (extB { b with real := stepP b.real p } (underC m s (stepP b.real p)) (underL m s (stepP b.real p)) p.s) (underC m s (stepP b.real p)) (underL m s (stepP b.real p)) (p.p * p.p + p.q * p.q)
def pulseB (b : Bench) (m : Mach) (s : Sett) (p : Pos) : Bench := if unitP p && (rightB m s && validE b) && soundB (pulseW b m s p) then pulseW b m s p else b
theorem opR_valid {f : Bool → Bool → Bool} (hf : f false false = false) (a b : List Row) : validR (opR f a b) = true := by
  cases hv : (validR a && validR b) with
  | false => unfold opR; rw [hv]; rfl
  | true =>
    simp only [Bool.and_eq_true] at hv
    exact (opR_facts hf hv.1 hv.2).1
theorem layF_facts {L : List (List Row)} {l : Int} {c : Cell} (hL : ∀ R ∈ L, validR R = true) (hl : L.length ≤ 256) : (∀ R ∈ layF L l c, validR R = true) ∧ (layF L l c).length ≤ 256 := by
  unfold layF
  split
  · rename_i h
    simp [layOk] at h
    refine ⟨fun R hR => ?_, ?_⟩
    · unfold layL at hR
      rcases List.mem_or_eq_of_mem_set hR with h1 | h1
      · rcases List.mem_append.1 h1 with h1 | h1
        · exact hL R h1
        · rw [(List.mem_replicate.1 h1).2]; rfl
      · rw [h1]; exact opR_valid rfl _ _
    · rw [layL_len]; split <;> omega
  · exact ⟨hL, hl⟩
theorem ext_facts {b : Bench} {c : Cell} {l k : Int} (hL : ∀ R ∈ b.lays, validR R = true) (hl : b.lays.length ≤ 256) : (∀ R ∈ (extB b c l k).lays, validR R = true) ∧ (extB b c l k).lays.length ≤ 256 ∧ (extB b c l k).hits = b.hits := by
  unfold extB
  split
  · exact ⟨hL, hl, rfl⟩
  split
  · exact ⟨hL, hl, rfl⟩
  split
  · exact ⟨hL, hl, rfl⟩
  split
  · obtain ⟨h1, h2⟩ := layF_facts (l := l) (c := c) hL hl
    exact ⟨h1, h2, rfl⟩
  · exact ⟨hL, hl, rfl⟩
theorem hit_lays {b : Bench} {c : Cell} {l k : Int} : (hitF b c l k).lays = b.lays := by
  unfold hitF
  split
  · rfl
  split <;> rfl
theorem under_layer (m : Mach) (s : Sett) (x : Pos) : -1 ≤ underL m s x ∧ underL m s x ≤ 4611686018427387905 := by
  rcases under_cases m s x with ⟨h, _⟩ | ⟨_, h, _⟩ | ⟨h1, h2, a, b, c, d, _, hd, ha, hb, hc, hp, hh⟩
  · have : underB m s x = false := by simp [underB, h]
    simp [underL, this]
  · have : underB m s x = false := by simp [underB, h]
    simp [underL, this]
  · have := lay_range hc hh.1
    simp only [underD, D.tup.injEq, List.cons.injEq, D.int.injEq, true_and, and_true] at hd
    rw [hd.2]; exact this
set_option maxHeartbeats 8000000 in
theorem pulse_ok (b : Bench) (m : Mach) (s : Sett) (p : Pos) (hS : smallL b.lays) : PC Try.prog 11 [.agg b.row, .agg m.row, .agg s.row, .agg p.row] (.p (.agg (pulseB b m s p).row)) := by
  have c1 := clone_bench b hS
  have c2 := right_ok m s
  have c3 := bvalid_ok b hS
  have hP : pulseB b m s p = if unitP p && (rightB m s && validE b) && soundB (pulseW b m s p) then pulseW b m s p else b := rfl
  have hu : unitP p = true ↔ _ := four_iff (f := oneB) (x := p)
  generalize hB : pulseB b m s p = B at *
  generalize unitP p = up_ at *
  have w3 : IntKind.i64.wrap 3 = 3 := by decide
  have w4 : IntKind.i64.wrap 4 = 4 := by decide
  refine pc_of_awp cx (fn := Try.f11) (c := _) Try.func11 rfl rfl (Nat.le_of_ble_eq_true rfl) ?_
  rw [Try.ntmps11]; refine Nav.imp ?_
  refine awp_region cx [] fun K hK => ?_
  simp [push_cast]
  repeat (refine And.intro (by clear hK; intros; first | omega | (simp_all; done) | (simp_all <;> omega)) ?_)
  refine hK _ ?_; clear hK K; refine Nav.imp ?_
  refine awp_region cx [(1, .x ⟨[], [.d (.agg b.row)], [], [], some 2, [(2, ⟨56, 1, dr (b.lays.map regRow)⟩)], .agg (b.av (.hs 2 0 b.lays.length))⟩)] fun K hK => ?_
  simp [push_cast, c1]
  repeat (refine And.intro (by clear hK; intros; first | omega | (simp_all; done) | (simp_all <;> omega)) ?_)
  refine hK _ ?_; clear hK K; refine Nav.imp ?_
  refine awp_region cx [] fun K hK => ?_
  simp [push_cast]
  repeat (refine And.intro (by clear hK; intros; first | omega | (simp_all; done) | (simp_all <;> omega)) ?_)
  refine hK _ ?_; clear hK K; refine Nav.imp ?_
  refine awp_loop (β := Nat) (fun i => ⟨113, [(4, .ptr 0 0 0), (5, .ptr 1 0 0), (6, .ptr 2 0 0), (7, .ptr 3 0 0), (8, .ptr 4 0 0), (9, .ptr 5 0 0), (19, .d (.agg p.row)), (20, .d (.int .i64 i))], [(0, some ⟨43, 22, [b.row.map .d]⟩), (1, some ⟨26, 30, [m.row.map .d]⟩), (2, some ⟨28, 20, [s.row.map .d]⟩), (3, some ⟨29, 4, [p.row.map .d]⟩), (4, some ⟨43, 22, benchZ⟩), (5, some ⟨43, 22, [b.av (.hs 6 0 b.lays.length)]⟩), (6, some ⟨56, 1, dr (b.lays.map regRow)⟩)], 7⟩) (fun i => i ≤ 4 ∧ ∀ j < i, oneB (p.at j) = true) (fun i => 4 - i) 0 ?_ ⟨Nat.zero_le _, by simp⟩ ?_
  · refine weak_of [(0, some 0), (1, some 1), (2, some 2), (3, some 3), (4, some 4), (5, some 7), (6, some 6)] rfl (by simp [upT, up, upL, push_cast]) (by simp [upH, upR, upL, up, push_cast]) (by simp [namesOk, push_cast]) (by simp [olds])
  · rintro i ⟨hi, hall⟩
    rcases (show i = 0 ∨ i = 1 ∨ i = 2 ∨ i = 3 ∨ i = 4 by omega) with rfl | rfl | rfl | rfl | rfl
    · have hw2 : oneB p.p = !(decide (p.p < -1) || decide (1 < p.p)) := rfl
      refine Nav.imp ?_
      refine awp_region cx [] fun K hK => ?_
      simp [push_cast]
      repeat (refine And.intro (by clear hK; intros; first | omega | (simp_all; done) | (simp_all <;> omega)) ?_)
      refine hK _ ?_; clear hK K; refine Nav.imp ?_
      refine awp_cond (b := true) (by simp [push_cast]) (fun hb => ?_) (fun hb => ?_) <;> (refine Nav.imp ?_)
      · refine awp_region cx [] fun K hK => ?_
        simp [push_cast]
        repeat (refine And.intro (by clear hK; intros; first | omega | (simp_all; done) | (simp_all <;> omega)) ?_)
        refine hK _ ?_; clear hK K; refine Nav.imp ?_
        refine awp_region cx [] fun K hK => ?_
        simp [push_cast]
        repeat (refine And.intro (by clear hK; intros; first | omega | (simp_all; done) | (simp_all <;> omega)) ?_)
        refine hK _ ?_; clear hK K; refine Nav.imp ?_
        refine awp_cond (b := decide (p.p < -1) || decide (1 < p.p)) (by simp [push_cast]) (fun hb => ?_) (fun hb => ?_) <;> (refine Nav.imp ?_)
        · rw [hb] at hw2
          have hf : up_ = false := by
            cases up_
            · rfl
            · have := hu.1 rfl 0 (by omega)
              simp only [Pos.at] at this
              rw [this] at hw2; cases hw2
          rw [hf] at hP
          simp at hP
          rw [hP]
          refine awp_region cx [] fun K hK => ?_
          simp [push_cast]
          repeat (refine And.intro (by clear hK; intros; first | omega | (simp_all; done) | (simp_all <;> omega)) ?_)
          refine hK _ ?_; clear hK K; refine Nav.imp ?_
          simp [push_cast]
        · rw [hb] at hw2
          refine awp_region cx [] fun K hK => ?_
          simp [push_cast, w3, w4]
          repeat (refine And.intro (by clear hK; intros; first | omega | (simp_all; done) | (simp_all <;> omega)) ?_)
          refine hK _ ?_; clear hK K; refine Nav.imp ?_
          refine ⟨1, ⟨by omega, fun j hj => ?_⟩, by omega, ?_⟩
          · by_cases e : j < 0
            · exact hall j e
            · have : j = 0 := by omega
              subst this
              simpa [Pos.at] using hw2
          · refine weak_of [(0, some 0), (1, some 1), (2, some 2), (3, some 3), (4, some 4), (5, some 5), (6, some 6)] rfl (by simp [upT, up, upL, push_cast]) (by simp [upH, upR, upL, up, push_cast]) (by simp [namesOk, push_cast]) (by simp [olds])
      · simp at hb
    · have hw2 : oneB p.q = !(decide (p.q < -1) || decide (1 < p.q)) := rfl
      refine Nav.imp ?_
      refine awp_region cx [] fun K hK => ?_
      simp [push_cast]
      repeat (refine And.intro (by clear hK; intros; first | omega | (simp_all; done) | (simp_all <;> omega)) ?_)
      refine hK _ ?_; clear hK K; refine Nav.imp ?_
      refine awp_cond (b := true) (by simp [push_cast]) (fun hb => ?_) (fun hb => ?_) <;> (refine Nav.imp ?_)
      · refine awp_region cx [] fun K hK => ?_
        simp [push_cast]
        repeat (refine And.intro (by clear hK; intros; first | omega | (simp_all; done) | (simp_all <;> omega)) ?_)
        refine hK _ ?_; clear hK K; refine Nav.imp ?_
        refine awp_region cx [] fun K hK => ?_
        simp [push_cast]
        repeat (refine And.intro (by clear hK; intros; first | omega | (simp_all; done) | (simp_all <;> omega)) ?_)
        refine hK _ ?_; clear hK K; refine Nav.imp ?_
        refine awp_cond (b := decide (p.q < -1) || decide (1 < p.q)) (by simp [push_cast]) (fun hb => ?_) (fun hb => ?_) <;> (refine Nav.imp ?_)
        · rw [hb] at hw2
          have hf : up_ = false := by
            cases up_
            · rfl
            · have := hu.1 rfl 1 (by omega)
              simp only [Pos.at] at this
              rw [this] at hw2; cases hw2
          rw [hf] at hP
          simp at hP
          rw [hP]
          refine awp_region cx [] fun K hK => ?_
          simp [push_cast]
          repeat (refine And.intro (by clear hK; intros; first | omega | (simp_all; done) | (simp_all <;> omega)) ?_)
          refine hK _ ?_; clear hK K; refine Nav.imp ?_
          simp [push_cast]
        · rw [hb] at hw2
          refine awp_region cx [] fun K hK => ?_
          simp [push_cast, w3, w4]
          repeat (refine And.intro (by clear hK; intros; first | omega | (simp_all; done) | (simp_all <;> omega)) ?_)
          refine hK _ ?_; clear hK K; refine Nav.imp ?_
          refine ⟨2, ⟨by omega, fun j hj => ?_⟩, by omega, ?_⟩
          · by_cases e : j < 1
            · exact hall j e
            · have : j = 1 := by omega
              subst this
              simpa [Pos.at] using hw2
          · refine weak_of [(0, some 0), (1, some 1), (2, some 2), (3, some 3), (4, some 4), (5, some 5), (6, some 6)] rfl (by simp [upT, up, upL, push_cast]) (by simp [upH, upR, upL, up, push_cast]) (by simp [namesOk, push_cast]) (by simp [olds])
      · simp at hb
    · have hw2 : oneB p.r = !(decide (p.r < -1) || decide (1 < p.r)) := rfl
      refine Nav.imp ?_
      refine awp_region cx [] fun K hK => ?_
      simp [push_cast]
      repeat (refine And.intro (by clear hK; intros; first | omega | (simp_all; done) | (simp_all <;> omega)) ?_)
      refine hK _ ?_; clear hK K; refine Nav.imp ?_
      refine awp_cond (b := true) (by simp [push_cast]) (fun hb => ?_) (fun hb => ?_) <;> (refine Nav.imp ?_)
      · refine awp_region cx [] fun K hK => ?_
        simp [push_cast]
        repeat (refine And.intro (by clear hK; intros; first | omega | (simp_all; done) | (simp_all <;> omega)) ?_)
        refine hK _ ?_; clear hK K; refine Nav.imp ?_
        refine awp_region cx [] fun K hK => ?_
        simp [push_cast]
        repeat (refine And.intro (by clear hK; intros; first | omega | (simp_all; done) | (simp_all <;> omega)) ?_)
        refine hK _ ?_; clear hK K; refine Nav.imp ?_
        refine awp_cond (b := decide (p.r < -1) || decide (1 < p.r)) (by simp [push_cast]) (fun hb => ?_) (fun hb => ?_) <;> (refine Nav.imp ?_)
        · rw [hb] at hw2
          have hf : up_ = false := by
            cases up_
            · rfl
            · have := hu.1 rfl 2 (by omega)
              simp only [Pos.at] at this
              rw [this] at hw2; cases hw2
          rw [hf] at hP
          simp at hP
          rw [hP]
          refine awp_region cx [] fun K hK => ?_
          simp [push_cast]
          repeat (refine And.intro (by clear hK; intros; first | omega | (simp_all; done) | (simp_all <;> omega)) ?_)
          refine hK _ ?_; clear hK K; refine Nav.imp ?_
          simp [push_cast]
        · rw [hb] at hw2
          refine awp_region cx [] fun K hK => ?_
          simp [push_cast, w3, w4]
          repeat (refine And.intro (by clear hK; intros; first | omega | (simp_all; done) | (simp_all <;> omega)) ?_)
          refine hK _ ?_; clear hK K; refine Nav.imp ?_
          refine ⟨3, ⟨by omega, fun j hj => ?_⟩, by omega, ?_⟩
          · by_cases e : j < 2
            · exact hall j e
            · have : j = 2 := by omega
              subst this
              simpa [Pos.at] using hw2
          · refine weak_of [(0, some 0), (1, some 1), (2, some 2), (3, some 3), (4, some 4), (5, some 5), (6, some 6)] rfl (by simp [upT, up, upL, push_cast]) (by simp [upH, upR, upL, up, push_cast]) (by simp [namesOk, push_cast]) (by simp [olds])
      · simp at hb
    · have hw2 : oneB p.s = !(decide (p.s < -1) || decide (1 < p.s)) := rfl
      refine Nav.imp ?_
      refine awp_region cx [] fun K hK => ?_
      simp [push_cast]
      repeat (refine And.intro (by clear hK; intros; first | omega | (simp_all; done) | (simp_all <;> omega)) ?_)
      refine hK _ ?_; clear hK K; refine Nav.imp ?_
      refine awp_cond (b := true) (by simp [push_cast]) (fun hb => ?_) (fun hb => ?_) <;> (refine Nav.imp ?_)
      · refine awp_region cx [] fun K hK => ?_
        simp [push_cast]
        repeat (refine And.intro (by clear hK; intros; first | omega | (simp_all; done) | (simp_all <;> omega)) ?_)
        refine hK _ ?_; clear hK K; refine Nav.imp ?_
        refine awp_region cx [] fun K hK => ?_
        simp [push_cast]
        repeat (refine And.intro (by clear hK; intros; first | omega | (simp_all; done) | (simp_all <;> omega)) ?_)
        refine hK _ ?_; clear hK K; refine Nav.imp ?_
        refine awp_cond (b := decide (p.s < -1) || decide (1 < p.s)) (by simp [push_cast]) (fun hb => ?_) (fun hb => ?_) <;> (refine Nav.imp ?_)
        · rw [hb] at hw2
          have hf : up_ = false := by
            cases up_
            · rfl
            · have := hu.1 rfl 3 (by omega)
              simp only [Pos.at] at this
              rw [this] at hw2; cases hw2
          rw [hf] at hP
          simp at hP
          rw [hP]
          refine awp_region cx [] fun K hK => ?_
          simp [push_cast]
          repeat (refine And.intro (by clear hK; intros; first | omega | (simp_all; done) | (simp_all <;> omega)) ?_)
          refine hK _ ?_; clear hK K; refine Nav.imp ?_
          simp [push_cast]
        · rw [hb] at hw2
          refine awp_region cx [] fun K hK => ?_
          simp [push_cast, w3, w4]
          repeat (refine And.intro (by clear hK; intros; first | omega | (simp_all; done) | (simp_all <;> omega)) ?_)
          refine hK _ ?_; clear hK K; refine Nav.imp ?_
          refine ⟨4, ⟨by omega, fun j hj => ?_⟩, by omega, ?_⟩
          · by_cases e : j < 3
            · exact hall j e
            · have : j = 3 := by omega
              subst this
              simpa [Pos.at] using hw2
          · refine weak_of [(0, some 0), (1, some 1), (2, some 2), (3, some 3), (4, some 4), (5, some 5), (6, some 6)] rfl (by simp [upT, up, upL, push_cast]) (by simp [upH, upR, upL, up, push_cast]) (by simp [namesOk, push_cast]) (by simp [olds])
      · simp at hb
    · have hup := hu.2 hall
      rw [hup, Bool.true_and] at hP
      clear hu hup
      have a0 := hall 0 (by omega)
      have a1 := hall 1 (by omega)
      have a2 := hall 2 (by omega)
      have a3 := hall 3 (by omega)
      simp [oneB, Pos.at] at a0 a1 a2 a3
      refine Nav.imp ?_
      refine awp_region cx [] fun K hK => ?_
      simp [push_cast]
      repeat (refine And.intro (by clear hK; intros; first | omega | (simp_all; done) | (simp_all <;> omega)) ?_)
      refine hK _ ?_; clear hK K; refine Nav.imp ?_
      refine awp_cond (b := false) (by simp [push_cast]) (fun hb => ?_) (fun hb => ?_) <;> (refine Nav.imp ?_)
      · simp at hb
      · cases hr : rightB m s with
        | false =>
          rw [hr] at c2 hP
          simp at hP
          rw [hP]
          refine awp_region cx [(2, .p (.bool false)), (6, .skip)] fun K hK => ?_
          simp [push_cast, c2]
          repeat (refine And.intro (by clear hK; intros; first | omega | (simp_all; done) | (simp_all <;> omega)) ?_)
          refine hK _ ?_; clear hK K; refine Nav.imp ?_
          refine awp_cond (b := true) (by simp [push_cast]) (fun hb => ?_) (fun hb => ?_) <;> (refine Nav.imp ?_)
          · refine awp_region cx [] fun K hK => ?_
            simp [push_cast]
            repeat (refine And.intro (by clear hK; intros; first | omega | (simp_all; done) | (simp_all <;> omega)) ?_)
            refine hK _ ?_; clear hK K; refine Nav.imp ?_
            simp [push_cast]
          · simp at hb
        | true =>
        cases hv : validE b with
        | false =>
          rw [hr] at c2 hP
          rw [hv] at c3 hP
          simp at hP
          rw [hP]
          refine awp_region cx [(2, .p (.bool true)), (6, .p (.bool false))] fun K hK => ?_
          simp [push_cast, c2, c3]
          repeat (refine And.intro (by clear hK; intros; first | omega | (simp_all; done) | (simp_all <;> omega)) ?_)
          refine hK _ ?_; clear hK K; refine Nav.imp ?_
          refine awp_cond (b := true) (by simp [push_cast]) (fun hb => ?_) (fun hb => ?_) <;> (refine Nav.imp ?_)
          · refine awp_region cx [] fun K hK => ?_
            simp [push_cast]
            repeat (refine And.intro (by clear hK; intros; first | omega | (simp_all; done) | (simp_all <;> omega)) ?_)
            refine hK _ ?_; clear hK K; refine Nav.imp ?_
            simp [push_cast]
          · simp at hb
        | true =>
        rw [hr] at c2 hP
        rw [hv] at c3 hP
        simp only [Bool.and_self, Bool.true_and] at hP
        refine awp_region cx [(2, .p (.bool true)), (6, .p (.bool true))] fun K hK => ?_
        simp [push_cast, c2, c3]
        repeat (refine And.intro (by clear hK; intros; first | omega | (simp_all; done) | (simp_all <;> omega)) ?_)
        refine hK _ ?_; clear hK K; refine Nav.imp ?_
        refine awp_cond (b := false) (by simp [push_cast]) (fun hb => ?_) (fun hb => ?_) <;> (refine Nav.imp ?_)
        · simp at hb
        · simp only [validE, soundB, realB, cntsB, Bench.cnts, Bool.and_eq_true, List.all_eq_true, decide_eq_true_eq] at hv
          obtain ⟨hLv, ⟨⟨⟨⟨v0, v1⟩, v2⟩, v3⟩, ⟨⟨u0, u1⟩, u2⟩, u3⟩, hl⟩ := hv
          simp [withB] at v0 v1 v2 v3
          refine awp_region cx [(1, .x ⟨[], [.d (.agg b.row)], [], [], some 2, [(2, ⟨56, 1, dr (b.lays.map regRow)⟩)], .agg (b.av (.hs 2 0 b.lays.length))⟩)] fun K hK => ?_
          simp [push_cast, c1]
          repeat (refine And.intro (by clear hK; intros; first | omega | (simp_all; done) | (simp_all <;> omega)) ?_)
          refine hK _ ?_; clear hK K; refine Nav.imp ?_
          refine awp_region cx [] fun K hK => ?_
          simp [push_cast]
          repeat (refine And.intro (by clear hK; intros; first | omega | (simp_all; done) | (simp_all <;> omega)) ?_)
          refine hK _ ?_; clear hK K; refine Nav.imp ?_
          refine awp_loop (β := Nat) (fun i => ⟨113, [(5, .ptr 1 0 0), (6, .ptr 2 0 0), (7, .ptr 3 0 0), (8, .ptr 4 0 0), (9, .ptr 5 0 0), (12, .ptr 7 0 0), (45, .d (.agg p.row)), (46, .d (.int .i64 i))], [(1, some ⟨26, 30, [m.row.map .d]⟩), (2, some ⟨28, 20, [s.row.map .d]⟩), (3, some ⟨29, 4, [p.row.map .d]⟩), (4, some ⟨43, 22, benchZ⟩), (5, some ⟨43, 22, [b.av (.hs 6 0 b.lays.length)]⟩), (6, some ⟨56, 1, dr (b.lays.map regRow)⟩), (7, some ⟨75, 25, [Bench.wav { b with real := ⟨if 0 < i then b.real.p + p.p else b.real.p, if 1 < i then b.real.q + p.q else b.real.q, if 2 < i then b.real.r + p.r else b.real.r, if 3 < i then b.real.s + p.s else b.real.s⟩ } ⟨0, 0⟩ 0 (.hs 8 0 b.lays.length)]⟩), (8, some ⟨56, 1, dr (b.lays.map regRow)⟩)], 9⟩) (fun i => i ≤ 4) (fun i => 4 - i) 0 ?_ (Nat.zero_le _) ?_
          · refine weak_of [(1, some 1), (2, some 2), (3, some 3), (4, some 4), (5, some 5), (6, some 6), (7, some 20), (8, some 18)] rfl (by simp [upT, up, upL, push_cast]) (by simp [upH, upR, upL, up, push_cast]) (by simp [namesOk, push_cast]) (by simp [olds])
          · clear hi hall
            rintro i hi
            rcases (show i = 0 ∨ i = 1 ∨ i = 2 ∨ i = 3 ∨ i = 4 by omega) with rfl | rfl | rfl | rfl | rfl
            · have e1 := wrap_i64 (n := b.real.p + p.p) (by omega) (by omega)
              simp (config := { decide := true }) only [if_true, if_false]
              refine Nav.imp ?_
              refine awp_region cx [] fun K hK => ?_
              simp [push_cast]
              repeat (refine And.intro (by clear hK; intros; first | omega | (simp_all; done) | (simp_all <;> omega)) ?_)
              refine hK _ ?_; clear hK K; refine Nav.imp ?_
              refine awp_cond (b := true) (by simp [push_cast]) (fun hb => ?_) (fun hb => ?_) <;> (refine Nav.imp ?_)
              · refine awp_region cx [] fun K hK => ?_
                simp [push_cast]
                repeat (refine And.intro (by clear hK; intros; first | omega | (simp_all; done) | (simp_all <;> omega)) ?_)
                refine hK _ ?_; clear hK K; refine Nav.imp ?_
                refine awp_region_draw cx mixed [] fun K hK => ?_
                simp [push_cast, e1]
                repeat (refine And.intro (by clear hK; intros; first | omega | (simp_all; done) | (simp_all <;> omega)) ?_)
                refine hK _ _ (by kernel_rfl) ?_; clear hK K; refine Nav.imp ?_
                refine awp_region cx [] fun K hK => ?_
                simp [push_cast, w3, w4]
                repeat (refine And.intro (by clear hK; intros; first | omega | (simp_all; done) | (simp_all <;> omega)) ?_)
                refine hK _ ?_; clear hK K; refine Nav.imp ?_
                refine ⟨1, by omega, by omega, ?_⟩
                refine weak_of [(1, some 1), (2, some 2), (3, some 3), (4, some 4), (5, some 5), (6, some 6), (7, some 7), (8, some 8)] rfl (by simp [upT, up, upL, push_cast]) (by simp [upH, upR, upL, up, push_cast]) (by simp [namesOk, push_cast]) (by simp [olds])
              · simp at hb
            · have e1 := wrap_i64 (n := b.real.q + p.q) (by omega) (by omega)
              simp (config := { decide := true }) only [if_true, if_false]
              refine Nav.imp ?_
              refine awp_region cx [] fun K hK => ?_
              simp [push_cast]
              repeat (refine And.intro (by clear hK; intros; first | omega | (simp_all; done) | (simp_all <;> omega)) ?_)
              refine hK _ ?_; clear hK K; refine Nav.imp ?_
              refine awp_cond (b := true) (by simp [push_cast]) (fun hb => ?_) (fun hb => ?_) <;> (refine Nav.imp ?_)
              · refine awp_region cx [] fun K hK => ?_
                simp [push_cast]
                repeat (refine And.intro (by clear hK; intros; first | omega | (simp_all; done) | (simp_all <;> omega)) ?_)
                refine hK _ ?_; clear hK K; refine Nav.imp ?_
                refine awp_region_draw cx mixed [] fun K hK => ?_
                simp [push_cast, e1]
                repeat (refine And.intro (by clear hK; intros; first | omega | (simp_all; done) | (simp_all <;> omega)) ?_)
                refine hK _ _ (by kernel_rfl) ?_; clear hK K; refine Nav.imp ?_
                refine awp_region cx [] fun K hK => ?_
                simp [push_cast, w3, w4]
                repeat (refine And.intro (by clear hK; intros; first | omega | (simp_all; done) | (simp_all <;> omega)) ?_)
                refine hK _ ?_; clear hK K; refine Nav.imp ?_
                refine ⟨2, by omega, by omega, ?_⟩
                refine weak_of [(1, some 1), (2, some 2), (3, some 3), (4, some 4), (5, some 5), (6, some 6), (7, some 7), (8, some 8)] rfl (by simp [upT, up, upL, push_cast]) (by simp [upH, upR, upL, up, push_cast]) (by simp [namesOk, push_cast]) (by simp [olds])
              · simp at hb
            · have e1 := wrap_i64 (n := b.real.r + p.r) (by omega) (by omega)
              simp (config := { decide := true }) only [if_true, if_false]
              refine Nav.imp ?_
              refine awp_region cx [] fun K hK => ?_
              simp [push_cast]
              repeat (refine And.intro (by clear hK; intros; first | omega | (simp_all; done) | (simp_all <;> omega)) ?_)
              refine hK _ ?_; clear hK K; refine Nav.imp ?_
              refine awp_cond (b := true) (by simp [push_cast]) (fun hb => ?_) (fun hb => ?_) <;> (refine Nav.imp ?_)
              · refine awp_region cx [] fun K hK => ?_
                simp [push_cast]
                repeat (refine And.intro (by clear hK; intros; first | omega | (simp_all; done) | (simp_all <;> omega)) ?_)
                refine hK _ ?_; clear hK K; refine Nav.imp ?_
                refine awp_region_draw cx mixed [] fun K hK => ?_
                simp [push_cast, e1]
                repeat (refine And.intro (by clear hK; intros; first | omega | (simp_all; done) | (simp_all <;> omega)) ?_)
                refine hK _ _ (by kernel_rfl) ?_; clear hK K; refine Nav.imp ?_
                refine awp_region cx [] fun K hK => ?_
                simp [push_cast, w3, w4]
                repeat (refine And.intro (by clear hK; intros; first | omega | (simp_all; done) | (simp_all <;> omega)) ?_)
                refine hK _ ?_; clear hK K; refine Nav.imp ?_
                refine ⟨3, by omega, by omega, ?_⟩
                refine weak_of [(1, some 1), (2, some 2), (3, some 3), (4, some 4), (5, some 5), (6, some 6), (7, some 7), (8, some 8)] rfl (by simp [upT, up, upL, push_cast]) (by simp [upH, upR, upL, up, push_cast]) (by simp [namesOk, push_cast]) (by simp [olds])
              · simp at hb
            · have e1 := wrap_i64 (n := b.real.s + p.s) (by omega) (by omega)
              simp (config := { decide := true }) only [if_true, if_false]
              refine Nav.imp ?_
              refine awp_region cx [] fun K hK => ?_
              simp [push_cast]
              repeat (refine And.intro (by clear hK; intros; first | omega | (simp_all; done) | (simp_all <;> omega)) ?_)
              refine hK _ ?_; clear hK K; refine Nav.imp ?_
              refine awp_cond (b := true) (by simp [push_cast]) (fun hb => ?_) (fun hb => ?_) <;> (refine Nav.imp ?_)
              · refine awp_region cx [] fun K hK => ?_
                simp [push_cast]
                repeat (refine And.intro (by clear hK; intros; first | omega | (simp_all; done) | (simp_all <;> omega)) ?_)
                refine hK _ ?_; clear hK K; refine Nav.imp ?_
                refine awp_region_draw cx mixed [] fun K hK => ?_
                simp [push_cast, e1]
                repeat (refine And.intro (by clear hK; intros; first | omega | (simp_all; done) | (simp_all <;> omega)) ?_)
                refine hK _ _ (by kernel_rfl) ?_; clear hK K; refine Nav.imp ?_
                refine awp_region cx [] fun K hK => ?_
                simp [push_cast, w3, w4]
                repeat (refine And.intro (by clear hK; intros; first | omega | (simp_all; done) | (simp_all <;> omega)) ?_)
                refine hK _ ?_; clear hK K; refine Nav.imp ?_
                refine ⟨4, by omega, by omega, ?_⟩
                refine weak_of [(1, some 1), (2, some 2), (3, some 3), (4, some 4), (5, some 5), (6, some 6), (7, some 7), (8, some 8)] rfl (by simp [upT, up, upL, push_cast]) (by simp [upH, upR, upL, up, push_cast]) (by simp [namesOk, push_cast]) (by simp [olds])
              · simp at hb
            · simp (config := { decide := true }) only [if_true, if_false]
              refine Nav.imp ?_
              refine awp_region cx [] fun K hK => ?_
              simp [push_cast]
              repeat (refine And.intro (by clear hK; intros; first | omega | (simp_all; done) | (simp_all <;> omega)) ?_)
              refine hK _ ?_; clear hK K; refine Nav.imp ?_
              refine awp_cond (b := false) (by simp [push_cast]) (fun hb => ?_) (fun hb => ?_) <;> (refine Nav.imp ?_)
              · simp at hb
              · have c4 := under_ok m s ⟨b.real.p + p.p, b.real.q + p.q, b.real.r + p.r, b.real.s + p.s⟩
                have hlr := under_layer m s ⟨b.real.p + p.p, b.real.q + p.q, b.real.r + p.r, b.real.s + p.s⟩
                unfold underD at c4
                have hW : pulseW b m s p = hitF (extB { b with real := ⟨b.real.p + p.p, b.real.q + p.q, b.real.r + p.r, b.real.s + p.s⟩ } (underC m s ⟨b.real.p + p.p, b.real.q + p.q, b.real.r + p.r, b.real.s + p.s⟩) (underL m s ⟨b.real.p + p.p, b.real.q + p.q, b.real.r + p.r, b.real.s + p.s⟩) p.s) (underC m s ⟨b.real.p + p.p, b.real.q + p.q, b.real.r + p.r, b.real.s + p.s⟩) (underL m s ⟨b.real.p + p.p, b.real.q + p.q, b.real.r + p.r, b.real.s + p.s⟩) (p.p * p.p + p.q * p.q) := rfl
                generalize underC m s _ = c at *
                generalize underL m s _ = l at *
                have c5 := extrude_px { b with real := ⟨b.real.p + p.p, b.real.q + p.q, b.real.r + p.r, b.real.s + p.s⟩ } c l p.s hLv hl u0 u1 u2
                obtain ⟨x1, x2, x3⟩ := ext_facts (b := { b with real := ⟨b.real.p + p.p, b.real.q + p.q, b.real.r + p.r, b.real.s + p.s⟩ }) (c := c) (l := l) (k := p.s) hLv hl
                generalize extB { b with real := ⟨b.real.p + p.p, b.real.q + p.q, b.real.r + p.r, b.real.s + p.s⟩ } c l p.s = E at *
                have hby : p.p * p.p = (if p.p = 0 then 0 else 1) ∧ p.q * p.q = (if p.q = 0 then 0 else 1) := by
                  constructor
                  · rcases (show p.p = -1 ∨ p.p = 0 ∨ p.p = 1 by omega) with h | h | h <;> simp [h]
                  · rcases (show p.q = -1 ∨ p.q = 0 ∨ p.q = 1 by omega) with h | h | h <;> simp [h]
                have m1 := wrap_i64 (n := p.p * p.p) (by rw [hby.1]; split <;> omega) (by rw [hby.1]; split <;> omega)
                have m2 := wrap_i64 (n := p.q * p.q) (by rw [hby.2]; split <;> omega) (by rw [hby.2]; split <;> omega)
                have m3 := wrap_i64 (n := p.p * p.p + p.q * p.q) (by rw [hby.1, hby.2]; split <;> split <;> omega) (by rw [hby.1, hby.2]; split <;> split <;> omega)
                clear hby
                have c6 := hit_px E c l (p.p * p.p + p.q * p.q) hlr (fun R hR => small_valid (x1 R hR)) x2 (by rw [x3]; exact u3)
                have hHl := hit_lays (b := E) (c := c) (l := l) (k := p.p * p.p + p.q * p.q)
                generalize hitF E c l (p.p * p.p + p.q * p.q) = H at *
                have c7 := sound_ok H (by rw [hHl]; omega)
                rw [hW] at hP
                clear hW hB
                generalize soundB H = sb at *
                refine awp_region_draw cx mixed [(9, .p (.tup [.agg c.row, .int .i64 l]))] fun K hK => ?_
                simp [push_cast, c4, Cell.row]
                repeat (refine And.intro (by clear hK; intros; first | omega | (simp_all; done) | (simp_all <;> omega)) ?_)
                refine hK _ _ (by kernel_rfl) ?_; clear hK K; refine Nav.imp ?_
                refine awp_region cx [] fun K hK => ?_
                simp [push_cast]
                repeat (refine And.intro (by clear hK; intros; first | omega | (simp_all; done) | (simp_all <;> omega)) ?_)
                refine hK _ ?_; clear hK K; refine Nav.imp ?_
                refine awp_region cx [(3, .x ⟨[(0, 7), (1, 8)], [.ptr 0 0 0, .d (.int .i64 p.s)], [(0, ⟨75, 25, [Bench.wav { b with real := ⟨b.real.p + p.p, b.real.q + p.q, b.real.r + p.r, b.real.s + p.s⟩ } c l (.hs 1 0 b.lays.length)]⟩), (1, ⟨56, 1, dr (b.lays.map regRow)⟩)], [(0, 0)], some 1, [(0, ⟨75, 25, [Bench.wav E c l (.hs 1 0 E.lays.length)]⟩), (1, ⟨56, 1, dr (E.lays.map regRow)⟩)], .tup []⟩)] fun K hK => ?_
                simp [push_cast, c5]
                repeat (refine And.intro (by clear hK; intros; first | omega | (simp_all; done) | (simp_all <;> omega)) ?_)
                refine hK _ ?_; clear hK K; refine Nav.imp ?_
                refine awp_region cx [(12, .x ⟨[(0, 7), (1, 38)], [.ptr 0 0 0, .d (.int .i64 (p.p * p.p + p.q * p.q))], [(0, ⟨75, 25, [Bench.wav E c l (.hs 1 0 E.lays.length)]⟩), (1, ⟨56, 1, dr (E.lays.map regRow)⟩)], [(0, 0)], some 1, [(0, ⟨75, 25, [Bench.wav H c l (.hs 1 0 H.lays.length)]⟩), (1, ⟨56, 1, dr (H.lays.map regRow)⟩)], .tup []⟩)] fun K hK => ?_
                simp [push_cast, c6, m1, m2, m3]
                repeat (refine And.intro (by clear hK; intros; first | omega | (simp_all; done) | (simp_all <;> omega)) ?_)
                refine hK _ ?_; clear hK K; refine Nav.imp ?_
                refine awp_freeze 51 (H.lays.map regRow) rfl (by simp [push_cast]) fun K hK => ?_
                simp [push_cast, St.fz, fzT, fzH, fzO, fz, fzL, fzR, fzR_dr, fzR_app, fzR_set, fzL_map]
                refine hK _ ?_; clear hK K; refine Nav.imp ?_
                cases sb with
                | false =>
                  simp at hP
                  rw [hP]
                  refine awp_region cx [(4, .p (.bool false))] fun K hK => ?_
                  simp [push_cast, c7]
                  repeat (refine And.intro (by clear hK; intros; first | omega | (simp_all; done) | (simp_all <;> omega)) ?_)
                  refine hK _ ?_; clear hK K; refine Nav.imp ?_
                  refine awp_cond (b := true) (by simp [push_cast]) (fun hb => ?_) (fun hb => ?_) <;> (refine Nav.imp ?_)
                  · refine awp_region cx [] fun K hK => ?_
                    simp [push_cast]
                    repeat (refine And.intro (by clear hK; intros; first | omega | (simp_all; done) | (simp_all <;> omega)) ?_)
                    refine hK _ ?_; clear hK K; refine Nav.imp ?_
                    simp [push_cast]
                  · simp at hb
                | true =>
                  simp at hP
                  rw [hP]
                  refine awp_region cx [(4, .p (.bool true))] fun K hK => ?_
                  simp [push_cast, c7]
                  repeat (refine And.intro (by clear hK; intros; first | omega | (simp_all; done) | (simp_all <;> omega)) ?_)
                  refine hK _ ?_; clear hK K; refine Nav.imp ?_
                  refine awp_cond (b := false) (by simp [push_cast]) (fun hb => ?_) (fun hb => ?_) <;> (refine Nav.imp ?_)
                  · simp at hb
                  · refine awp_region cx [] fun K hK => ?_
                    simp [push_cast]
                    repeat (refine And.intro (by clear hK; intros; first | omega | (simp_all; done) | (simp_all <;> omega)) ?_)
                    refine hK _ ?_; clear hK K; refine Nav.imp ?_
                    simp [push_cast]
end Go.Proofs.Ytoofimknammifaa

set_option linter.unusedVariables false
set_option linter.unusedSimpArgs false
set_option maxRecDepth 100000
namespace Go.Proofs.Ytoofimknammifaa
open Go.Abs

/-! What the laws are called with. -/
theorem own : ownKnob Try.prog.godebug = none := by kernel_rfl
theorem laidOut : laidOutB Try.prog = true := by kernel_rfl
def zeroCell : Value := .agg #[.int .i64 0, .int .i64 0]
def zeroReg : Value := .agg #[.slice none 0 0]
end Go.Proofs.Ytoofimknammifaa

set_option linter.unusedVariables false
set_option linter.unusedSimpArgs false
set_option maxRecDepth 100000
namespace Go.Proofs.Ytoofimknammifaa
open Go.Abs

/-! What the laws of layer 55 are called with. -/
theorem axis_of {f : Nat} {ds : List D} (h : hasT Try.prog (f + 2) 23 ds) : ∃ c : Ax, ds = c.row := by
  obtain ⟨hl, hp⟩ := hasT_struct (n := 7) (ts := [3, 3, 3, 3, 3, 3, 3]) Try.underlying23 (by kernel_rfl) rfl (by kernel_rfl) h
  obtain ⟨d0, r0, e0, h0, hp0⟩ := parts_one (by kernel_rfl) hp (by simp_all <;> omega)
  subst e0
  obtain ⟨d1, r1, e1, h1, hp1⟩ := parts_one (by kernel_rfl) hp0 (by simp_all <;> omega)
  subst e1
  obtain ⟨d2, r2, e2, h2, hp2⟩ := parts_one (by kernel_rfl) hp1 (by simp_all <;> omega)
  subst e2
  obtain ⟨d3, r3, e3, h3, hp3⟩ := parts_one (by kernel_rfl) hp2 (by simp_all <;> omega)
  subst e3
  obtain ⟨d4, r4, e4, h4, hp4⟩ := parts_one (by kernel_rfl) hp3 (by simp_all <;> omega)
  subst e4
  obtain ⟨d5, r5, e5, h5, hp5⟩ := parts_one (by kernel_rfl) hp4 (by simp_all <;> omega)
  subst e5
  obtain ⟨d6, r6, e6, h6, hp6⟩ := parts_one (by kernel_rfl) hp5 (by simp_all <;> omega)
  subst e6
  simp only [parts] at hp6
  subst hp6
  obtain ⟨n0, e0, w0⟩ := hasT_int Try.underlying3 h0
  cases e0
  obtain ⟨n1, e1, w1⟩ := hasT_int Try.underlying3 h1
  cases e1
  obtain ⟨n2, e2, w2⟩ := hasT_int Try.underlying3 h2
  cases e2
  obtain ⟨n3, e3, w3⟩ := hasT_int Try.underlying3 h3
  cases e3
  obtain ⟨n4, e4, w4⟩ := hasT_int Try.underlying3 h4
  cases e4
  obtain ⟨n5, e5, w5⟩ := hasT_int Try.underlying3 h5
  cases e5
  obtain ⟨n6, e6, w6⟩ := hasT_int Try.underlying3 h6
  cases e6
  exact ⟨⟨n0, n1, n2, n3, n4, n5, n6⟩, rfl⟩
theorem hasT_arr {P : Program} {f : Nat} {t : TypeId} {ds : List D} {n m : Nat} {e : TypeId} (hu : P.underlying t = some (.array n e)) (hm : P.cellsOf e = m) (h : hasT P (f + 1) t ds) : ds.length = n * m ∧ ∀ i < n, hasT P f e ((ds.drop (i * m)).take m) := by
  simp only [hasT, hu, hm] at h; exact h
theorem arg_mach {x : D} (h : hasV Try.prog 26 x) : ∃ m : Mach, x = .agg m.row := by
  simp only [hasV, Try.underlying26] at h
  obtain ⟨cs, rfl, h⟩ := h
  obtain ⟨hl, hp⟩ := hasT_struct (n := 30) (ts := [24, 4, 3]) Try.underlying26 (by kernel_rfl) rfl (by kernel_rfl) h
  simp only [parts, show Try.prog.cellsOf 24 = 28 by kernel_rfl, show Try.prog.cellsOf 4 = 1 by kernel_rfl, show Try.prog.cellsOf 3 = 1 by kernel_rfl] at hp
  obtain ⟨h1, h2, h3, h4⟩ := hp
  obtain ⟨_, ha⟩ := hasT_arr (m := 7) Try.underlying24 (by kernel_rfl) h1
  match cs, hl with
  | [d0, d1, d2, d3, d4, d5, d6, d7, d8, d9, d10, d11, d12, d13, d14, d15, d16, d17, d18, d19, d20, d21, d22, d23, d24, d25, d26, d27, d28, d29], _ =>
    simp only [List.take, List.drop] at h2 h3
    obtain ⟨v, hv⟩ := hasT_bool Try.underlying4 h2
    obtain ⟨w, hw, _⟩ := hasT_int Try.underlying3 h3
    have q0 := ha 0 (by omega)
    have q1 := ha 1 (by omega)
    have q2 := ha 2 (by omega)
    have q3 := ha 3 (by omega)
    simp only [Nat.zero_mul, Nat.one_mul, Nat.reduceMul, List.take, List.drop] at q0 q1 q2 q3
    obtain ⟨x0, e0⟩ := axis_of q0
    obtain ⟨x1, e1⟩ := axis_of q1
    obtain ⟨x2, e2⟩ := axis_of q2
    obtain ⟨x3, e3⟩ := axis_of q3
    simp only [Ax.row, List.cons.injEq, and_true] at e0 e1 e2 e3 hv hw
    refine ⟨⟨x0, x1, x2, x3, v, w⟩, ?_⟩
    simp [Mach.row, e0, e1, e2, e3, hv, hw]
theorem arg_sett {x : D} (h : hasV Try.prog 28 x) : ∃ s : Sett, x = .agg s.row := by
  simp only [hasV, Try.underlying28] at h
  obtain ⟨cs, rfl, h⟩ := h
  obtain ⟨hl, hp⟩ := hasT_struct (n := 20) (ts := [3, 3, 3, 3, 3, 3, 3, 4, 3, 3, 3, 3, 3, 3, 3, 3, 3, 3, 3, 3]) Try.underlying28 (by kernel_rfl) rfl (by kernel_rfl) h
  obtain ⟨d0, r0, e0, h0, hp0⟩ := parts_one (by kernel_rfl) hp (by simp_all <;> omega)
  subst e0
  obtain ⟨d1, r1, e1, h1, hp1⟩ := parts_one (by kernel_rfl) hp0 (by simp_all <;> omega)
  subst e1
  obtain ⟨d2, r2, e2, h2, hp2⟩ := parts_one (by kernel_rfl) hp1 (by simp_all <;> omega)
  subst e2
  obtain ⟨d3, r3, e3, h3, hp3⟩ := parts_one (by kernel_rfl) hp2 (by simp_all <;> omega)
  subst e3
  obtain ⟨d4, r4, e4, h4, hp4⟩ := parts_one (by kernel_rfl) hp3 (by simp_all <;> omega)
  subst e4
  obtain ⟨d5, r5, e5, h5, hp5⟩ := parts_one (by kernel_rfl) hp4 (by simp_all <;> omega)
  subst e5
  obtain ⟨d6, r6, e6, h6, hp6⟩ := parts_one (by kernel_rfl) hp5 (by simp_all <;> omega)
  subst e6
  obtain ⟨d7, r7, e7, h7, hp7⟩ := parts_one (by kernel_rfl) hp6 (by simp_all <;> omega)
  subst e7
  obtain ⟨d8, r8, e8, h8, hp8⟩ := parts_one (by kernel_rfl) hp7 (by simp_all <;> omega)
  subst e8
  obtain ⟨d9, r9, e9, h9, hp9⟩ := parts_one (by kernel_rfl) hp8 (by simp_all <;> omega)
  subst e9
  obtain ⟨d10, r10, e10, h10, hp10⟩ := parts_one (by kernel_rfl) hp9 (by simp_all <;> omega)
  subst e10
  obtain ⟨d11, r11, e11, h11, hp11⟩ := parts_one (by kernel_rfl) hp10 (by simp_all <;> omega)
  subst e11
  obtain ⟨d12, r12, e12, h12, hp12⟩ := parts_one (by kernel_rfl) hp11 (by simp_all <;> omega)
  subst e12
  obtain ⟨d13, r13, e13, h13, hp13⟩ := parts_one (by kernel_rfl) hp12 (by simp_all <;> omega)
  subst e13
  obtain ⟨d14, r14, e14, h14, hp14⟩ := parts_one (by kernel_rfl) hp13 (by simp_all <;> omega)
  subst e14
  obtain ⟨d15, r15, e15, h15, hp15⟩ := parts_one (by kernel_rfl) hp14 (by simp_all <;> omega)
  subst e15
  obtain ⟨d16, r16, e16, h16, hp16⟩ := parts_one (by kernel_rfl) hp15 (by simp_all <;> omega)
  subst e16
  obtain ⟨d17, r17, e17, h17, hp17⟩ := parts_one (by kernel_rfl) hp16 (by simp_all <;> omega)
  subst e17
  obtain ⟨d18, r18, e18, h18, hp18⟩ := parts_one (by kernel_rfl) hp17 (by simp_all <;> omega)
  subst e18
  obtain ⟨d19, r19, e19, h19, hp19⟩ := parts_one (by kernel_rfl) hp18 (by simp_all <;> omega)
  subst e19
  simp only [parts] at hp19
  subst hp19
  obtain ⟨n0, e0, w0⟩ := hasT_int Try.underlying3 h0
  cases e0
  obtain ⟨n1, e1, w1⟩ := hasT_int Try.underlying3 h1
  cases e1
  obtain ⟨n2, e2, w2⟩ := hasT_int Try.underlying3 h2
  cases e2
  obtain ⟨n3, e3, w3⟩ := hasT_int Try.underlying3 h3
  cases e3
  obtain ⟨n4, e4, w4⟩ := hasT_int Try.underlying3 h4
  cases e4
  obtain ⟨n5, e5, w5⟩ := hasT_int Try.underlying3 h5
  cases e5
  obtain ⟨n6, e6, w6⟩ := hasT_int Try.underlying3 h6
  cases e6
  obtain ⟨n7, e7⟩ := hasT_bool Try.underlying4 h7
  cases e7
  obtain ⟨n8, e8, w8⟩ := hasT_int Try.underlying3 h8
  cases e8
  obtain ⟨n9, e9, w9⟩ := hasT_int Try.underlying3 h9
  cases e9
  obtain ⟨n10, e10, w10⟩ := hasT_int Try.underlying3 h10
  cases e10
  obtain ⟨n11, e11, w11⟩ := hasT_int Try.underlying3 h11
  cases e11
  obtain ⟨n12, e12, w12⟩ := hasT_int Try.underlying3 h12
  cases e12
  obtain ⟨n13, e13, w13⟩ := hasT_int Try.underlying3 h13
  cases e13
  obtain ⟨n14, e14, w14⟩ := hasT_int Try.underlying3 h14
  cases e14
  obtain ⟨n15, e15, w15⟩ := hasT_int Try.underlying3 h15
  cases e15
  obtain ⟨n16, e16, w16⟩ := hasT_int Try.underlying3 h16
  cases e16
  obtain ⟨n17, e17, w17⟩ := hasT_int Try.underlying3 h17
  cases e17
  obtain ⟨n18, e18, w18⟩ := hasT_int Try.underlying3 h18
  cases e18
  obtain ⟨n19, e19, w19⟩ := hasT_int Try.underlying3 h19
  cases e19
  exact ⟨⟨n0, n1, n2, n3, n4, n5, n6, n7, n8, n9, n10, n11, n12, n13, n14, n15, n16, n17, n18, n19⟩, rfl⟩
theorem ints4_of {f : Nat} {ds : List D} (h : hasT Try.prog (f + 2) 29 ds) : ∃ x : Pos, ds = x.row := by
  obtain ⟨hl, ha⟩ := hasT_arr (m := 1) Try.underlying29 (by kernel_rfl) h
  match ds, hl with
  | [d0, d1, d2, d3], _ =>
    have q0 := ha 0 (by omega)
    have q1 := ha 1 (by omega)
    have q2 := ha 2 (by omega)
    have q3 := ha 3 (by omega)
    simp only [Nat.zero_mul, Nat.one_mul, Nat.reduceMul, List.take, List.drop] at q0 q1 q2 q3
    obtain ⟨x0, e0, _⟩ := hasT_int Try.underlying3 q0
    obtain ⟨x1, e1, _⟩ := hasT_int Try.underlying3 q1
    obtain ⟨x2, e2, _⟩ := hasT_int Try.underlying3 q2
    obtain ⟨x3, e3, _⟩ := hasT_int Try.underlying3 q3
    simp only [List.cons.injEq, and_true] at e0 e1 e2 e3
    exact ⟨⟨x0, x1, x2, x3⟩, by simp [e0, e1, e2, e3]⟩
theorem arg_pos {x : D} (h : hasV Try.prog 29 x) : ∃ p : Pos, x = .agg p.row := by
  simp only [hasV, Try.underlying29] at h
  obtain ⟨cs, rfl, h⟩ := h
  obtain ⟨s, rfl⟩ := ints4_of (f := 28) h
  exact ⟨s, rfl⟩
def zeroMach : Value := .agg #[.int .i64 0, .int .i64 0, .int .i64 0, .int .i64 0, .int .i64 0, .int .i64 0, .int .i64 0, .int .i64 0, .int .i64 0, .int .i64 0, .int .i64 0, .int .i64 0, .int .i64 0, .int .i64 0, .int .i64 0, .int .i64 0, .int .i64 0, .int .i64 0, .int .i64 0, .int .i64 0, .int .i64 0, .int .i64 0, .int .i64 0, .int .i64 0, .int .i64 0, .int .i64 0, .int .i64 0, .int .i64 0, .bool false, .int .i64 0]
def zeroSett : Value := .agg #[.int .i64 0, .int .i64 0, .int .i64 0, .int .i64 0, .int .i64 0, .int .i64 0, .int .i64 0, .bool false, .int .i64 0, .int .i64 0, .int .i64 0, .int .i64 0, .int .i64 0, .int .i64 0, .int .i64 0, .int .i64 0, .int .i64 0, .int .i64 0, .int .i64 0, .int .i64 0]
def zeroPos : Value := .agg #[.int .i64 0, .int .i64 0, .int .i64 0, .int .i64 0]
end Go.Proofs.Ytoofimknammifaa
