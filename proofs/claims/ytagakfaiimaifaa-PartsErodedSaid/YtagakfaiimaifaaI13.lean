/-
  Texts of this seat put together: A13, A14, A15, A16.
-/
import Derived.Test.YtagakfaiimaifaaI12
set_option linter.unusedVariables false
set_option linter.unusedSimpArgs false
set_option maxRecDepth 100000
namespace Go.Proofs.Ytagakfaiimaifaa
open Go.Abs Go.ChangeShapes Go.WideShapes Go.ChangeAt Go.RowKit

def ringR : List Row := [⟨0, [⟨0, 3⟩]⟩, ⟨1, [⟨0, 1⟩, ⟨2, 3⟩]⟩, ⟨2, [⟨0, 3⟩]⟩]
def ringH : List Row := [⟨1, [⟨1, 2⟩]⟩]
def ringF : List Row := [⟨0, [⟨0, 3⟩]⟩, ⟨1, [⟨0, 3⟩]⟩, ⟨2, [⟨0, 3⟩]⟩]
theorem ring_holes : holesR ringR = [ringH] := by
  unfold holesR
  rw [grpsC_eq]
  kernel_rfl
theorem ofR_back {R : List Row} (hv : validR R = true) : ofR (regCells R) = R := by
  have h : (regCells R).all onG = true := List.all_eq_true.2 fun c hc => cells_on hv hc
  have hs := sortY_cells hv (List.Perm.refl (regCells R))
  unfold ofR
  rw [if_pos h, hs]
  exact build_cells hv
theorem ring_comp : compR ringR = [ringR] := by
  have hv : validR ringR = true := by kernel_rfl
  have e : grpsC (cellsOf ringR) false = [regCells ringR] := by kernel_rfl
  unfold compR
  rw [grpsC_eq, e, List.map_cons, ofR_back hv]; rfl
theorem ring_fill : fillR ringR = ringF := by
  have hv : validR ringR = true := by kernel_rfl
  have hh : validR ringH = true := by kernel_rfl
  have hf : validR ringF = true := by kernel_rfl
  have h0 : validR (opR fU ringR []) = true := opR_val (f := fU) rfl _ _
  unfold fillR
  rw [if_pos hv, ring_holes]
  show opR fU (opR fU ringR []) ringH = ringF
  refine region_uniq (opR_val (f := fU) rfl _ _) hf fun c => ?_
  rw [opU_iff h0 hh, opU_iff hv rfl]
  have e1 : regCells ringR = [⟨0, 0⟩, ⟨1, 0⟩, ⟨2, 0⟩, ⟨0, 1⟩, ⟨2, 1⟩, ⟨0, 2⟩, ⟨1, 2⟩, ⟨2, 2⟩] := by kernel_rfl
  have e2 : regCells ringH = [⟨1, 1⟩] := by kernel_rfl
  have e3 : regCells ringF = [⟨0, 0⟩, ⟨1, 0⟩, ⟨2, 0⟩, ⟨0, 1⟩, ⟨1, 1⟩, ⟨2, 1⟩, ⟨0, 2⟩, ⟨1, 2⟩, ⟨2, 2⟩] := by kernel_rfl
  rw [e1, e2, e3]
  simp only [regCells, List.flatMap_nil, List.mem_cons, List.not_mem_nil, or_false]
  constructor
  · rintro ((h | h | h | h | h | h | h | h) | h) <;> simp [h]
  · rintro (h | h | h | h | h | h | h | h | h) <;> simp [h]
theorem ring_depth : depN ringF ⟨1, 1⟩ = 2 := by
  have h0 : inAllB ringF ⟨1, 1⟩ 0 = true := by kernel_rfl
  have h1 : inAllB ringF ⟨1, 1⟩ 1 = true := by kernel_rfl
  have h2 : inAllB ringF ⟨1, 1⟩ 2 = false := by kernel_rfl
  refine depN_of (fun j hj => ?_) h2
  have : j = 0 ∨ j = 1 := by omega
  rcases this with rfl | rfl
  · exact h0
  · exact h1
theorem ring_ok : PC Try.prog 37 [] (.p (.agg (regRow ringR))) := by
  refine pc_of_awp cx (fn := Try.f37) (c := _) Try.func37 rfl rfl (Nat.le_of_ble_eq_true rfl) ?_
  rw [Try.ntmps37]; refine Nav.imp ?_
  refine awp_region cx [] fun K hK => ?_
  simp [push_cast]
  repeat (refine And.intro (by clear hK; intros; first | omega | (simp_all; done) | (simp_all <;> omega)) ?_)
  refine hK _ ?_; clear hK K; refine Nav.imp ?_
  refine awp_region cx [(1, .f (encRuns [⟨0, 3⟩])), (5, .f (encRuns [⟨0, 1⟩, ⟨2, 3⟩])), (8, .f (encRuns [⟨0, 3⟩])), (10, .f (encRows ringR))] fun K hK => ?_
  simp [push_cast, ringR, Row.row, Run.row]
  repeat (refine And.intro (by clear hK; intros; first | omega | (simp_all; done) | (simp_all <;> omega)) ?_)
  refine hK _ ?_; clear hK K; refine Nav.imp ?_
  simp [push_cast, ringR]
set_option maxHeartbeats 4000000 in
theorem awake21_ok : PC Try.prog 13 [] (.p (.bool true)) := by
  have c0 := ring_ok
  have hs : smallR ringR := small_valid (by kernel_rfl)
  have hb : boxSm ringR := fun _ => by
    have e1 : highX ringR = 2 := by kernel_rfl
    have e2 : lowX ringR = 0 := by kernel_rfl
    have e3 : lstY ringR = 2 := by kernel_rfl
    have e4 : fstY ringR = 0 := by kernel_rfl
    omega
  have c1 := holes_ok ringR hs hb
  rw [ring_holes] at c1
  have c2 := components_ok ringR hs (by have := compact_cells hb; omega)
  rw [ring_comp] at c2
  have c3 := fill_ok ringR hs hb
  rw [ring_fill] at c3
  have c4 := depth_ok ringF ⟨1, 1⟩ (small_valid (by kernel_rfl))
  rw [ring_depth] at c4
  refine pc_of_awp cx (fn := Try.f13) (c := _) Try.func13 rfl rfl (Nat.le_of_ble_eq_true rfl) ?_
  rw [Try.ntmps13]; refine Nav.imp ?_
  refine awp_region cx [] fun K hK => ?_
  simp [push_cast]
  repeat (refine And.intro (by clear hK; intros; first | omega | (simp_all; done) | (simp_all <;> omega)) ?_)
  refine hK _ ?_; clear hK K; refine Nav.imp ?_
  refine awp_region cx [(0, .p (.agg (regRow ringR))), (1, .p (encRgs [ringH])), (2, .p (.agg (regRow ringR))), (3, .p (encRgs [ringR]))] fun K hK => ?_
  simp [push_cast, c0, c1, c2]
  repeat (refine And.intro (by clear hK; intros; first | omega | (simp_all; done) | (simp_all <;> omega)) ?_)
  refine hK _ ?_; clear hK K; refine Nav.imp ?_
  refine awp_region cx [(51, .p (.agg (regRow ringR))), (52, .p (.agg (regRow ringF))), (54, .p (.int .i64 2))] fun K hK => ?_
  simp [push_cast, c0, c3, c4, ringH, Row.row, Run.row, Cell.row]
  repeat (refine And.intro (by clear hK; intros; first | omega | (simp_all; done) | (simp_all <;> omega)) ?_)
  refine hK _ ?_; clear hK K; refine Nav.imp ?_
  simp [push_cast]

end Go.Proofs.Ytagakfaiimaifaa

set_option linter.unusedVariables false
set_option linter.unusedSimpArgs false
set_option maxRecDepth 100000
namespace Go.Proofs.Ytagakfaiimaifaa
open Go.Abs

/-! What the groups are to each other. -/
section
variable {l : List Cell} {adj : Cell → Cell → Bool}
theorem adjS {t : Bool} : ∀ x y, adjR t x y = true → adjR t y x = true := fun _ _ => adjR_symm
theorem conn_cls {h x : Cell} (hx : Conn l adj h x) : Conn (cls l adj h l) adj h x := by
  induction hx with
  | refl hm => exact .refl (mem_cls.2 ⟨hm, .refl hm⟩)
  | step hab hc ha ih => exact .step ih (mem_cls.2 ⟨hc, .step hab hc ha⟩) ha
/-- A connected list is one group. -/
theorem grps_one {c : Cell} {m : List Cell} (hall : ∀ x ∈ c :: m, Conn (c :: m) adj c x) : grps (c :: m) adj = [c :: m] := by
  have key : ∀ k, hdS (c :: m) adj (k + 1) = [c] := by
    intro k
    induction k with
    | zero =>
      rcases hdS_next (l := c :: m) (adj := adj) (k := 0) (c := c) rfl with ⟨⟨x, hx, _⟩, _⟩ | ⟨_, e⟩
      · simp [hdS] at hx
      · rw [e]; simp [hdS]
    | succ k ih =>
      cases hk : (c :: m)[k + 1]? with
      | none => simp only [hdS, hk] at ih ⊢; exact ih
      | some x =>
        rcases hdS_next (l := c :: m) (adj := adj) hk with ⟨_, e⟩ | ⟨q, e⟩
        · rw [e]; exact ih
        · exact absurd ⟨c, by rw [ih]; simp, hall x (List.mem_of_getElem? hk)⟩ q
  unfold grps
  rw [show (c :: m).length = m.length + 1 from rfl, key, List.map_cons, List.map_nil]
  congr 1
  unfold cls
  rw [List.filter_eq_self]
  intro x hx
  simpa using hall x hx
theorem grps_mem {g : List Cell} (hg : g ∈ grps l adj) : ∃ h ∈ l, Conn l adj h h ∧ g = cls l adj h l ∧ h ∈ g := by
  obtain ⟨h, hh, rfl⟩ := List.mem_map.1 hg
  have hl := hdS_in hh
  exact ⟨h, hl, .refl hl, rfl, mem_cls.2 ⟨hl, .refl hl⟩⟩
theorem grps_self (hsym : ∀ x y, adj x y = true → adj y x = true) {g : List Cell} (hg : g ∈ grps l adj) : grps g adj = [g] ∧ g ≠ [] := by
  obtain ⟨h, hl, hc, rfl, hm⟩ := grps_mem hg
  have hall : ∀ x ∈ cls l adj h l, ∀ y ∈ cls l adj h l, Conn (cls l adj h l) adj x y := fun x hx y hy => by
    have h1 := conn_cls (mem_cls.1 hx).2
    have h2 := conn_cls (mem_cls.1 hy).2
    exact (h1.symm hsym).trans h2
  generalize cls l adj h l = g at *
  cases g with
  | nil => simp at hm
  | cons c m => exact ⟨grps_one fun x hx => hall c (by simp) x hx, by simp⟩
theorem grps_apart (hsym : ∀ x y, adj x y = true → adj y x = true) {i j : Nat} {g g' : List Cell} (hi : (grps l adj)[i]? = some g) (hj : (grps l adj)[j]? = some g') (hne : i ≠ j) {x y : Cell} (hx : x ∈ g) (hy : y ∈ g') : ¬ Conn l adj x y := by
  intro hc
  simp only [grps, List.getElem?_map, Option.map_eq_some_iff] at hi hj
  obtain ⟨a, ha, rfl⟩ := hi
  obtain ⟨b, hb, rfl⟩ := hj
  have h1 := (mem_cls.1 hx).2
  have h2 := (mem_cls.1 hy).2
  exact hne (hdS_one hsym ha hb (h1.trans hc) h2)
theorem grps_cover {x : Cell} (hx : x ∈ l) : ∃ g ∈ grps l adj, x ∈ g := by
  obtain ⟨h, hh, hc⟩ := hdS_cover (adj := adj) l.length (Nat.le_refl _) x (by rw [List.take_length]; exact hx)
  exact ⟨_, List.mem_map.2 ⟨h, hh, rfl⟩, mem_cls.2 ⟨hx, hc⟩⟩
end
theorem ofR_mem {g : List Cell} (hp : g.Pairwise ltY) (hon : ∀ c ∈ g, onG c = true) : validR (ofR g) = true ∧ regCells (ofR g) = g := by
  obtain ⟨h1, h2, _⟩ := of_set (ltY_nodup hp) hon
  exact ⟨h1, ltY_uniq (cells_pw h1) hp h2⟩
theorem comp_get {R : List Row} (hv : validR R = true) {i : Nat} {P : List Row} (h : (compR R)[i]? = some P) : ∃ g, (grps (regCells R) (adjR false))[i]? = some g ∧ P = ofR g ∧ validR P = true ∧ regCells P = g := by
  have hcl : cellsOf R = regCells R := by unfold cellsOf; rw [if_pos hv]
  unfold compR at h
  rw [hcl, List.getElem?_map, Option.map_eq_some_iff] at h
  obtain ⟨g, hg, rfl⟩ := h
  have hgm := List.mem_of_getElem? hg
  have hsub : ∀ c ∈ g, onG c = true := fun c hc => by
    obtain ⟨_, _, _, rfl, _⟩ := grps_mem hgm
    exact cells_on hv (mem_cls.1 hc).1
  obtain ⟨h1, h2⟩ := ofR_mem (grps_pw (cells_pw hv) hgm) hsub
  exact ⟨g, hg, rfl, h1, h2⟩
theorem comp_one {R : List Row} (hv : validR R = true) {i : Nat} {P : List Row} (h : (compR R)[i]? = some P) : compR P = [P] ∧ P ≠ [] := by
  obtain ⟨g, hg, rfl, h1, h2⟩ := comp_get hv h
  obtain ⟨h3, h4⟩ := grps_self adjS (List.mem_of_getElem? hg)
  refine ⟨?_, fun e => ?_⟩
  · unfold compR cellsOf
    rw [if_pos h1, h2, h3]; rfl
  · rw [e] at h2; exact h4 (by rw [← h2]; rfl)
theorem comp_apart {R : List Row} (hv : validR R = true) {i j : Nat} {P Q : List Row} (hi : (compR R)[i]? = some P) (hj : (compR R)[j]? = some Q) (hne : i ≠ j) : opR fI P Q = [] ∧ ∀ c ∈ regCells P, ∀ d, adjR false c d = true → d ∉ regCells Q := by
  obtain ⟨g, hg, _, h1, h2⟩ := comp_get hv hi
  obtain ⟨g', hg', _, h3, h4⟩ := comp_get hv hj
  have hno := fun (c d : Cell) (hc : c ∈ regCells P) (hd : d ∈ regCells Q) => grps_apart (adj := adjR false) adjS hg hg' hne (x := c) (y := d) (h2 ▸ hc) (h4 ▸ hd)
  have hin : ∀ c ∈ regCells P, c ∈ regCells R := fun c hc => by
    rw [h2] at hc
    obtain ⟨_, _, _, rfl, _⟩ := grps_mem (List.mem_of_getElem? hg)
    exact (mem_cls.1 hc).1
  have hin' : ∀ c ∈ regCells Q, c ∈ regCells R := fun c hc => by
    rw [h4] at hc
    obtain ⟨_, _, _, rfl, _⟩ := grps_mem (List.mem_of_getElem? hg')
    exact (mem_cls.1 hc).1
  refine ⟨valid_empty (opR_val (f := fI) rfl _ _) fun c hc => ?_, fun c hc d ha hd => hno c d hc hd (.step (.refl (hin c hc)) (hin' d hd) ha)⟩
  rw [opI_iff h1 h3] at hc
  exact hno c c hc.1 hc.2 (.refl (hin c hc.1))
theorem fold_union : ∀ (L : List (List Row)) (F : List Row), (∀ P ∈ L, validR P = true) → validR F = true → validR (L.foldl (opR fU) F) = true ∧ ∀ c, c ∈ regCells (L.foldl (opR fU) F) ↔ c ∈ regCells F ∨ ∃ P ∈ L, c ∈ regCells P
  | [], F, _, hF => ⟨hF, fun c => by simp⟩
  | P :: L, F, hL, hF => by
    have hP := hL P (by simp)
    obtain ⟨h1, h2⟩ := fold_union L (opR fU F P) (fun Q hQ => hL Q (by simp [hQ])) (opR_val (f := fU) rfl _ _)
    refine ⟨h1, fun c => ?_⟩
    rw [List.foldl_cons, h2, opU_iff hF hP]
    simp only [List.mem_cons, exists_eq_or_imp, or_assoc]
theorem comp_union {R : List Row} (hv : validR R = true) : (compR R).foldl (opR fU) [] = R := by
  obtain ⟨h1, h2⟩ := fold_union (compR R) [] (fun P hP => comp_valid P hP) rfl
  refine region_uniq h1 hv fun c => ?_
  rw [h2]
  constructor
  · rintro (h | ⟨P, hP, h⟩)
    · simp [regCells] at h
    · obtain ⟨i, hi⟩ := List.mem_iff_getElem?.1 hP
      obtain ⟨g, hg, _, _, h4⟩ := comp_get hv hi
      rw [h4] at h
      obtain ⟨_, _, _, rfl, _⟩ := grps_mem (List.mem_of_getElem? hg)
      exact (mem_cls.1 h).1
  · intro h
    right
    obtain ⟨g, hg, hm⟩ := grps_cover (adj := adjR false) h
    obtain ⟨i, hi⟩ := List.mem_iff_getElem?.1 hg
    have hcl : cellsOf R = regCells R := by unfold cellsOf; rw [if_pos hv]
    have hci : (compR R)[i]? = some (ofR g) := by unfold compR; rw [hcl, List.getElem?_map, hi]; rfl
    obtain ⟨g', hg', _, _, h4⟩ := comp_get hv hci
    rw [hi] at hg'
    cases hg'
    exact ⟨ofR g, List.mem_of_getElem? hci, by rw [h4]; exact hm⟩

/-! Depth and erosion. -/
theorem inAll_mono {R : List Row} {c : Cell} {j k : Nat} (h : j ≤ k) (hk : inAllB R c k = true) : inAllB R c j = true := by
  rw [inAllB_iff] at hk ⊢
  intro x y h1 h2 h3 h4
  exact hk x y (by omega) (by omega) (by omega) (by omega)
theorem dep_ero {R : List Row} (hv : validR R = true) (c : Cell) {n : Nat} (hn : n ≤ 64) : decide (n < depN R c) = conB (eroR R n) c := by
  have hq : reachB R n = true := by simp [reachB, hv]; omega
  obtain ⟨h1, h2⟩ := ero_facts hq
  rw [conB_mem h1, Bool.eq_iff_iff, decide_eq_true_eq, decide_eq_true_eq, h2, Int.toNat_natCast]
  obtain ⟨s1, s2⟩ := depN_spec R c
  have e : inAllB R c n = true ↔ aroundC R n c := by
    rw [inAllB_iff]
    constructor
    · intro h dx dy q1 q2 q3 q4
      have := h (c.x + dx) (c.y + dy) (by omega) (by omega) (by omega) (by omega)
      rw [conB_mem hv, decide_eq_true_eq] at this
      exact this
    · intro h x y q1 q2 q3 q4
      have := h (x - c.x) (y - c.y) (by omega) (by omega) (by omega) (by omega)
      rw [show c.x + (x - c.x) = x by omega, show c.y + (y - c.y) = y by omega] at this
      rw [conB_mem hv, decide_eq_true_eq]
      exact this
  rw [← e]
  constructor
  · exact fun h => s1 n h
  · intro h
    apply Nat.lt_of_not_le
    intro hle
    rw [inAll_mono hle h] at s2; cases s2
end Go.Proofs.Ytagakfaiimaifaa

set_option linter.unusedVariables false
set_option linter.unusedSimpArgs false
set_option maxRecDepth 100000
namespace Go.Proofs.Ytagakfaiimaifaa
open Go.Abs Go.ChangeShapes Go.WideShapes Go.ChangeAt Go.RowKit

set_option maxHeartbeats 4000000 in
theorem near_no (a b : List Row) (ha : validR a = true) (hb0 : validR b = true) (hl : (regCells a).length ≤ 100000) (hno : ∀ c ∈ regCells a, ∀ d, adjR false c d = true → d ∉ regCells b) : PC Try.prog 25 [.agg (regRow a), .agg (regRow b)] (.p (.bool false)) := by
  have hcl : cellsOf a = regCells a := by unfold cellsOf; rw [if_pos ha]
  have c1 := rcells_ok a (small_valid ha) (fun _ => by omega)
  rw [hcl] at c1
  have hcb : ∀ c ∈ regCells a, smC c := fun c hc => by
    have := cell_bd ha hc
    unfold smC; omega
  have hcon : ∀ c ∈ regCells a, ∀ d, adjR false c d = true → PC Try.prog 40 [.agg (regRow b), .agg d.row] (.p (.bool false)) := fun c hc d ha => by
    have := contains18_ok b d (small_valid hb0)
    rwa [conB_mem hb0, decide_eq_false (hno c hc d ha)] at this
  generalize regCells a = l at *
  refine pc_of_awp cx (fn := Try.f25) (c := _) Try.func25 rfl rfl (Nat.le_of_ble_eq_true rfl) ?_
  rw [Try.ntmps25]; refine Nav.imp ?_
  refine awp_region cx [] fun K hK => ?_
  simp [push_cast]
  repeat (refine And.intro (by clear hK; intros; first | omega | (simp_all; done) | (simp_all <;> omega)) ?_)
  refine hK _ ?_; clear hK K; refine Nav.imp ?_
  refine awp_region cx [(1, .p (encCells l))] fun K hK => ?_
  simp [push_cast, c1]
  repeat (refine And.intro (by clear hK; intros; first | omega | (simp_all; done) | (simp_all <;> omega)) ?_)
  refine hK _ ?_; clear hK K; refine Nav.imp ?_
  refine awp_region cx [] fun K hK => ?_
  simp [push_cast]
  repeat (refine And.intro (by clear hK; intros; first | omega | (simp_all; done) | (simp_all <;> omega)) ?_)
  refine hK _ ?_; clear hK K; refine Nav.imp ?_
  refine awp_loop (β := Nat) (fun k => ⟨57, [(3, .ptr 0 0 0), (5, .d (encCells l)), (6, .d (.int .i64 k))], [(0, some ⟨24, 1, [(regRow b).map .d]⟩)], 1⟩) (fun k => k ≤ l.length) (fun k => l.length - k) 0 ?_ (Nat.zero_le _) ?_
  · refine weak_of [(0, some 1)] rfl (by simp [upT, up, upL, push_cast]) (by simp [upH, upR, upL, up, push_cast]) (by simp [namesOk, push_cast]) (by simp [olds])
  · rintro k hk
    refine Nav.imp ?_
    refine awp_region cx [] fun K hK => ?_
    simp [push_cast]
    repeat (refine And.intro (by clear hK; intros; first | omega | (simp_all; done) | (simp_all <;> omega)) ?_)
    refine hK _ ?_; clear hK K; refine Nav.imp ?_
    refine awp_cond (b := decide ((k : Int) < l.length)) (by simp [push_cast]) (fun hb => ?_) (fun hb => ?_) <;> (refine Nav.imp ?_)
    · have hlt : k < l.length := by simpa using hb
      obtain ⟨c, hc⟩ := getq hlt
      have e0 := wrap_i64 (n := (k : Int) + 1) (by omega) (by omega)
      have hcm := List.mem_of_getElem? hc
      have hcs := hcb c hcm
      unfold smC at hcs
      obtain ⟨x, y⟩ := c
      simp only at hcs
      have w1 := wrap_i64 (n := x + 1) (by omega) (by omega)
      have w2 := wrap_i64 (n := x - 1) (by omega) (by omega)
      have w3 := wrap_i64 (n := y + 1) (by omega) (by omega)
      have w4 := wrap_i64 (n := y - 1) (by omega) (by omega)
      have d1 := hcon _ hcm ⟨x + 1, y⟩ (by simp [adjR]; omega)
      have d2 := hcon _ hcm ⟨x - 1, y⟩ (by simp [adjR]; omega)
      have d3 := hcon _ hcm ⟨x, y + 1⟩ (by simp [adjR]; omega)
      have d4 := hcon _ hcm ⟨x, y - 1⟩ (by simp [adjR]; omega)
      refine awp_region_draw cx mixed [] fun K hK => ?_
      simp [push_cast, hc, Cell.row]
      repeat (refine And.intro (by clear hK; intros; first | omega | (simp_all; done) | (simp_all <;> omega)) ?_)
      refine hK _ _ (by kernel_rfl) ?_; clear hK K; refine Nav.imp ?_
      refine awp_region cx [(5, .p (.bool false)), (12, .p (.bool false)), (20, .p (.bool false)), (28, .p (.bool false))] fun K hK => ?_
      simp [push_cast, d1, d2, d3, d4, w1, w2, w3, w4, Cell.row]
      repeat (refine And.intro (by clear hK; intros; first | omega | (simp_all; done) | (simp_all <;> omega)) ?_)
      refine hK _ ?_; clear hK K; refine Nav.imp ?_
      refine awp_cond (b := false) (by simp [push_cast]) (fun hb => ?_) (fun hb => ?_) <;> (refine Nav.imp ?_)
      · simp at hb
      · refine awp_region cx [] fun K hK => ?_
        simp [push_cast, e0]
        repeat (refine And.intro (by clear hK; intros; first | omega | (simp_all; done) | (simp_all <;> omega)) ?_)
        refine hK _ ?_; clear hK K; refine Nav.imp ?_
        refine ⟨k + 1, hlt, by omega, ?_⟩
        refine weak_of [(0, some 0)] rfl (by simp [upT, up, upL, push_cast]) (by simp [upH, upR, upL, up, push_cast]) (by simp [namesOk, push_cast]) (by simp [olds])
    · refine awp_region cx [] fun K hK => ?_
      simp [push_cast]
      repeat (refine And.intro (by clear hK; intros; first | omega | (simp_all; done) | (simp_all <;> omega)) ?_)
      refine hK _ ?_; clear hK K; refine Nav.imp ?_
      simp [push_cast]

set_option maxHeartbeats 16000000 in
theorem ldivide_ok (R : List Row) : PC Try.prog 6 [.agg (regRow R)] (.p (.bool true)) := by
  have c0 := awake21_ok
  have c1 := compact_ok R
  cases hc : compactB R with
  | false =>
    rw [hc] at c1
    refine pc_of_awp cx (fn := Try.f6) (c := _) Try.func6 rfl rfl (Nat.le_of_ble_eq_true rfl) ?_
    rw [Try.ntmps6]; refine Nav.imp ?_
    refine awp_region cx [] fun K hK => ?_
    simp [push_cast]
    repeat (refine And.intro (by clear hK; intros; first | omega | (simp_all; done) | (simp_all <;> omega)) ?_)
    refine hK _ ?_; clear hK K; refine Nav.imp ?_
    refine awp_region cx [(1, .p (.bool false)), (5, .skip)] fun K hK => ?_
    simp [push_cast, c1]
    repeat (refine And.intro (by clear hK; intros; first | omega | (simp_all; done) | (simp_all <;> omega)) ?_)
    refine hK _ ?_; clear hK K; refine Nav.imp ?_
    refine awp_cond (b := true) (by simp [push_cast]) (fun hb => ?_) (fun hb => ?_) <;> (refine Nav.imp ?_)
    · refine awp_region cx [(0, .p (.bool true))] fun K hK => ?_
      simp [push_cast, c0]
      repeat (refine And.intro (by clear hK; intros; first | omega | (simp_all; done) | (simp_all <;> omega)) ?_)
      refine hK _ ?_; clear hK K; refine Nav.imp ?_
      simp [push_cast]
    · simp at hb
  | true =>
    rw [hc] at c1
    obtain ⟨hs, hbx, _, _⟩ := compact_facts hc
    have hn := compact_cells hbx
    have c2 := validR_ok R hs
    cases hv : validR R with
    | false =>
      rw [hv] at c2
      refine pc_of_awp cx (fn := Try.f6) (c := _) Try.func6 rfl rfl (Nat.le_of_ble_eq_true rfl) ?_
      rw [Try.ntmps6]; refine Nav.imp ?_
      refine awp_region cx [] fun K hK => ?_
      simp [push_cast]
      repeat (refine And.intro (by clear hK; intros; first | omega | (simp_all; done) | (simp_all <;> omega)) ?_)
      refine hK _ ?_; clear hK K; refine Nav.imp ?_
      refine awp_region cx [(1, .p (.bool true)), (5, .p (.bool false))] fun K hK => ?_
      simp [push_cast, c1, c2]
      repeat (refine And.intro (by clear hK; intros; first | omega | (simp_all; done) | (simp_all <;> omega)) ?_)
      refine hK _ ?_; clear hK K; refine Nav.imp ?_
      refine awp_cond (b := true) (by simp [push_cast]) (fun hb => ?_) (fun hb => ?_) <;> (refine Nav.imp ?_)
      · refine awp_region cx [(0, .p (.bool true))] fun K hK => ?_
        simp [push_cast, c0]
        repeat (refine And.intro (by clear hK; intros; first | omega | (simp_all; done) | (simp_all <;> omega)) ?_)
        refine hK _ ?_; clear hK K; refine Nav.imp ?_
        simp [push_cast]
      · simp at hb
    | true =>
      rw [hv] at c2
      have hcl : cellsOf R = regCells R := by unfold cellsOf; rw [if_pos hv]
      have c3 := components_ok R hs (by omega)
      have hLl : (compR R).length ≤ 900 := by
        have := (grps_len (cellsOf R) (adjR false)).1
        simp only [compR, List.length_map]; omega
      have hLv := @comp_valid R
      have hone := fun i P (h : (compR R)[i]? = some P) => comp_one hv h
      have hapart := fun i j P Q (h1 : (compR R)[i]? = some P) (h2 : (compR R)[j]? = some Q) => comp_apart hv h1 h2
      have hPc := fun i P (h : (compR R)[i]? = some P) => components_ok P (small_valid (hLv P (List.mem_of_getElem? h))) (by
        have hPv := hLv P (List.mem_of_getElem? h)
        unfold cellsOf
        rw [if_pos hPv]
        obtain ⟨g, hg, _, _, h4⟩ := comp_get hv h
        have h5 : g.length ≤ (regCells R).length := (grps_len _ _).2 g (List.mem_of_getElem? hg)
        rw [h4]
        rw [hcl] at hn
        omega)
      have hPl := fun i P (h : (compR R)[i]? = some P) => show (regCells P).length ≤ 100000 by
        obtain ⟨g, hg, _, _, h4⟩ := comp_get hv h
        have h5 : g.length ≤ (regCells R).length := (grps_len _ _).2 g (List.mem_of_getElem? hg)
        rw [h4]
        rw [hcl] at hn
        omega
      have hun : (compR R).foldl (opR fU) [] = R := comp_union hv
      generalize compR R = L at *
      obtain ⟨L', hL1, hL2, hL3, hL4⟩ : ∃ L' : List (List Row), (60 < L.length → L' = L.take 60) ∧ (L.length ≤ 60 → L' = L) ∧ (∀ i P, L'[i]? = some P → L[i]? = some P) ∧ L'.length ≤ 900 := by
        by_cases q : 60 < L.length
        · refine ⟨L.take 60, fun _ => rfl, fun h => by omega, fun i P h => ?_, by rw [List.length_take]; omega⟩
          rw [List.getElem?_take] at h
          split at h
          · exact h
          · cases h
        · exact ⟨L, fun h => by omega, fun _ => rfl, fun _ _ h => h, by omega⟩
      have hsv : ∀ i P, L[i]? = some P → validR P = true := fun i P h => hLv P (List.mem_of_getElem? h)
      refine pc_of_awp cx (fn := Try.f6) (c := _) Try.func6 rfl rfl (Nat.le_of_ble_eq_true rfl) ?_
      rw [Try.ntmps6]; refine Nav.imp ?_
      refine awp_region cx [] fun K hK => ?_
      simp [push_cast]
      repeat (refine And.intro (by clear hK; intros; first | omega | (simp_all; done) | (simp_all <;> omega)) ?_)
      refine hK _ ?_; clear hK K; refine Nav.imp ?_
      refine awp_region cx [(1, .p (.bool true)), (5, .p (.bool true))] fun K hK => ?_
      simp [push_cast, c1, c2]
      repeat (refine And.intro (by clear hK; intros; first | omega | (simp_all; done) | (simp_all <;> omega)) ?_)
      refine hK _ ?_; clear hK K; refine Nav.imp ?_
      refine awp_cond (b := false) (by simp [push_cast]) (fun hb => ?_) (fun hb => ?_) <;> (refine Nav.imp ?_)
      · simp at hb
      · refine awp_region cx [(1, .p (encRgs L))] fun K hK => ?_
        simp [push_cast, c3]
        repeat (refine And.intro (by clear hK; intros; first | omega | (simp_all; done) | (simp_all <;> omega)) ?_)
        refine hK _ ?_; clear hK K; refine Nav.imp ?_
        refine awp_region cx [] fun K hK => ?_
        simp [push_cast]
        repeat (refine And.intro (by clear hK; intros; first | omega | (simp_all; done) | (simp_all <;> omega)) ?_)
        refine hK _ ?_; clear hK K; refine Nav.imp ?_
        apply cut_
        · intro key
          by_cases q : 60 < L.length
          · have q1 : (60 : Int) < (L.length : Int) := by omega
            have q2 : (60 : Int) ≤ (L.length : Int) := by omega
            have hL1 := hL1 q
            refine awp_cond (b := true) (by simp [push_cast, q, q1]) (fun hb => ?_) (fun hb => ?_) <;> (refine Nav.imp ?_)
            · refine awp_region cx [] fun K hK => ?_
              simp [push_cast, q2]
              repeat (refine And.intro (by clear hK; intros; first | omega | (simp_all; done) | (simp_all <;> omega)) ?_)
              refine hK _ ?_; clear hK K; refine Nav.imp ?_
              refine awp_region cx [] fun K hK => ?_
              simp [push_cast]
              repeat (refine And.intro (by clear hK; intros; first | omega | (simp_all; done) | (simp_all <;> omega)) ?_)
              refine hK _ ?_; clear hK K; refine Nav.imp ?_
              refine awp_loop (β := Nat) (fun i => ⟨103, [(1, .ptr 0 0 0), (3, .d (encRgs L')), (6, .d (.int .i64 i))], [(0, some ⟨24, 1, [(regRow R).map .d]⟩)], 1⟩) (fun i => i ≤ L'.length) (fun i => L'.length - i) 0 ?_ (Nat.zero_le _) key.h
              refine weak_of [(0, some 0)] rfl (by simp [upT, up, upL, push_cast, hL1]) (by simp [upH, upR, upL, up, push_cast, hL1]) (by simp [namesOk, push_cast]) (by simp [olds])
            · simp at hb
          · have q1 : ¬ (60 : Int) < (L.length : Int) := by omega
            have hL2 := hL2 (by omega)
            refine awp_cond (b := false) (by simp [push_cast, q, q1]) (fun hb => ?_) (fun hb => ?_) <;> (refine Nav.imp ?_)
            · simp at hb
            · refine awp_region cx [] fun K hK => ?_
              simp [push_cast]
              repeat (refine And.intro (by clear hK; intros; first | omega | (simp_all; done) | (simp_all <;> omega)) ?_)
              refine hK _ ?_; clear hK K; refine Nav.imp ?_
              refine awp_den 16 rfl (by rfl) fun K hK => ?_
              simp [push_cast, den]
              refine hK _ ?_; clear hK K; refine Nav.imp ?_
              refine awp_region cx [] fun K hK => ?_
              simp [push_cast]
              repeat (refine And.intro (by clear hK; intros; first | omega | (simp_all; done) | (simp_all <;> omega)) ?_)
              refine hK _ ?_; clear hK K; refine Nav.imp ?_
              refine awp_loop (β := Nat × List Row) (fun s => ⟨103, [(1, .ptr 0 0 0), (3, .d (encRgs L)), (4, .ptr 1 0 0), (5, .d (.int .i64 s.1))], [(0, some ⟨24, 1, [(regRow R).map .d]⟩), (1, some ⟨24, 1, [(regRow s.2).map .d]⟩)], 2⟩) (fun s => s.1 ≤ L.length ∧ s.2 = (L.take s.1).foldl (opR fU) [] ∧ validR s.2 = true) (fun s => L.length - s.1) (0, []) ?_ ⟨Nat.zero_le _, rfl, rfl⟩ ?_
              · refine weak_of [(0, some 0), (1, some 16)] rfl (by simp [upT, up, upL, push_cast]) (by simp [upH, upR, upL, up, push_cast]) (by simp [namesOk, push_cast]) (by simp [olds])
              · rintro ⟨i, F⟩ ⟨hi, hF, hFv⟩
                simp only at hi hF hFv
                refine Nav.imp ?_
                refine awp_region cx [] fun K hK => ?_
                simp [push_cast]
                repeat (refine And.intro (by clear hK; intros; first | omega | (simp_all; done) | (simp_all <;> omega)) ?_)
                refine hK _ ?_; clear hK K; refine Nav.imp ?_
                refine awp_cond (b := decide ((i : Int) < L.length)) (by simp [push_cast]) (fun hb => ?_) (fun hb => ?_) <;> (refine Nav.imp ?_)
                · have hlt : i < L.length := by simpa using hb
                  obtain ⟨P, hP⟩ := getq hlt
                  have e0 := wrap_i64 (n := (i : Int) + 1) (by omega) (by omega)
                  have c4 := unionR_ok F P (small_valid hFv) (small_valid (hsv i P hP))
                  have hnx : (L.take (i + 1)).foldl (opR fU) [] = opR fU F P := by rw [take_get hP, List.foldl_append, ← hF]; rfl
                  have hYv := opR_val (f := fU) rfl F P
                  generalize opR fU F P = Y at *
                  refine awp_region_draw cx mixed [(5, .p (.agg (regRow Y)))] fun K hK => ?_
                  simp [push_cast, hP, c4]
                  repeat (refine And.intro (by clear hK; intros; first | omega | (simp_all; done) | (simp_all <;> omega)) ?_)
                  refine hK _ _ (by kernel_rfl) ?_; clear hK K; refine Nav.imp ?_
                  refine awp_region cx [] fun K hK => ?_
                  simp [push_cast, e0]
                  repeat (refine And.intro (by clear hK; intros; first | omega | (simp_all; done) | (simp_all <;> omega)) ?_)
                  refine hK _ ?_; clear hK K; refine Nav.imp ?_
                  refine ⟨(i + 1, Y), ⟨hlt, hnx.symm, hYv⟩, by show L.length - (i + 1) < L.length - i; omega, ?_⟩
                  refine weak_of [(0, some 0), (1, some 1)] rfl (by simp [upT, up, upL, push_cast]) (by simp [upH, upR, upL, up, push_cast]) (by simp [namesOk, push_cast]) (by simp [olds])
                · have hie : i = L.length := by simp at hb; omega
                  subst hie
                  rw [List.take_length, hun] at hF
                  subst hF
                  have c5 := rsame_ok F F (small_valid hFv)
                  rw [decide_eq_true rfl] at c5
                  refine awp_region cx [(2, .p (.bool true))] fun K hK => ?_
                  simp [push_cast, c5]
                  repeat (refine And.intro (by clear hK; intros; first | omega | (simp_all; done) | (simp_all <;> omega)) ?_)
                  refine hK _ ?_; clear hK K; refine Nav.imp ?_
                  refine awp_cond (b := false) (by simp [push_cast]) (fun hb => ?_) (fun hb => ?_) <;> (refine Nav.imp ?_)
                  · simp at hb
                  · refine awp_region cx [] fun K hK => ?_
                    simp [push_cast]
                    repeat (refine And.intro (by clear hK; intros; first | omega | (simp_all; done) | (simp_all <;> omega)) ?_)
                    refine hK _ ?_; clear hK K; refine Nav.imp ?_
                    refine awp_loop (β := Nat) (fun i => ⟨103, [(1, .ptr 0 0 0), (3, .d (encRgs L')), (6, .d (.int .i64 i))], [(0, some ⟨24, 1, [(regRow F).map .d]⟩)], 1⟩) (fun i => i ≤ L'.length) (fun i => L'.length - i) 0 ?_ (Nat.zero_le _) key.h
                    refine weak_of [(0, some 0)] rfl (by simp [upT, up, upL, push_cast, hL2]) (by simp [upH, upR, upL, up, push_cast, hL2]) (by simp [namesOk, push_cast]) (by simp [olds])
        · rintro i hi
          refine Nav.imp ?_
          refine awp_region cx [] fun K hK => ?_
          simp [push_cast]
          repeat (refine And.intro (by clear hK; intros; first | omega | (simp_all; done) | (simp_all <;> omega)) ?_)
          refine hK _ ?_; clear hK K; refine Nav.imp ?_
          refine awp_cond (b := decide ((i : Int) < L'.length)) (by simp [push_cast]) (fun hb => ?_) (fun hb => ?_) <;> (refine Nav.imp ?_)
          · have hlt : i < L'.length := by simpa using hb
            obtain ⟨P, hP⟩ := getq hlt
            have e0 := wrap_i64 (n := (i : Int) + 1) (by omega) (by omega)
            have hPL := hL3 i P hP
            obtain ⟨o1, o2⟩ := hone i P hPL
            have c4 := hPc i P hPL
            rw [o1] at c4
            have hPv := hsv i P hPL
            have c5 := rsame_ok P P (small_valid hPv)
            rw [decide_eq_true rfl] at c5
            have hpos : 0 < P.length := List.length_pos_iff.2 o2
            have hpos2 : ¬ P.length = 0 := by omega
            refine awp_region cx [(4, .p (encRgs [P]))] fun K hK => ?_
            simp [push_cast, hP, c4]
            repeat (refine And.intro (by clear hK; intros; first | omega | (simp_all; done) | (simp_all <;> omega)) ?_)
            refine hK _ ?_; clear hK K; refine Nav.imp ?_
            refine awp_region_draw cx mixed [(11, .p (.bool true))] fun K hK => ?_
            simp [push_cast, hP, c5, hpos2, o2]
            repeat (refine And.intro (by clear hK; intros; first | omega | (simp_all; done) | (simp_all <;> omega)) ?_)
            refine hK _ _ (by kernel_rfl) ?_; clear hK K; refine Nav.imp ?_
            refine awp_cond (b := false) (by simp [push_cast, hpos2, o2]) (fun hb => ?_) (fun hb => ?_) <;> (refine Nav.imp ?_)
            · simp at hb
            · refine awp_region cx [] fun K hK => ?_
              simp [push_cast]
              repeat (refine And.intro (by clear hK; intros; first | omega | (simp_all; done) | (simp_all <;> omega)) ?_)
              refine hK _ ?_; clear hK K; refine Nav.imp ?_
              refine awp_loop (β := Nat) (fun j => ⟨103, [(1, .ptr 0 0 0), (3, .d (encRgs L')), (6, .d (.int .i64 i)), (8, .d (.int .i64 j))], [(0, some ⟨24, 1, [(regRow R).map .d]⟩)], 1⟩) (fun j => j ≤ i) (fun j => i - j) 0 ?_ (Nat.zero_le _) ?_
              · refine weak_of [(0, some 0)] rfl (by simp [upT, up, upL, push_cast]) (by simp [upH, upR, upL, up, push_cast]) (by simp [namesOk, push_cast]) (by simp [olds])
              · rintro j hj
                refine Nav.imp ?_
                refine awp_region cx [] fun K hK => ?_
                simp [push_cast]
                repeat (refine And.intro (by clear hK; intros; first | omega | (simp_all; done) | (simp_all <;> omega)) ?_)
                refine hK _ ?_; clear hK K; refine Nav.imp ?_
                refine awp_cond (b := decide ((j : Int) < i)) (by simp [push_cast]) (fun hb => ?_) (fun hb => ?_) <;> (refine Nav.imp ?_)
                · have hji : j < i := by simpa using hb
                  obtain ⟨Q, hQ⟩ := getq (show j < L'.length by omega)
                  have e1 := wrap_i64 (n := (j : Int) + 1) (by omega) (by omega)
                  have hQL := hL3 j Q hQ
                  have hQv := hsv j Q hQL
                  obtain ⟨a1, a2⟩ := hapart i j P Q hPL hQL (by omega)
                  have c6 := intersectR_ok P Q (small_valid hPv) (small_valid hQv)
                  rw [a1] at c6
                  have c7 := count_ok [] (small_valid rfl)
                  rw [show countR [] = 0 from rfl] at c7
                  have c8 := near_no P Q hPv hQv (hPl i P hPL) a2
                  refine awp_region_draw cx mixed [(8, .p (.agg (regRow []))), (9, .p (.int .i64 0)), (20, .p (.bool false))] fun K hK => ?_
                  simp [push_cast, hP, hQ, c6, c7, c8]
                  repeat (refine And.intro (by clear hK; intros; first | omega | (simp_all; done) | (simp_all <;> omega)) ?_)
                  refine hK _ _ (by kernel_rfl) ?_; clear hK K; refine Nav.imp ?_
                  refine awp_cond (b := false) (by simp [push_cast]) (fun hb => ?_) (fun hb => ?_) <;> (refine Nav.imp ?_)
                  · simp at hb
                  · refine awp_region cx [] fun K hK => ?_
                    simp [push_cast, e1]
                    repeat (refine And.intro (by clear hK; intros; first | omega | (simp_all; done) | (simp_all <;> omega)) ?_)
                    refine hK _ ?_; clear hK K; refine Nav.imp ?_
                    refine ⟨j + 1, hji, by omega, ?_⟩
                    refine weak_of [(0, some 0)] rfl (by simp [upT, up, upL, push_cast]) (by simp [upH, upR, upL, up, push_cast]) (by simp [namesOk, push_cast]) (by simp [olds])
                · have hje : j = i := by simp at hb; omega
                  subst hje
                  refine awp_region cx [] fun K hK => ?_
                  simp [push_cast, e0]
                  repeat (refine And.intro (by clear hK; intros; first | omega | (simp_all; done) | (simp_all <;> omega)) ?_)
                  refine hK _ ?_; clear hK K; refine Nav.imp ?_
                  refine ⟨j + 1, hlt, by omega, ?_⟩
                  refine weak_of [(0, some 0)] rfl (by simp [upT, up, upL, push_cast]) (by simp [upH, upR, upL, up, push_cast]) (by simp [namesOk, push_cast]) (by simp [olds])
          · refine awp_region cx [(0, .p (.bool true))] fun K hK => ?_
            simp [push_cast, c0]
            repeat (refine And.intro (by clear hK; intros; first | omega | (simp_all; done) | (simp_all <;> omega)) ?_)
            refine hK _ ?_; clear hK K; refine Nav.imp ?_
            simp [push_cast]

theorem arg_u8 {x : D} (h : hasV Try.prog 5 x) : ∃ n : {n : Int // 0 ≤ n ∧ n < 256}, x = .int .u8 n.1 := by
  obtain ⟨n, rfl, w⟩ := hasV_int Try.underlying5 h
  refine ⟨⟨n, ?_⟩, rfl⟩
  simp [Lit.wf] at w
  have h1 : IntKind.u8.min = 0 := by decide
  have h2 : IntKind.u8.max = 255 := by decide
  omega
set_option maxHeartbeats 4000000 in
theorem leroded_ok (R : List Row) (c : Cell) (k : Int) (hk : 0 ≤ k ∧ k < 256) : PC Try.prog 8 [.agg (regRow R), .agg c.row, .int .u8 k] (.p (.bool true)) := by
  have c0 := awake21_ok
  have c1 := compact_ok R
  obtain ⟨n, hn, hn2⟩ : ∃ n : Nat, k.tmod 13 = n ∧ n < 13 := by
    have h1 := Int.tmod_eq_emod_of_nonneg (a := k) (b := 13) hk.1
    exact ⟨(k % 13).toNat, by rw [h1]; omega, by omega⟩
  have w1 := wrap_i64 (n := (n : Int)) (by omega) (by omega)
  cases hc : compactB R with
  | false =>
    rw [hc] at c1
    refine pc_of_awp cx (fn := Try.f8) (c := _) Try.func8 rfl rfl (Nat.le_of_ble_eq_true rfl) ?_
    rw [Try.ntmps8]; refine Nav.imp ?_
    refine awp_region cx [] fun K hK => ?_
    simp [push_cast]
    repeat (refine And.intro (by clear hK; intros; first | omega | (simp_all; done) | (simp_all <;> omega)) ?_)
    refine hK _ ?_; clear hK K; refine Nav.imp ?_
    refine awp_region cx [] fun K hK => ?_
    simp [push_cast, hn, w1]
    repeat (refine And.intro (by clear hK; intros; first | omega | (simp_all; done) | (simp_all <;> omega)) ?_)
    refine hK _ ?_; clear hK K; refine Nav.imp ?_
    refine awp_region cx [(1, .p (.bool false)), (5, .skip)] fun K hK => ?_
    simp [push_cast, c1]
    repeat (refine And.intro (by clear hK; intros; first | omega | (simp_all; done) | (simp_all <;> omega)) ?_)
    refine hK _ ?_; clear hK K; refine Nav.imp ?_
    refine awp_cond (b := true) (by simp [push_cast]) (fun hb => ?_) (fun hb => ?_) <;> (refine Nav.imp ?_)
    · refine awp_region cx [(0, .p (.bool true))] fun K hK => ?_
      simp [push_cast, c0]
      repeat (refine And.intro (by clear hK; intros; first | omega | (simp_all; done) | (simp_all <;> omega)) ?_)
      refine hK _ ?_; clear hK K; refine Nav.imp ?_
      simp [push_cast]
    · simp at hb
  | true =>
    rw [hc] at c1
    obtain ⟨hs, hbx, _, _⟩ := compact_facts hc
    have c2 := validR_ok R hs
    cases hv : validR R with
    | false =>
      rw [hv] at c2
      refine pc_of_awp cx (fn := Try.f8) (c := _) Try.func8 rfl rfl (Nat.le_of_ble_eq_true rfl) ?_
      rw [Try.ntmps8]; refine Nav.imp ?_
      refine awp_region cx [] fun K hK => ?_
      simp [push_cast]
      repeat (refine And.intro (by clear hK; intros; first | omega | (simp_all; done) | (simp_all <;> omega)) ?_)
      refine hK _ ?_; clear hK K; refine Nav.imp ?_
      refine awp_region cx [] fun K hK => ?_
      simp [push_cast, hn, w1]
      repeat (refine And.intro (by clear hK; intros; first | omega | (simp_all; done) | (simp_all <;> omega)) ?_)
      refine hK _ ?_; clear hK K; refine Nav.imp ?_
      refine awp_region cx [(1, .p (.bool true)), (5, .p (.bool false))] fun K hK => ?_
      simp [push_cast, c1, c2]
      repeat (refine And.intro (by clear hK; intros; first | omega | (simp_all; done) | (simp_all <;> omega)) ?_)
      refine hK _ ?_; clear hK K; refine Nav.imp ?_
      refine awp_cond (b := true) (by simp [push_cast]) (fun hb => ?_) (fun hb => ?_) <;> (refine Nav.imp ?_)
      · refine awp_region cx [(0, .p (.bool true))] fun K hK => ?_
        simp [push_cast, c0]
        repeat (refine And.intro (by clear hK; intros; first | omega | (simp_all; done) | (simp_all <;> omega)) ?_)
        refine hK _ ?_; clear hK K; refine Nav.imp ?_
        simp [push_cast]
      · simp at hb
    | true =>
      rw [hv] at c2
      have c3 := depth_ok R c hs
      have c4 := erode_ok R n (big_of hs)
      have hq : reachB R n = true := by simp [reachB, hv]; omega
      have c5 := contains_ok (eroR R n) c (small_valid (ero_facts hq).1)
      have he := dep_ero hv c (n := n) (by omega)
      rw [← he] at c5
      clear he
      have hdd : decide ((n : Int) < (depN R c : Int)) = decide (n < depN R c) := by rw [Bool.eq_iff_iff, decide_eq_true_eq, decide_eq_true_eq]; omega
      generalize eroR R n = E at *
      generalize depN R c = dd at *
      refine pc_of_awp cx (fn := Try.f8) (c := _) Try.func8 rfl rfl (Nat.le_of_ble_eq_true rfl) ?_
      rw [Try.ntmps8]; refine Nav.imp ?_
      refine awp_region cx [] fun K hK => ?_
      simp [push_cast]
      repeat (refine And.intro (by clear hK; intros; first | omega | (simp_all; done) | (simp_all <;> omega)) ?_)
      refine hK _ ?_; clear hK K; refine Nav.imp ?_
      refine awp_region cx [] fun K hK => ?_
      simp [push_cast, hn, w1]
      repeat (refine And.intro (by clear hK; intros; first | omega | (simp_all; done) | (simp_all <;> omega)) ?_)
      refine hK _ ?_; clear hK K; refine Nav.imp ?_
      refine awp_region cx [(1, .p (.bool true)), (5, .p (.bool true))] fun K hK => ?_
      simp [push_cast, c1, c2]
      repeat (refine And.intro (by clear hK; intros; first | omega | (simp_all; done) | (simp_all <;> omega)) ?_)
      refine hK _ ?_; clear hK K; refine Nav.imp ?_
      refine awp_cond (b := false) (by simp [push_cast]) (fun hb => ?_) (fun hb => ?_) <;> (refine Nav.imp ?_)
      · simp at hb
      · refine awp_region_draw cx mixed [(2, .p (.int .i64 dd)), (7, .p (.agg (regRow E))), (9, .p (.bool (decide (n < dd)))), (12, .p (.bool true))] fun K hK => ?_
        simp [push_cast, c0, c3, c4, c5, hdd, Cell.row]
        repeat (refine And.intro (by clear hK; intros; first | omega | (simp_all; done) | (simp_all <;> omega)) ?_)
        refine hK _ _ (by kernel_rfl) ?_; clear hK K; refine Nav.imp ?_
        simp [push_cast, hdd]
set_option maxRecDepth 100000 in
theorem partsDivide_lifted (os : Os) (started : os.Started) (H : Type) (enc : TypeId × Value → H) :
    ReturnsInHanded {} Try.checked os 6 .any (Rows.partsDivideSpec.pre6 enc Try.prog Try.f6 Rows.partsDivideRow.domain false) (Rows.partsDivideSpec.post enc Try.prog Try.f6 false true false false) := by
  refine returnsInHanded_of_change (C := Try.checked) own started (by kernel_rfl) Try.func6
    (ChangeSpec.witness6 (enc := enc) (C := Try.checked) false ⟨#[], #[zeroReg], []⟩ 8 (by kernel_rfl) (by kernel_rfl) (by kernel_rfl) (by kernel_rfl)) ?_
  intro W base args ds gs before hval hW _ _
  exact law_contract rfl (fun ds h => by match ds, h with | [a0], _ => rfl) laidOut (by simp only [Try.params6]; intro t ht; simp at ht; rcases ht with rfl <;> exact ⟨by kernel_rfl, of_decide_eq_true (by kernel_rfl)⟩) (by kernel_rfl) rfl Try.underlying4
    (fun xs hx => by
      simp only [Try.params6, hasVs] at hx
      obtain ⟨x0, r0, rfl, h0, rfl⟩ := hx
      obtain ⟨R, rfl⟩ := arg_region h0
      exact ldivide_ok R) W base args ds gs before hval hW

theorem partsDivide_holds : Rows.PartsDivideSaid :=
  OpenClaim.holds_of_wide 6 Try.f6 rfl rfl rfl rfl rfl rfl rfl ⟨rfl, rfl, rfl, rfl, rfl⟩ rfl rfl rfl rfl rfl (by kernel_rfl) Try.func6 (by kernel_rfl)
    (of_decide_eq_true (by kernel_rfl)) (by unfold Func.isWrapper; first | (rw [if_pos (by decide +kernel)]; kernel_rfl) | (rw [if_neg (by decide +kernel)]; exact ⟨rfl, rfl⟩))
    (fun os started H enc _ => partsDivide_lifted os started H enc)

set_option maxRecDepth 100000 in
theorem partsEroded_lifted (os : Os) (started : os.Started) (H : Type) (enc : TypeId × Value → H) :
    ReturnsInHanded {} Try.checked os 8 .any (Rows.partsErodedSpec.pre6 enc Try.prog Try.f8 Rows.partsErodedRow.domain false) (Rows.partsErodedSpec.post enc Try.prog Try.f8 false true false false) := by
  refine returnsInHanded_of_change (C := Try.checked) own started (by kernel_rfl) Try.func8
    (ChangeSpec.witness6 (enc := enc) (C := Try.checked) false ⟨#[], #[zeroReg, zeroCell, .int .u8 0], []⟩ 8 (by kernel_rfl) (by kernel_rfl) (by kernel_rfl) (by kernel_rfl)) ?_
  intro W base args ds gs before hval hW _ _
  exact law_contract rfl (fun ds h => by match ds, h with | [a0, a1, a2], _ => rfl) laidOut (by simp only [Try.params8]; intro t ht; simp at ht; rcases ht with rfl | rfl | rfl <;> exact ⟨by kernel_rfl, of_decide_eq_true (by kernel_rfl)⟩) (by kernel_rfl) rfl Try.underlying4
    (fun xs hx => by
      simp only [Try.params8, hasVs] at hx
      obtain ⟨x0, r0, rfl, h0, x1, r1, rfl, h1, x2, r2, rfl, h2, rfl⟩ := hx
      obtain ⟨R, rfl⟩ := arg_region h0
      obtain ⟨c, rfl⟩ := arg_cell h1
      obtain ⟨⟨k, hk⟩, rfl⟩ := arg_u8 h2
      exact leroded_ok R c k hk) W base args ds gs before hval hW

theorem partsEroded_holds : Rows.PartsErodedSaid :=
  OpenClaim.holds_of_wide 8 Try.f8 rfl rfl rfl rfl rfl rfl rfl ⟨rfl, rfl, rfl, rfl, rfl⟩ rfl rfl rfl rfl rfl (by kernel_rfl) Try.func8 (by kernel_rfl)
    (of_decide_eq_true (by kernel_rfl)) (by unfold Func.isWrapper; first | (rw [if_pos (by decide +kernel)]; kernel_rfl) | (rw [if_neg (by decide +kernel)]; exact ⟨rfl, rfl⟩))
    (fun os started H enc _ => partsEroded_lifted os started H enc)

end Go.Proofs.Ytagakfaiimaifaa

set_option linter.unusedVariables false
set_option linter.unusedSimpArgs false
set_option maxRecDepth 100000
namespace Go.Proofs.Ytagakfaiimaifaa
open Go.Abs

/-! The cells around a region: which of them are outside. -/
theorem free_mem {R : List Row} {c : Cell} (hv : validR R = true) (h0 : 0 < R.length) : c ∈ freeL R ↔ (lowX R - 1 ≤ c.x ∧ c.x ≤ highX R + 1) ∧ (fstY R - 1 ≤ c.y ∧ c.y ≤ lstY R + 1) ∧ c ∉ regCells R := by
  have hb := box_ends hv h0
  unfold freeL frYs frXs frLine
  simp only [List.mem_flatMap, List.mem_map, List.mem_filter, ysD_mem]
  constructor
  · rintro ⟨y, hy, x, ⟨hx, hc⟩, rfl⟩
    rw [conB_mem hv] at hc
    refine ⟨by simp only; omega, by simp only; omega, by simpa using hc⟩
  · rintro ⟨h1, h2, h3⟩
    refine ⟨c.y, by omega, c.x, ⟨by omega, ?_⟩, rfl⟩
    rw [conB_mem hv]
    simpa using h3
section
variable {R : List Row} (hv : validR R = true) (h0 : 0 < R.length)
include hv h0
def org (R : List Row) : Cell := ⟨lowX R - 1, fstY R - 1⟩
theorem rim_free {c : Cell} (h1 : lowX R - 1 ≤ c.x ∧ c.x ≤ highX R + 1) (h2 : fstY R - 1 ≤ c.y ∧ c.y ≤ lstY R + 1) (h3 : c.x < lowX R ∨ highX R < c.x ∨ c.y < fstY R ∨ lstY R < c.y) : c ∈ freeL R :=
  (free_mem hv h0).2 ⟨h1, h2, fun hc => by have := box_mem hv hc; omega⟩
theorem conn_top : ∀ j : Nat, lowX R - 1 + (j : Int) ≤ highX R + 1 → Conn (freeL R) (adjR true) (org R) ⟨lowX R - 1 + j, fstY R - 1⟩
  | 0, _ => by
    have hb := box_ends hv h0
    have : (⟨lowX R - 1 + ((0 : Nat) : Int), fstY R - 1⟩ : Cell) = org R := by simp [org]
    rw [this]
    exact .refl (rim_free hv h0 (by simp only [org]; omega) (by simp only [org]; omega) (by simp only [org]; omega))
  | j + 1, h => by
    have hb := box_ends hv h0
    refine .step (conn_top j (by omega)) (rim_free hv h0 (by simp only; omega) (by simp only; omega) (by simp only; omega)) ?_
    simp [adjR]; omega
theorem conn_left : ∀ j : Nat, fstY R - 1 + (j : Int) ≤ lstY R + 1 → Conn (freeL R) (adjR true) (org R) ⟨lowX R - 1, fstY R - 1 + j⟩
  | 0, _ => by
    have hb := box_ends hv h0
    have : (⟨lowX R - 1, fstY R - 1 + ((0 : Nat) : Int)⟩ : Cell) = org R := by simp [org]
    rw [this]
    exact .refl (rim_free hv h0 (by simp only [org]; omega) (by simp only [org]; omega) (by simp only [org]; omega))
  | j + 1, h => by
    have hb := box_ends hv h0
    refine .step (conn_left j (by omega)) (rim_free hv h0 (by simp only; omega) (by simp only; omega) (by simp only; omega)) ?_
    simp [adjR]; omega
theorem conn_right : ∀ j : Nat, fstY R - 1 + (j : Int) ≤ lstY R + 1 → Conn (freeL R) (adjR true) (org R) ⟨highX R + 1, fstY R - 1 + j⟩
  | 0, _ => by
    have hb := box_ends hv h0
    have := conn_top hv h0 (highX R - lowX R + 2).toNat (by omega)
    rw [show lowX R - 1 + ((highX R - lowX R + 2).toNat : Int) = highX R + 1 by omega] at this
    simpa using this
  | j + 1, h => by
    have hb := box_ends hv h0
    refine .step (conn_right j (by omega)) (rim_free hv h0 (by simp only; omega) (by simp only; omega) (by simp only; omega)) ?_
    simp [adjR]; omega
theorem conn_bot : ∀ j : Nat, lowX R - 1 + (j : Int) ≤ highX R + 1 → Conn (freeL R) (adjR true) (org R) ⟨lowX R - 1 + j, lstY R + 1⟩
  | 0, _ => by
    have hb := box_ends hv h0
    have := conn_left hv h0 (lstY R - fstY R + 2).toNat (by omega)
    rw [show fstY R - 1 + ((lstY R - fstY R + 2).toNat : Int) = lstY R + 1 by omega] at this
    simpa using this
  | j + 1, h => by
    have hb := box_ends hv h0
    refine .step (conn_bot j (by omega)) (rim_free hv h0 (by simp only; omega) (by simp only; omega) (by simp only; omega)) ?_
    simp [adjR]; omega
theorem rim_conn {c : Cell} (h1 : lowX R - 1 ≤ c.x ∧ c.x ≤ highX R + 1) (h2 : fstY R - 1 ≤ c.y ∧ c.y ≤ lstY R + 1) (h3 : c.x < lowX R ∨ highX R < c.x ∨ c.y < fstY R ∨ lstY R < c.y) : Conn (freeL R) (adjR true) (org R) c := by
  obtain ⟨x, y⟩ := c
  simp only at h1 h2 h3
  rcases h3 with h3 | h3 | h3 | h3
  · have := conn_left hv h0 (y - fstY R + 1).toNat (by omega)
    rwa [show fstY R - 1 + ((y - fstY R + 1).toNat : Int) = y by omega, show lowX R - 1 = x by omega] at this
  · have := conn_right hv h0 (y - fstY R + 1).toNat (by omega)
    rwa [show fstY R - 1 + ((y - fstY R + 1).toNat : Int) = y by omega, show highX R + 1 = x by omega] at this
  · have := conn_top hv h0 (x - lowX R + 1).toNat (by omega)
    rwa [show lowX R - 1 + ((x - lowX R + 1).toNat : Int) = x by omega, show fstY R - 1 = y by omega] at this
  · have := conn_bot hv h0 (x - lowX R + 1).toNat (by omega)
    rwa [show lowX R - 1 + ((x - lowX R + 1).toNat : Int) = x by omega, show lstY R + 1 = y by omega] at this
theorem org_first : (freeL R)[0]? = some (org R) := by
  have hb := box_ends hv h0
  have hm : org R ∈ freeL R := rim_free hv h0 (by simp only [org]; omega) (by simp only [org]; omega) (by simp only [org]; omega)
  have hp := free_pw R
  cases hl : freeL R with
  | nil => rw [hl] at hm; simp at hm
  | cons c m =>
    rw [hl] at hm hp
    simp only [List.getElem?_cons_zero]
    rcases List.mem_cons.1 hm with e | hm
    · rw [e]
    · exfalso
      have h1 := (List.pairwise_cons.1 hp).1 _ hm
      have hc : c ∈ freeL R := by rw [hl]; simp
      have h2 := (free_mem hv h0).1 hc
      rcases h1 with h1 | ⟨h1, h3⟩ <;> simp only [org] at h1 <;> (try simp only [org] at h3) <;> omega
end
theorem grps_first {l : List Cell} {adj : Cell → Cell → Bool} {c : Cell} (hc : l[0]? = some c) : (grps l adj)[0]? = some (cls l adj c l) := by
  have key : ∀ k, (hdS l adj (k + 1))[0]? = some c := by
    intro k
    induction k with
    | zero =>
      rcases hdS_next (adj := adj) hc with ⟨⟨x, hx, _⟩, _⟩ | ⟨_, e⟩
      · simp [hdS] at hx
      · rw [e]; simp [hdS]
    | succ k ih =>
      cases hk : l[k + 1]? with
      | none =>
        have e : hdS l adj (k + 1 + 1) = hdS l adj (k + 1) := by simp only [hdS, hk]
        rw [e]; exact ih
      | some x =>
        rcases hdS_next (adj := adj) hk with ⟨_, e⟩ | ⟨_, e⟩
        · rw [e]; exact ih
        · rw [e, List.getElem?_append_left (List.getElem?_eq_some_iff.1 ih).1]; exact ih
  have hl : 0 < l.length := (List.getElem?_eq_some_iff.1 hc).1
  have := key (l.length - 1)
  rw [show l.length - 1 + 1 = l.length by omega] at this
  simp only [grps, List.getElem?_map, this, Option.map_some]
theorem hole_get {R : List Row} (hv : validR R = true) (h0 : 0 < R.length) {i : Nat} {P : List Row} (h : (holesR R)[i]? = some P) : ∃ g, (grps (freeL R) (adjR true))[i + 1]? = some g ∧ validR P = true ∧ regCells P = g ∧ ∀ c ∈ g, c ∈ freeL R ∧ ¬ Conn (freeL R) (adjR true) (org R) c ∧ (lowX R ≤ c.x ∧ c.x ≤ highX R) ∧ fstY R ≤ c.y ∧ c.y ≤ lstY R := by
  have hs : some? R = true := by simp [some?, hv, h0]
  unfold holesR at h
  rw [if_pos hs, List.getElem?_map, List.getElem?_drop, Option.map_eq_some_iff] at h
  obtain ⟨g, hg, rfl⟩ := h
  rw [Nat.add_comm] at hg
  have hgm := List.mem_of_getElem? hg
  have hb := box_ends hv h0
  have hfirst := grps_first (adj := adjR true) (org_first hv h0)
  have horg : org R ∈ cls (freeL R) (adjR true) (org R) (freeL R) := mem_cls.2 ⟨List.mem_of_getElem? (org_first hv h0), .refl (List.mem_of_getElem? (org_first hv h0))⟩
  have hin : ∀ c ∈ g, c ∈ freeL R ∧ ¬ Conn (freeL R) (adjR true) (org R) c ∧ (lowX R ≤ c.x ∧ c.x ≤ highX R) ∧ fstY R ≤ c.y ∧ c.y ≤ lstY R := fun c hc => by
    have h1 : c ∈ freeL R := by
      obtain ⟨_, _, _, rfl, _⟩ := grps_mem hgm
      exact (mem_cls.1 hc).1
    have h2 : ¬ Conn (freeL R) (adjR true) (org R) c := grps_apart adjS hfirst hg (by omega) horg hc
    have h3 := (free_mem hv h0).1 h1
    refine ⟨h1, h2, ?_, ?_⟩
    · constructor
      · apply Int.not_lt.1; intro q; exact h2 (rim_conn hv h0 h3.1 h3.2.1 (.inl q))
      · apply Int.not_lt.1; intro q; exact h2 (rim_conn hv h0 h3.1 h3.2.1 (.inr (.inl q)))
    · constructor
      · apply Int.not_lt.1; intro q; exact h2 (rim_conn hv h0 h3.1 h3.2.1 (.inr (.inr (.inl q))))
      · apply Int.not_lt.1; intro q; exact h2 (rim_conn hv h0 h3.1 h3.2.1 (.inr (.inr (.inr q))))
  obtain ⟨h1, h2⟩ := ofR_mem (grps_pw (free_pw R) hgm) fun c hc => by
    have := hin c hc
    simp [onG]; omega
  exact ⟨g, hg, h1, h2, hin⟩
theorem hole_cover {R : List Row} (hv : validR R = true) (h0 : 0 < R.length) {c : Cell} (hc : c ∈ freeL R) (hn : ¬ Conn (freeL R) (adjR true) (org R) c) : ∃ P ∈ holesR R, c ∈ regCells P := by
  have hs : some? R = true := by simp [some?, hv, h0]
  obtain ⟨g, hg, hm⟩ := grps_cover (adj := adjR true) hc
  obtain ⟨i, hi⟩ := List.mem_iff_getElem?.1 hg
  have hfirst := grps_first (adj := adjR true) (org_first hv h0)
  cases i with
  | zero =>
    rw [hfirst] at hi
    cases hi
    exact absurd (mem_cls.1 hm).2 hn
  | succ i =>
    have hP : (holesR R)[i]? = some (ofR g) := by
      unfold holesR
      rw [if_pos hs, List.getElem?_map, List.getElem?_drop, Nat.add_comm, hi]; rfl
    obtain ⟨g', hg', _, h4, _⟩ := hole_get hv h0 hP
    rw [hi] at hg'
    cases hg'
    exact ⟨ofR g, List.mem_of_getElem? hP, by rw [h4]; exact hm⟩
theorem fill_mem {R : List Row} (hv : validR R = true) (h0 : 0 < R.length) : validR (fillR R) = true ∧ ∀ c, c ∈ regCells (fillR R) ↔ c ∈ regCells R ∨ (c ∈ freeL R ∧ ¬ Conn (freeL R) (adjR true) (org R) c) := by
  have hH : ∀ P ∈ holesR R, validR P = true := fun P hP => holes_valid P hP
  have hF0 : validR (opR fU R []) = true := opR_val (f := fU) rfl _ _
  obtain ⟨h1, h2⟩ := fold_union (holesR R) (opR fU R []) hH hF0
  have e : fillR R = (holesR R).foldl (opR fU) (opR fU R []) := by unfold fillR; rw [if_pos hv]
  rw [e]
  refine ⟨h1, fun c => ?_⟩
  rw [h2, opU_iff hv rfl]
  constructor
  · rintro ((h | h) | ⟨P, hP, h⟩)
    · exact .inl h
    · simp [regCells] at h
    · obtain ⟨i, hi⟩ := List.mem_iff_getElem?.1 hP
      obtain ⟨g, _, _, h4, h5⟩ := hole_get hv h0 hi
      rw [h4] at h
      exact .inr ⟨(h5 c h).1, (h5 c h).2.1⟩
  · rintro (h | ⟨h3, h4⟩)
    · exact .inl (.inl h)
    · exact .inr (hole_cover hv h0 h3 h4)
theorem row_cells {R : List Row} (hv : validR R = true) {w : Row} (hw : w ∈ R) : (⟨fstA w, w.y⟩ : Cell) ∈ regCells R ∧ (⟨lstB w - 1, w.y⟩ : Cell) ∈ regCells R := by
  obtain ⟨f, z, hf, hz, hf1, hz1, hl⟩ := fine_ends (row_fine hv hw).2
  have e1 : fstA w = f.a := by simp [fstA, hf]
  have e2 : lstB w = z.b := by simp [lstB, hz]
  rw [e1, e2]
  exact ⟨mem_regCells.2 ⟨w, hw, rfl, f, List.mem_of_getElem? hf, by simp, by simp only; omega⟩, mem_regCells.2 ⟨w, hw, rfl, z, List.mem_of_getElem? hz, by simp only; omega, by simp only; omega⟩⟩
theorem box_same {R F : List Row} (hv : validR R = true) (h0 : 0 < R.length) (hf : validR F = true) (h1 : ∀ c ∈ regCells R, c ∈ regCells F) (h2 : ∀ c ∈ regCells F, lowX R ≤ c.x ∧ c.x ≤ highX R ∧ fstY R ≤ c.y ∧ c.y ≤ lstY R) : 0 < F.length ∧ lowX F = lowX R ∧ highX F = highX R ∧ fstY F = fstY R ∧ lstY F = lstY R := by
  have hb := box_ends hv h0
  obtain ⟨w0, hw0⟩ : ∃ w, R[0]? = some w := getq h0
  obtain ⟨w1, hw1⟩ : ∃ w, R[R.length - 1]? = some w := getq (by omega)
  have c0 := h1 _ (row_cells hv (List.mem_of_getElem? hw0)).1
  have c1 := h1 _ (row_cells hv (List.mem_of_getElem? hw1)).1
  have hF0 : 0 < F.length := by
    obtain ⟨v, hv', _⟩ := mem_regCells.1 c0
    exact List.length_pos_iff.2 (List.ne_nil_of_mem hv')
  have hbF := box_ends hf hF0
  obtain ⟨v0, hv0⟩ : ∃ w, (F)[0]? = some w := getq hF0
  obtain ⟨v1, hv1⟩ : ∃ w, (F)[F.length - 1]? = some w := getq (by omega)
  have d0 := h2 _ (row_cells hf (List.mem_of_getElem? hv0)).1
  have d1 := h2 _ (row_cells hf (List.mem_of_getElem? hv1)).1
  have y1 : fstY R = w0.y := by simp [fstY, hw0]
  have y2 : lstY R = w1.y := by simp [lstY, hw1]
  have y3 : fstY F = v0.y := by simp [fstY, hv0]
  have y4 : lstY F = v1.y := by simp [lstY, hv1]
  have m0 := box_mem hf c0
  have m1 := box_mem hf c1
  simp only at d0 d1 m0 m1
  have l1 : lowX R ≤ lowX F := (foldMin fstA F 4096).2.2 (lowX R) (by omega) fun w hw => (h2 _ (row_cells hf hw).1).1
  have l2 : lowX F ≤ lowX R := (foldMin fstA R 4096).2.2 (lowX F) (by omega) fun w hw => (box_mem hf (h1 _ (row_cells hv hw).1)).1
  have l3 : highX F ≤ highX R := (foldMax (fun w => lstB w - 1) F (-4096)).2.2 (highX R) (by omega) fun w hw => (h2 _ (row_cells hf hw).2).2.1
  have l4 : highX R ≤ highX F := (foldMax (fun w => lstB w - 1) R (-4096)).2.2 (highX F) (by omega) fun w hw => (box_mem hf (h1 _ (row_cells hv hw).2)).2.1
  exact ⟨hF0, by omega, by omega, by omega, by omega⟩
theorem fill_again {R : List Row} (hv : validR R = true) (h0 : 0 < R.length) : holesR (fillR R) = [] ∧ fillR (fillR R) = fillR R ∧ (∀ c ∈ regCells (fillR R), lowX R ≤ c.x ∧ c.x ≤ highX R ∧ fstY R ≤ c.y ∧ c.y ≤ lstY R) ∧ (lowX (fillR R) = lowX R ∧ highX (fillR R) = highX R ∧ fstY (fillR R) = fstY R ∧ lstY (fillR R) = lstY R) := by
  obtain ⟨hf, hm⟩ := fill_mem hv h0
  have hin : ∀ c ∈ regCells (fillR R), lowX R ≤ c.x ∧ c.x ≤ highX R ∧ fstY R ≤ c.y ∧ c.y ≤ lstY R := fun c hc => by
    rcases (hm c).1 hc with h | ⟨h1, h2⟩
    · exact box_mem hv h
    · have h3 := (free_mem hv h0).1 h1
      refine ⟨?_, ?_, ?_, ?_⟩
      · apply Int.not_lt.1; intro q; exact h2 (rim_conn hv h0 h3.1 h3.2.1 (.inl q))
      · apply Int.not_lt.1; intro q; exact h2 (rim_conn hv h0 h3.1 h3.2.1 (.inr (.inl q)))
      · apply Int.not_lt.1; intro q; exact h2 (rim_conn hv h0 h3.1 h3.2.1 (.inr (.inr (.inl q))))
      · apply Int.not_lt.1; intro q; exact h2 (rim_conn hv h0 h3.1 h3.2.1 (.inr (.inr (.inr q))))
  obtain ⟨hF0, b1, b2, b3, b4⟩ := box_same hv h0 hf (fun c hc => (hm c).2 (.inl hc)) hin
  have hfree : freeL (fillR R) = cls (freeL R) (adjR true) (org R) (freeL R) := by
    refine ltY_uniq (free_pw _) ((free_pw R).sublist List.filter_sublist) fun c => ?_
    rw [free_mem hf hF0, mem_cls, b1, b2, b3, b4, hm, free_mem hv h0]
    constructor
    · rintro ⟨q1, q2, q3⟩
      have q4 : c ∉ regCells R := fun h => q3 (.inl h)
      refine ⟨⟨q1, q2, q4⟩, ?_⟩
      apply Classical.byContradiction
      intro hn
      exact q3 (.inr ⟨⟨q1, q2, q4⟩, hn⟩)
    · rintro ⟨⟨q1, q2, q4⟩, hc⟩
      refine ⟨q1, q2, ?_⟩
      rintro (h | ⟨_, h⟩)
      · exact q4 h
      · exact h hc
  have hg : cls (freeL R) (adjR true) (org R) (freeL R) ∈ grps (freeL R) (adjR true) := List.mem_of_getElem? (grps_first (adj := adjR true) (org_first hv h0))
  have hH : holesR (fillR R) = [] := by
    have hs : some? (fillR R) = true := by simp [some?, hf, hF0]
    unfold holesR
    rw [if_pos hs, hfree, (grps_self adjS hg).1]; rfl
  refine ⟨hH, ?_, hin, b1, b2, b3, b4⟩
  generalize fillR R = F at *
  unfold fillR
  rw [if_pos hf, hH]
  show opR fU F [] = F
  refine region_uniq (opR_val (f := fU) rfl _ _) hf fun c => ?_
  rw [opU_iff hf rfl]
  simp [regCells]
theorem count_valid {R : List Row} (hv : validR R = true) : countR R = (regCells R).length := by unfold countR; rw [if_pos hv]
theorem count_union {a b : List Row} (ha : validR a = true) (hb : validR b = true) (hd : ∀ c ∈ regCells a, c ∉ regCells b) : countR (opR fU a b) = countR a + countR b := by
  have hU : validR (opR fU a b) = true := opR_val (f := fU) rfl _ _
  rw [count_valid hU, count_valid ha, count_valid hb, ← List.length_append]
  refine List.Perm.length_eq ?_
  refine (List.perm_ext_iff_of_nodup (ltY_nodup (cells_pw hU)) (List.nodup_append.2 ⟨ltY_nodup (cells_pw ha), ltY_nodup (cells_pw hb), fun x hx y hy e => hd x hx (e ▸ hy)⟩)).2 fun c => ?_
  rw [opU_iff ha hb, List.mem_append]
/-- What is counted. -/
theorem fill_count {R : List Row} (hv : validR R = true) (h0 : 0 < R.length) : ∀ k, k ≤ (holesR R).length → validR (((holesR R).take k).foldl (opR fU) (opR fU R [])) = true ∧ (countR (((holesR R).take k).foldl (opR fU) (opR fU R []))) = countR R + (((holesR R).take k).map countR).sum
  | 0, _ => by
    have e : opR fU R [] = R := region_uniq (opR_val (f := fU) rfl _ _) hv fun c => by
      rw [opU_iff hv rfl]; simp [regCells]
    simp [e, hv]
  | k + 1, hk => by
    obtain ⟨h1, h2⟩ := fill_count hv h0 k (by omega)
    obtain ⟨P, hP⟩ := getq (show k < (holesR R).length by omega)
    rw [take_get hP, List.foldl_append, List.map_append, List.sum_append]
    simp only [List.foldl_cons, List.foldl_nil, List.map_cons, List.map_nil, List.sum_cons, List.sum_nil, Nat.add_zero]
    refine ⟨opR_val (f := fU) rfl _ _, ?_⟩
    obtain ⟨g, hg, p1, p2, p3⟩ := hole_get hv h0 hP
    have hF0 : validR (opR fU R []) = true := opR_val (f := fU) rfl _ _
    obtain ⟨_, f2⟩ := fold_union ((holesR R).take k) (opR fU R []) (fun Q hQ => holes_valid Q (List.mem_of_mem_take hQ)) hF0
    rw [count_union h1 p1 fun c hc hcP => ?_, h2, Nat.add_assoc]
    rw [p2] at hcP
    have hcf := p3 c hcP
    rw [f2, opU_iff hv rfl] at hc
    rcases hc with (hc | hc) | ⟨Q, hQ, hc⟩
    · exact ((free_mem hv h0).1 hcf.1).2.2 hc
    · simp [regCells] at hc
    · obtain ⟨j, hj⟩ := List.mem_iff_getElem?.1 hQ
      rw [List.getElem?_take] at hj
      split at hj
      · rename_i hjk
        obtain ⟨g', hg', _, q2, _⟩ := hole_get hv h0 hj
        rw [q2] at hc
        exact grps_apart adjS hg' hg (by omega) hc hcP (.refl hcf.1)
      · cases hj
end Go.Proofs.Ytagakfaiimaifaa
