/-
  Texts of this seat put together: S17, S15, S14, S16, S18.
-/
import Derived.Test.YtgicofpllopjmaaDoorJ9
import Derived.Test.YtgicofpllopjmaaDoorTie
import Derived.Test.YtgicofpllopjmaaDoorCards
import Derived.ProofKit
import Derived.OpenShut
import Derived.LaidMore
import Derived.Lay
import Derived.SevenTiedAt
import Derived.Stop.Joined
set_option linter.unusedVariables false
set_option linter.unusedSimpArgs false
set_option maxRecDepth 100000
namespace Go.Proofs.YtgicofpllopjmaaDoor
open Go.Abs Go.Shelf

def plins (R : List Row) (ax top : Int) (w h : Nat) : List (List UInt8) := (List.range h).map fun j : Nat => plin R ax (top - (j : Int)) w
theorem plins_txt (R : List Row) (ax top : Int) (w h : Nat) : txt (plins R ax top w h) = pics R ax top w h := by
  unfold txt plins pics
  rw [List.flatMap_map]
theorem plins_mem {R : List Row} {ax top : Int} {w h : Nat} {x : List UInt8} (hx : x ∈ plins R ax top w h) : x.length = w ∧ ∀ c ∈ x, okCh c = true := by
  simp only [plins, List.mem_map] at hx
  obtain ⟨j, _, rfl⟩ := hx
  refine ⟨plin_len .., fun c hc => ?_⟩
  simp only [plin, List.mem_map] at hc
  obtain ⟨k, _, rfl⟩ := hc
  unfold pch
  split <;> rfl
theorem plins_lines (R : List Row) (ax top : Int) (w h : Nat) (hw : 1 ≤ w) (hh : 1 ≤ h) : linesP (pics R ax top w h) = some (plins R ax top w h) := by
  have hne : plins R ax top w h ≠ [] := fun e => by
    have := congrArg List.length e
    simp [plins] at this
    omega
  have hlen : (pics R ax top w h).length = h * (w + 1) := pics_len ..
  have hpos : 0 < h * (w + 1) := Nat.mul_pos (by omega) (by omega)
  have hs0 : pics R ax top w h ≠ [] := fun e => by rw [e] at hlen; simp at hlen; omega
  have hlast : (pics R ax top w h).getLast? = some 10 := by
    obtain ⟨n, rfl⟩ : ∃ n, h = n + 1 := ⟨h - 1, by omega⟩
    rw [pics_next, ← List.append_assoc]
    simp
  have hd : pics R ax top w h = (pics R ax top w h).dropLast ++ [10] := by
    obtain ⟨ys, e⟩ := List.getLast?_eq_some_iff.1 hlast
    rw [e]
    simp
  have hno : ∀ x ∈ plins R ax top w h, (10 : UInt8) ∉ x := fun x hx hc => okCh_nl ((plins_mem hx).2 10 hc) rfl
  have hsp := spl_txt hne hno ((plins_txt R ax top w h).trans hd)
  have hsame : sameL (plins R ax top w h) = true := by
    unfold sameL
    rw [List.all_eq_true]
    intro x hx
    have h1 := plins_mem hx
    have h2 : ((plins R ax top w h).headD []).length = w := by
      cases hc : plins R ax top w h with
      | nil => exact absurd hc hne
      | cons a t => exact (plins_mem (R := R) (ax := ax) (top := top) (h := h) (by rw [hc]; simp)).1
    simp only [Bool.and_eq_true, decide_eq_true_eq, List.all_eq_true]
    exact ⟨⟨fun e => by rw [e] at h1; simp at h1; omega, by rw [h1.1, h2]⟩, h1.2⟩
  unfold linesP
  rw [if_neg hs0, if_pos hlast, hsp, if_pos hsame]
theorem read_pic {R : List Row} (hs : some? R = true) (hp : picS R ≠ []) : readR (picS R) ⟨lowX R, fstY R⟩ = .tup [.agg (regRow R), .int .i64 0] := by
  obtain ⟨_, _, hv, h0, r1, r2, r3, r4, r5, r6, r7, r8⟩ := pic_facts hs
  have hP : picS R = pics R (lowX R) (lstY R) (widR R) (higR R) ∧ (widR R + 1) * higR R ≤ 65536 := by
    unfold picS at hp ⊢
    by_cases h : some? R = true ∧ (widR R + 1) * higR R ≤ 65536
    · rw [if_pos h]; exact ⟨rfl, h.2⟩
    · rw [if_neg h] at hp; exact absurd rfl hp
  obtain ⟨e1, e2⟩ := hP
  rw [e1]
  have hlen : (pics R (lowX R) (lstY R) (widR R) (higR R)).length = higR R * (widR R + 1) := pics_len ..
  rw [Nat.mul_comm] at e2
  unfold readR
  rw [if_neg (by omega), plins_lines _ _ _ _ _ r3 r7]
  simp only
  have hl : (plins R (lowX R) (lstY R) (widR R) (higR R)).length = higR R := by simp [plins]
  have hget : ∀ i, i < higR R → (plins R (lowX R) (lstY R) (widR R) (higR R)).getD i [] = plin R (lowX R) (lstY R - (i : Int)) (widR R) := fun i hi => by
    rw [List.getD_eq_getElem?_getD]
    simp [plins, hi]
  have hmem : ∀ c, c ∈ cellsT (plins R (lowX R) (lstY R) (widR R) (higR R)) ⟨lowX R, fstY R⟩ (higR R) ↔ c ∈ regCells R := fun c => by
    rw [cellsT_g, gcells_mem]
    constructor
    · rintro ⟨i, k, hi, hk, hf, rfl⟩
      rw [hget i hi, plin_len] at hk
      rw [hget i hi] at hf
      rw [hl]
      have hf2 : pch R (lowX R) (lstY R - (i : Int)) k = 35 := by
        unfold plin at hf
        rw [List.getElem?_map, List.getElem?_range hk] at hf
        simpa using hf
      have hin : inR (rowOf R (lstY R - (i : Int))) (lowX R + k) = true := by
        unfold pch at hf2
        split at hf2
        · assumption
        · cases hf2
      refine (rowOf_in hv _).2 ?_
      simp only
      rw [show fstY R + ((higR R - 1 - i : Nat) : Int) = lstY R - (i : Int) by omega]
      exact hin
    · intro hc
      have hin := (rowOf_in hv c).1 hc
      have hy : fstY R ≤ c.y ∧ c.y ≤ lstY R := by
        rcases rowOf_cases hv c.y with ⟨w, hw, hwy, _⟩ | ⟨_, e⟩
        · rw [← hwy]; exact rows_ends hv hw
        · rw [e] at hin; simp [inR] at hin
      obtain ⟨r, hr, h1, h2⟩ := inR_iff.1 hin
      have h3 := row_rng hv hr
      refine ⟨(lstY R - c.y).toNat, (c.x - lowX R).toNat, by omega, ?_, ?_, ?_⟩
      · rw [hget _ (by omega), plin_len]; omega
      · rw [hget _ (by omega)]
        unfold plin
        rw [List.getElem?_map, List.getElem?_range (by omega)]
        have e3 : lstY R - ((lstY R - c.y).toNat : Int) = c.y := by omega
        have e4 : lowX R + ((c.x - lowX R).toNat : Int) = c.x := by omega
        have e5 : pch R (lowX R) (lstY R - ((lstY R - c.y).toNat : Int)) (c.x - lowX R).toNat = 35 := by unfold pch; rw [e3, e4, if_pos hin]
        simp only [Option.map_some, e5]
        rfl
      · obtain ⟨cx, cy⟩ := c
        simp only at *
        rw [hl]
        congr 1 <;> omega
  rw [hl]
  have hnd : (cellsT (plins R (lowX R) (lstY R) (widR R) (higR R)) ⟨lowX R, fstY R⟩ (higR R)).Nodup := by
    rw [cellsT_g]
    refine gcells_nodup fun i j hi hj h => ?_
    rw [hl] at h
    omega
  generalize cellsT (plins R (lowX R) (lstY R) (widR R) (higR R)) ⟨lowX R, fstY R⟩ (higR R) = l at *
  have hon : ∀ c ∈ l, onG c = true := fun c hc => cells_on hv ((hmem c).1 hc)
  obtain ⟨s1, s2, _⟩ := of_set hnd hon
  have hR : ofR l = R := region_uniq s1 hv fun c => by rw [s2, hmem]
  have hD : ofD l = .tup [.agg (regRow (ofR l)), .int .i64 (ofE l)] := rfl
  rw [hD, hR, of_err hon]
theorem rowOf_sh (R : List Row) (dx dy y : Int) : rowOf (R.map (shRow dx dy)) (y + dy) = (rowOf R y).map (shRun dx) := by
  unfold rowOf
  rw [List.find?_map]
  have : ((fun w : Row => decide (w.y = y + dy)) ∘ shRow dx dy) = fun w : Row => decide (w.y = y) := by
    funext w
    simp only [Function.comp, shRow]
    rw [Bool.eq_iff_iff]
    simp
  rw [this]
  cases R.find? (fun w : Row => decide (w.y = y)) with
  | none => rfl
  | some w => rfl
theorem inR_sh (l : List Run) (d x : Int) : inR (l.map (shRun d)) (x + d) = inR l x := by
  unfold inR
  rw [List.any_map]
  congr 1
  funext r
  simp only [Function.comp, shRun]
  rw [Bool.eq_iff_iff]
  simp
theorem box_sh {R : List Row} (hv : validR R = true) (h0 : 0 < R.length) {dx dy : Int} (hin : inB R dx dy = true) : lowX (R.map (shRow dx dy)) = lowX R + dx ∧ highX (R.map (shRow dx dy)) = highX R + dx ∧ fstY (R.map (shRow dx dy)) = fstY R + dy ∧ lstY (R.map (shRow dx dy)) = lstY R + dy := by
  have hne : R ≠ [] := List.length_pos_iff.1 h0
  have hS := sh_valid hv hne hin
  have b1 := box_bd hv h0
  have b2 := box_bd hS (by simpa using h0)
  obtain ⟨i1, i2, _, i3⟩ := inB_box hv h0 dx dy
  rw [i3] at hin
  simp only [Bool.and_eq_true, decide_eq_true_eq] at hin
  have ea : ∀ w ∈ R, fstA (shRow dx dy w) = fstA w + dx ∧ lstB (shRow dx dy w) = lstB w + dx := fun w hw => by
    obtain ⟨_, _, _, e4⟩ := row_ends (row_fine hv hw).2
    exact e4 dx dy
  have f1 := fun w hw => (foldMin fstA R 4096).2.1 w hw
  have f2 := fun w hw => (foldMax (fun w => lstB w - 1) R (-4096)).2.1 w hw
  have g1 := fun w hw => (foldMin fstA (R.map (shRow dx dy)) 4096).2.1 w hw
  have g2 := fun w hw => (foldMax (fun w => lstB w - 1) (R.map (shRow dx dy)) (-4096)).2.1 w hw
  have f3 := (foldMin fstA R 4096).2.2 (lowX (R.map (shRow dx dy)) - dx)
  have f4 := (foldMax (fun w => lstB w - 1) R (-4096)).2.2 (highX (R.map (shRow dx dy)) - dx)
  have g3 := (foldMin fstA (R.map (shRow dx dy)) 4096).2.2 (lowX R + dx)
  have g4 := (foldMax (fun w => lstB w - 1) (R.map (shRow dx dy)) (-4096)).2.2 (highX R + dx)
  change (∀ w, w ∈ R → lowX R ≤ fstA w) at f1
  change (∀ w, w ∈ R → lstB w - 1 ≤ highX R) at f2
  change (∀ w, w ∈ R.map (shRow dx dy) → lowX (R.map (shRow dx dy)) ≤ fstA w) at g1
  change (∀ w, w ∈ R.map (shRow dx dy) → lstB w - 1 ≤ highX (R.map (shRow dx dy))) at g2
  obtain ⟨w0, hw0⟩ : ∃ w, R[0]? = some w := getq h0
  have m0 := List.mem_of_getElem? hw0
  have e0 := ea w0 m0
  have v0 := row_ends0 (row_fine hv m0).2
  have q1 := g1 _ (List.mem_map_of_mem m0)
  have q2 := g2 _ (List.mem_map_of_mem m0)
  have f3' := f3 (by omega) fun w hw => by have := g1 _ (List.mem_map_of_mem hw); rw [(ea w hw).1] at this; omega
  have f4' := f4 (by omega) fun w hw => by have := g2 _ (List.mem_map_of_mem hw); rw [(ea w hw).2] at this; omega
  have g3' := g3 (by omega) fun w' hw' => by
    obtain ⟨w, hw, rfl⟩ := List.mem_map.1 hw'
    have := f1 w hw; rw [(ea w hw).1]; omega
  have g4' := g4 (by omega) fun w' hw' => by
    obtain ⟨w, hw, rfl⟩ := List.mem_map.1 hw'
    have := f2 w hw; rw [(ea w hw).2]; omega
  change lowX (R.map (shRow dx dy)) - dx ≤ lowX R at f3'
  change highX R ≤ highX (R.map (shRow dx dy)) - dx at f4'
  change lowX R + dx ≤ lowX (R.map (shRow dx dy)) at g3'
  change highX (R.map (shRow dx dy)) ≤ highX R + dx at g4'
  obtain ⟨w1, hw1⟩ : ∃ w, R[R.length - 1]? = some w := getq (by omega)
  refine ⟨by omega, by omega, ?_, ?_⟩
  · unfold fstY
    rw [List.getElem?_map, hw0]
    rfl
  · unfold lstY
    rw [List.length_map, List.getElem?_map, hw1]
    rfl
theorem pic_sh {R : List Row} (hv : validR R = true) (h0 : 0 < R.length) {dx dy : Int} (hin : inB R dx dy = true) : picS (R.map (shRow dx dy)) = picS R := by
  obtain ⟨b1, b2, b3, b4⟩ := box_sh hv h0 hin
  have hS := sh_valid hv (List.length_pos_iff.1 h0) hin
  have s1 : some? R = true := by simp [some?, hv, h0]
  have s2 : some? (R.map (shRow dx dy)) = true := by simp [some?, hS, h0]
  have hw : widR (R.map (shRow dx dy)) = widR R := by unfold widR; rw [b1, b2]; congr 1; omega
  have hh : higR (R.map (shRow dx dy)) = higR R := by unfold higR; rw [b3, b4]; congr 1; omega
  unfold picS
  rw [s1, s2, hw, hh, b1, b4]
  have hp : pics (R.map (shRow dx dy)) (lowX R + dx) (lstY R + dy) (widR R) (higR R) = pics R (lowX R) (lstY R) (widR R) (higR R) := by
    unfold pics
    congr 1
    funext j
    congr 1
    unfold plin
    congr 1
    funext k
    unfold pch
    rw [show lstY R + dy - (j : Int) = (lstY R - (j : Int)) + dy by omega, rowOf_sh, show lowX R + dx + (k : Int) = (lowX R + (k : Int)) + dx by omega, inR_sh]
  rw [hp]
end Go.Proofs.YtgicofpllopjmaaDoor

namespace Go.Proofs.YtgicofpllopjmaaDoor
open Go.Abs Go.Shelf

def larR (k m : Nat) : List Row := (List.range m).map fun i : Nat => ⟨(i : Int), [⟨-4096, (k : Int) - 4096⟩]⟩
end Go.Proofs.YtgicofpllopjmaaDoor

namespace Go.Proofs.YtgicofpllopjmaaDoor
open Go.Abs Go.ChangeShapes Go.WideShapes Go.ChangeAt Go.RowKit

end Go.Proofs.YtgicofpllopjmaaDoor

namespace Go.Proofs.YtgicofpllopjmaaDoor
open Go.Abs Go.ChangeShapes Go.WideShapes Go.ChangeAt Go.RowKit

end Go.Proofs.YtgicofpllopjmaaDoor

namespace Go.Proofs.YtgicofpllopjmaaDoor
open Go.Abs Go.Shelf

theorem nil_pic {R : List Row} (h : some? R = false) : picS R = [] := by
  unfold picS
  rw [if_neg (by rw [h]; simp)]
theorem pic_le (R : List Row) : (picS R).length ≤ 65536 := by
  unfold picS
  split
  · rename_i h
    rw [pics_len, Nat.mul_comm]
    exact h.2
  · simp
theorem low_box {R : List Row} (h : some? R = true) : boxLo R = ⟨lowX R, fstY R⟩ := (pic_facts h).1
set_option maxHeartbeats 2000000 in
theorem regiondrawn_ok (R : List Row) (dx dy : Int) : PC Tryd.prog 6 [.agg (regRow R), .int .i64 dx, .int .i64 dy] (.p (.bool true)) := by
  have c0 := drawn_ok
  have s1 := pcT (small_ok R)
  have f1 := fun h => @smallB_facts R h
  generalize smallB R = sa at *
  cases sa with
  | false =>
    refine pc_of_awp cx (fn := Tryd.f6) (c := _) Tryd.func6 rfl rfl (Nat.le_of_ble_eq_true rfl) ?_
    rw [Tryd.ntmps6]; refine Nav.imp ?_
    refine awp_region cx [] fun K hK => ?_
    simp [push_cast]
    repeat (refine And.intro (by clear hK; intros; first | omega | (simp_all; done) | (simp_all <;> omega)) ?_)
    refine hK _ ?_; clear hK K; refine Nav.imp ?_
    refine awp_region cx [(1, .p (.bool false))] fun K hK => ?_
    simp [push_cast, s1]
    repeat (refine And.intro (by clear hK; intros; first | omega | (simp_all; done) | (simp_all <;> omega)) ?_)
    refine hK _ ?_; clear hK K; refine Nav.imp ?_
    refine awp_cond (b := true) (by simp [push_cast]) (fun hb => ?_) (fun hb => ?_) <;> (refine Nav.imp ?_)
    · refine awp_region cx [(0, .p (.bool true))] fun K hK => ?_
      simp [push_cast, c0]
      repeat (refine And.intro (by clear hK; intros; first | omega | (simp_all; done) | (simp_all <;> omega)) ?_)
      refine hK _ ?_; clear hK K; refine Nav.imp ?_
      simp [push_cast]
    · simp at hb
  | true =>
    obtain ⟨a1, a2, a3⟩ := f1 rfl
    have hA := small_of a1 a2
    have c1 := picture_ok R hA
    have c2 := pcT (box_ok R hA)
    have c3 := pcT (shift_ok R dx dy hA)
    have n1 := fun h => @nil_pic R h
    have n2 := fun h => @read_pic R h
    have n3 := fun h => @low_box R h
    have n4 : some? R = true → validR R = true ∧ 0 < R.length := fun h => by simpa [some?] using h
    have n5 := fun h1 h2 => @pic_sh R h1 h2 dx dy
    have n6 : validR R = true → R ≠ [] → inB R dx dy = true → validR (R.map (shRow dx dy)) = true := fun h1 h2 h3 => sh_valid h1 h2 h3
    have n7 : some? R = true → shE R dx dy = if inB R dx dy then 0 else 8 := fun h => by
      unfold shE
      rw [if_pos (n4 h).1, if_neg (by have := (n4 h).2; omega)]
    have n8 : some? R = true → inB R dx dy = true → shR R dx dy = R.map (shRow dx dy) := fun h k => by
      unfold shR
      rw [h, k]; rfl
    rw [show boxD R = .tup [.agg (boxLo R).row, .agg (boxHi R).row, .bool (some? R)] from rfl] at c2
    have same0 := fun (T : List Row) (hT : validR T = true) => pcT (sameR_big T T (big_of (valid_small hT)) (big_of (valid_small hT)))
    cases hsm : some? R with
    | false =>
      have hp := n1 hsm
      rw [hp] at c1
      rw [hsm] at c2
      have o1 := fun (x y : Operand) (yt : TypeId) => opres_eq (P := Tryd.prog) (x := x) (y := y) (yt := yt) str_und [] []
      rw [show (([] : List UInt8) == []) = true from rfl] at o1
      refine pc_of_awp cx (fn := Tryd.f6) (c := _) Tryd.func6 rfl rfl (Nat.le_of_ble_eq_true rfl) ?_
      rw [Tryd.ntmps6]; refine Nav.imp ?_
      refine awp_region cx [] fun K hK => ?_
      simp [push_cast]
      repeat (refine And.intro (by clear hK; intros; first | omega | (simp_all; done) | (simp_all <;> omega)) ?_)
      refine hK _ ?_; clear hK K; refine Nav.imp ?_
      refine awp_region cx [(1, .p (.bool true))] fun K hK => ?_
      simp [push_cast, s1]
      repeat (refine And.intro (by clear hK; intros; first | omega | (simp_all; done) | (simp_all <;> omega)) ?_)
      refine hK _ ?_; clear hK K; refine Nav.imp ?_
      refine awp_cond (b := false) (by simp [push_cast]) (fun hb => ?_) (fun hb => ?_) <;> (refine Nav.imp ?_)
      · simp at hb
      · refine awp_region cx [(1, .p (strD []))] fun K hK => ?_
        simp [push_cast, c1]
        repeat (refine And.intro (by clear hK; intros; first | omega | (simp_all; done) | (simp_all <;> omega)) ?_)
        refine hK _ ?_; clear hK K; refine Nav.imp ?_
        refine awp_region cx [(1, .p (.tup [.agg (boxLo R).row, .agg (boxHi R).row, .bool false]))] fun K hK => ?_
        simp [push_cast, c2]
        repeat (refine And.intro (by clear hK; intros; first | omega | (simp_all; done) | (simp_all <;> omega)) ?_)
        refine hK _ ?_; clear hK K; refine Nav.imp ?_
        refine awp_region cx [] fun K hK => ?_
        simp [push_cast]
        repeat (refine And.intro (by clear hK; intros; first | omega | (simp_all; done) | (simp_all <;> omega)) ?_)
        refine hK _ ?_; clear hK K; refine Nav.imp ?_
        refine awp_cond (b := true) (by simp [push_cast]) (fun hb => ?_) (fun hb => ?_) <;> (refine Nav.imp ?_)
        · refine awp_region cx [(1, .p (.bool true)), (3, .p (.bool true))] fun K hK => ?_
          simp [push_cast, c0, o1]
          repeat (refine And.intro (by clear hK; intros; first | omega | (simp_all; done) | (simp_all <;> omega)) ?_)
          refine hK _ ?_; clear hK K; refine Nav.imp ?_
          simp [push_cast]
        · simp at hb
    | true =>
      obtain ⟨hv, h0⟩ := n4 hsm
      rw [hsm] at c2
      rw [n3 hsm] at c2
      rw [show shD R dx dy = .tup [.agg (regRow (shR R dx dy)), .int .i64 (shE R dx dy)] from rfl, n7 hsm] at c3
      by_cases hp : picS R = []
      · have o1 := fun (x y : Operand) (yt : TypeId) => opres_neq (P := Tryd.prog) (x := x) (y := y) (yt := yt) str_und [] []
        rw [show (([] : List UInt8) != []) = false from rfl] at o1
        have o2 := fun (x y : Operand) (yt : TypeId) => opres_eq (P := Tryd.prog) (x := x) (y := y) (yt := yt) str_und [] []
        rw [show (([] : List UInt8) == []) = true from rfl] at o2
        rw [hp] at c1
        cases hin : inB R dx dy with
        | false =>
          rw [hin, if_neg (by simp)] at c3
          generalize shR R dx dy = V at *
          generalize lowX R = ax at *
          generalize fstY R = ay at *
          generalize boxHi R = bh at *
          obtain ⟨bx, by1⟩ := bh
          refine pc_of_awp cx (fn := Tryd.f6) (c := _) Tryd.func6 rfl rfl (Nat.le_of_ble_eq_true rfl) ?_
          rw [Tryd.ntmps6]; refine Nav.imp ?_
          refine awp_region cx [] fun K hK => ?_
          simp [push_cast]
          repeat (refine And.intro (by clear hK; intros; first | omega | (simp_all; done) | (simp_all <;> omega)) ?_)
          refine hK _ ?_; clear hK K; refine Nav.imp ?_
          refine awp_region cx [(1, .p (.bool true))] fun K hK => ?_
          simp [push_cast, s1]
          repeat (refine And.intro (by clear hK; intros; first | omega | (simp_all; done) | (simp_all <;> omega)) ?_)
          refine hK _ ?_; clear hK K; refine Nav.imp ?_
          refine awp_cond (b := false) (by simp [push_cast]) (fun hb => ?_) (fun hb => ?_) <;> (refine Nav.imp ?_)
          · simp at hb
          · refine awp_region cx [(1, .p (strD []))] fun K hK => ?_
            simp [push_cast, c1]
            repeat (refine And.intro (by clear hK; intros; first | omega | (simp_all; done) | (simp_all <;> omega)) ?_)
            refine hK _ ?_; clear hK K; refine Nav.imp ?_
            refine awp_region cx [(1, .p (.tup [.agg [.int .i64 ax, .int .i64 ay], .agg [.int .i64 bx, .int .i64 by1], .bool true]))] fun K hK => ?_
            simp [push_cast, c2]
            repeat (refine And.intro (by clear hK; intros; first | omega | (simp_all; done) | (simp_all <;> omega)) ?_)
            refine hK _ ?_; clear hK K; refine Nav.imp ?_
            refine awp_region cx [] fun K hK => ?_
            simp [push_cast]
            repeat (refine And.intro (by clear hK; intros; first | omega | (simp_all; done) | (simp_all <;> omega)) ?_)
            refine hK _ ?_; clear hK K; refine Nav.imp ?_
            refine awp_cond (b := false) (by simp [push_cast]) (fun hb => ?_) (fun hb => ?_) <;> (refine Nav.imp ?_)
            · simp at hb
            · refine awp_region cx [(1, .p (.bool false))] fun K hK => ?_
              simp [push_cast, o1]
              repeat (refine And.intro (by clear hK; intros; first | omega | (simp_all; done) | (simp_all <;> omega)) ?_)
              refine hK _ ?_; clear hK K; refine Nav.imp ?_
              refine awp_cond (b := false) (by simp [push_cast]) (fun hb => ?_) (fun hb => ?_) <;> (refine Nav.imp ?_)
              · simp at hb
              · refine awp_region cx [(3, .p (.tup [.agg (regRow V), .int .i64 8]))] fun K hK => ?_
                simp [push_cast, c3]
                repeat (refine And.intro (by clear hK; intros; first | omega | (simp_all; done) | (simp_all <;> omega)) ?_)
                refine hK _ ?_; clear hK K; refine Nav.imp ?_
                refine awp_region cx [] fun K hK => ?_
                simp [push_cast]
                repeat (refine And.intro (by clear hK; intros; first | omega | (simp_all; done) | (simp_all <;> omega)) ?_)
                refine hK _ ?_; clear hK K; refine Nav.imp ?_
                refine awp_cond (b := true) (by simp [push_cast]) (fun hb => ?_) (fun hb => ?_) <;> (refine Nav.imp ?_)
                · refine awp_region cx [(0, .p (.bool true))] fun K hK => ?_
                  simp [push_cast, c0]
                  repeat (refine And.intro (by clear hK; intros; first | omega | (simp_all; done) | (simp_all <;> omega)) ?_)
                  refine hK _ ?_; clear hK K; refine Nav.imp ?_
                  simp [push_cast]
                · simp at hb
        | true =>
          rw [hin, if_pos rfl, n8 hsm hin] at c3
          have hvt := n6 hv (List.length_pos_iff.1 h0) hin
          have hst := valid_small hvt
          have c4 := pcT (box_ok _ hst)
          have ht : some? (R.map (shRow dx dy)) = true := by simp [some?, hvt, h0]
          rw [show boxD (R.map (shRow dx dy)) = .tup [.agg (boxLo (R.map (shRow dx dy))).row, .agg (boxHi (R.map (shRow dx dy))).row, .bool (some? (R.map (shRow dx dy)))] from rfl, ht, low_box ht] at c4
          have c5 := picture_ok _ hst
          rw [n5 hv h0 hin, hp] at c5
          have c6 := pcT (read_ok [] ⟨lowX (R.map (shRow dx dy)), fstY (R.map (shRow dx dy))⟩ (by simp))
          obtain ⟨V, e, hV, _⟩ := readR_form [] ⟨lowX (R.map (shRow dx dy)), fstY (R.map (shRow dx dy))⟩ (by simp)
          rw [hV] at c6
          generalize boxHi (R.map (shRow dx dy)) = bt at *
          obtain ⟨tx1, ty1⟩ := bt
          generalize lowX (R.map (shRow dx dy)) = tx at *
          generalize fstY (R.map (shRow dx dy)) = ty at *
          generalize R.map (shRow dx dy) = T at *
          generalize lowX R = ax at *
          generalize fstY R = ay at *
          generalize boxHi R = bh at *
          obtain ⟨bx, by1⟩ := bh
          refine pc_of_awp cx (fn := Tryd.f6) (c := _) Tryd.func6 rfl rfl (Nat.le_of_ble_eq_true rfl) ?_
          rw [Tryd.ntmps6]; refine Nav.imp ?_
          refine awp_region cx [] fun K hK => ?_
          simp [push_cast]
          repeat (refine And.intro (by clear hK; intros; first | omega | (simp_all; done) | (simp_all <;> omega)) ?_)
          refine hK _ ?_; clear hK K; refine Nav.imp ?_
          refine awp_region cx [(1, .p (.bool true))] fun K hK => ?_
          simp [push_cast, s1]
          repeat (refine And.intro (by clear hK; intros; first | omega | (simp_all; done) | (simp_all <;> omega)) ?_)
          refine hK _ ?_; clear hK K; refine Nav.imp ?_
          refine awp_cond (b := false) (by simp [push_cast]) (fun hb => ?_) (fun hb => ?_) <;> (refine Nav.imp ?_)
          · simp at hb
          · refine awp_region cx [(1, .p (strD []))] fun K hK => ?_
            simp [push_cast, c1]
            repeat (refine And.intro (by clear hK; intros; first | omega | (simp_all; done) | (simp_all <;> omega)) ?_)
            refine hK _ ?_; clear hK K; refine Nav.imp ?_
            refine awp_region cx [(1, .p (.tup [.agg [.int .i64 ax, .int .i64 ay], .agg [.int .i64 bx, .int .i64 by1], .bool true]))] fun K hK => ?_
            simp [push_cast, c2]
            repeat (refine And.intro (by clear hK; intros; first | omega | (simp_all; done) | (simp_all <;> omega)) ?_)
            refine hK _ ?_; clear hK K; refine Nav.imp ?_
            refine awp_region cx [] fun K hK => ?_
            simp [push_cast]
            repeat (refine And.intro (by clear hK; intros; first | omega | (simp_all; done) | (simp_all <;> omega)) ?_)
            refine hK _ ?_; clear hK K; refine Nav.imp ?_
            refine awp_cond (b := false) (by simp [push_cast]) (fun hb => ?_) (fun hb => ?_) <;> (refine Nav.imp ?_)
            · simp at hb
            · refine awp_region cx [(1, .p (.bool false))] fun K hK => ?_
              simp [push_cast, o1]
              repeat (refine And.intro (by clear hK; intros; first | omega | (simp_all; done) | (simp_all <;> omega)) ?_)
              refine hK _ ?_; clear hK K; refine Nav.imp ?_
              refine awp_cond (b := false) (by simp [push_cast]) (fun hb => ?_) (fun hb => ?_) <;> (refine Nav.imp ?_)
              · simp at hb
              · refine awp_region cx [(3, .p (.tup [.agg (regRow T), .int .i64 0]))] fun K hK => ?_
                simp [push_cast, c3]
                repeat (refine And.intro (by clear hK; intros; first | omega | (simp_all; done) | (simp_all <;> omega)) ?_)
                refine hK _ ?_; clear hK K; refine Nav.imp ?_
                refine awp_region cx [] fun K hK => ?_
                simp [push_cast]
                repeat (refine And.intro (by clear hK; intros; first | omega | (simp_all; done) | (simp_all <;> omega)) ?_)
                refine hK _ ?_; clear hK K; refine Nav.imp ?_
                refine awp_cond (b := false) (by simp [push_cast]) (fun hb => ?_) (fun hb => ?_) <;> (refine Nav.imp ?_)
                · simp at hb
                · refine awp_region cx [(1, .p (.tup [.agg [.int .i64 tx, .int .i64 ty], .agg [.int .i64 tx1, .int .i64 ty1], .bool true]))] fun K hK => ?_
                  simp [push_cast, c4]
                  repeat (refine And.intro (by clear hK; intros; first | omega | (simp_all; done) | (simp_all <;> omega)) ?_)
                  refine hK _ ?_; clear hK K; refine Nav.imp ?_
                  refine awp_region cx [(2, .p (.tup [.agg (regRow V), .int .i64 e]))] fun K hK => ?_
                  simp [push_cast, c6]
                  repeat (refine And.intro (by clear hK; intros; first | omega | (simp_all; done) | (simp_all <;> omega)) ?_)
                  refine hK _ ?_; clear hK K; refine Nav.imp ?_
                  refine awp_region cx [(1, .p (strD [])), (3, .p (.bool true)), (6, .p (.bool true)), (13, .skip), (18, .p (.bool true))] fun K hK => ?_
                  simp [push_cast, c5, c0, o2]
                  repeat (refine And.intro (by clear hK; intros; first | omega | (simp_all; done) | (simp_all <;> omega)) ?_)
                  refine hK _ ?_; clear hK K; refine Nav.imp ?_
                  simp [push_cast]
      · have hr1 := n2 hsm hp
        have same := same0 R hv
        rw [show sameB R R = true from by simp [sameB, hv]] at same
        have hl : (picS R).length ≤ 1000000 := by
          have := pic_le R
          omega
        have c7 := pcT (read_ok (picS R) ⟨lowX R, fstY R⟩ hl)
        rw [hr1] at c7
        have o1 := fun (x y : Operand) (yt : TypeId) => opres_neq (P := Tryd.prog) (x := x) (y := y) (yt := yt) str_und (picS R) []
        rw [show (picS R != []) = true from by simpa using hp] at o1
        have o2 := fun (x y : Operand) (yt : TypeId) => opres_eq (P := Tryd.prog) (x := x) (y := y) (yt := yt) str_und (picS R) (picS R)
        rw [show (picS R == picS R) = true from by simp] at o2
        have o3 := fun (x y : Operand) (yt : TypeId) => opres_eq (P := Tryd.prog) (x := x) (y := y) (yt := yt) str_und (picS R) []
        rw [show (picS R == []) = false from by simpa using hp] at o3
        cases hin : inB R dx dy with
        | false =>
          rw [hin, if_neg (by simp)] at c3
          generalize picS R = p at *
          generalize shR R dx dy = V at *
          generalize lowX R = ax at *
          generalize fstY R = ay at *
          generalize boxHi R = bh at *
          obtain ⟨bx, by1⟩ := bh
          refine pc_of_awp cx (fn := Tryd.f6) (c := _) Tryd.func6 rfl rfl (Nat.le_of_ble_eq_true rfl) ?_
          rw [Tryd.ntmps6]; refine Nav.imp ?_
          refine awp_region cx [] fun K hK => ?_
          simp [push_cast]
          repeat (refine And.intro (by clear hK; intros; first | omega | (simp_all; done) | (simp_all <;> omega)) ?_)
          refine hK _ ?_; clear hK K; refine Nav.imp ?_
          refine awp_region cx [(1, .p (.bool true))] fun K hK => ?_
          simp [push_cast, s1]
          repeat (refine And.intro (by clear hK; intros; first | omega | (simp_all; done) | (simp_all <;> omega)) ?_)
          refine hK _ ?_; clear hK K; refine Nav.imp ?_
          refine awp_cond (b := false) (by simp [push_cast]) (fun hb => ?_) (fun hb => ?_) <;> (refine Nav.imp ?_)
          · simp at hb
          · refine awp_region cx [(1, .p (strD p))] fun K hK => ?_
            simp [push_cast, c1]
            repeat (refine And.intro (by clear hK; intros; first | omega | (simp_all; done) | (simp_all <;> omega)) ?_)
            refine hK _ ?_; clear hK K; refine Nav.imp ?_
            refine awp_region cx [(1, .p (.tup [.agg [.int .i64 ax, .int .i64 ay], .agg [.int .i64 bx, .int .i64 by1], .bool true]))] fun K hK => ?_
            simp [push_cast, c2]
            repeat (refine And.intro (by clear hK; intros; first | omega | (simp_all; done) | (simp_all <;> omega)) ?_)
            refine hK _ ?_; clear hK K; refine Nav.imp ?_
            refine awp_region cx [] fun K hK => ?_
            simp [push_cast]
            repeat (refine And.intro (by clear hK; intros; first | omega | (simp_all; done) | (simp_all <;> omega)) ?_)
            refine hK _ ?_; clear hK K; refine Nav.imp ?_
            refine awp_cond (b := false) (by simp [push_cast]) (fun hb => ?_) (fun hb => ?_) <;> (refine Nav.imp ?_)
            · simp at hb
            · refine awp_region cx [(1, .p (.bool true))] fun K hK => ?_
              simp [push_cast, o1]
              repeat (refine And.intro (by clear hK; intros; first | omega | (simp_all; done) | (simp_all <;> omega)) ?_)
              refine hK _ ?_; clear hK K; refine Nav.imp ?_
              refine awp_cond (b := true) (by simp [push_cast]) (fun hb => ?_) (fun hb => ?_) <;> (refine Nav.imp ?_)
              · refine awp_region cx [(2, .p (.tup [.agg (regRow R), .int .i64 0]))] fun K hK => ?_
                simp [push_cast, c7]
                repeat (refine And.intro (by clear hK; intros; first | omega | (simp_all; done) | (simp_all <;> omega)) ?_)
                refine hK _ ?_; clear hK K; refine Nav.imp ?_
                refine awp_region cx [(5, .p (.bool true))] fun K hK => ?_
                simp [push_cast, same]
                repeat (refine And.intro (by clear hK; intros; first | omega | (simp_all; done) | (simp_all <;> omega)) ?_)
                refine hK _ ?_; clear hK K; refine Nav.imp ?_
                refine awp_cond (b := false) (by simp [push_cast]) (fun hb => ?_) (fun hb => ?_) <;> (refine Nav.imp ?_)
                · simp at hb
                · refine awp_region cx [(3, .p (.tup [.agg (regRow V), .int .i64 8]))] fun K hK => ?_
                  simp [push_cast, c3]
                  repeat (refine And.intro (by clear hK; intros; first | omega | (simp_all; done) | (simp_all <;> omega)) ?_)
                  refine hK _ ?_; clear hK K; refine Nav.imp ?_
                  refine awp_region cx [] fun K hK => ?_
                  simp [push_cast]
                  repeat (refine And.intro (by clear hK; intros; first | omega | (simp_all; done) | (simp_all <;> omega)) ?_)
                  refine hK _ ?_; clear hK K; refine Nav.imp ?_
                  refine awp_cond (b := true) (by simp [push_cast]) (fun hb => ?_) (fun hb => ?_) <;> (refine Nav.imp ?_)
                  · refine awp_region cx [(0, .p (.bool true))] fun K hK => ?_
                    simp [push_cast, c0]
                    repeat (refine And.intro (by clear hK; intros; first | omega | (simp_all; done) | (simp_all <;> omega)) ?_)
                    refine hK _ ?_; clear hK K; refine Nav.imp ?_
                    simp [push_cast]
                  · simp at hb
              · simp at hb
        | true =>
          rw [hin, if_pos rfl, n8 hsm hin] at c3
          have hvt := n6 hv (List.length_pos_iff.1 h0) hin
          have hst := valid_small hvt
          have c4 := pcT (box_ok _ hst)
          have ht : some? (R.map (shRow dx dy)) = true := by simp [some?, hvt, h0]
          rw [show boxD (R.map (shRow dx dy)) = .tup [.agg (boxLo (R.map (shRow dx dy))).row, .agg (boxHi (R.map (shRow dx dy))).row, .bool (some? (R.map (shRow dx dy)))] from rfl, ht, low_box ht] at c4
          have c5 := picture_ok _ hst
          have e5 := n5 hv h0 hin
          have hr2 := read_pic ht (by rw [e5]; exact hp)
          rw [e5] at c5 hr2
          have c6 := pcT (read_ok (picS R) ⟨lowX (R.map (shRow dx dy)), fstY (R.map (shRow dx dy))⟩ hl)
          rw [hr2] at c6
          have same2 := same0 _ hvt
          rw [show sameB (R.map (shRow dx dy)) (R.map (shRow dx dy)) = true from by simp [sameB, hvt]] at same2
          generalize picS R = p at *
          generalize boxHi (R.map (shRow dx dy)) = bt at *
          obtain ⟨tx1, ty1⟩ := bt
          generalize lowX (R.map (shRow dx dy)) = tx at *
          generalize fstY (R.map (shRow dx dy)) = ty at *
          generalize R.map (shRow dx dy) = T at *
          generalize lowX R = ax at *
          generalize fstY R = ay at *
          generalize boxHi R = bh at *
          obtain ⟨bx, by1⟩ := bh
          refine pc_of_awp cx (fn := Tryd.f6) (c := _) Tryd.func6 rfl rfl (Nat.le_of_ble_eq_true rfl) ?_
          rw [Tryd.ntmps6]; refine Nav.imp ?_
          refine awp_region cx [] fun K hK => ?_
          simp [push_cast]
          repeat (refine And.intro (by clear hK; intros; first | omega | (simp_all; done) | (simp_all <;> omega)) ?_)
          refine hK _ ?_; clear hK K; refine Nav.imp ?_
          refine awp_region cx [(1, .p (.bool true))] fun K hK => ?_
          simp [push_cast, s1]
          repeat (refine And.intro (by clear hK; intros; first | omega | (simp_all; done) | (simp_all <;> omega)) ?_)
          refine hK _ ?_; clear hK K; refine Nav.imp ?_
          refine awp_cond (b := false) (by simp [push_cast]) (fun hb => ?_) (fun hb => ?_) <;> (refine Nav.imp ?_)
          · simp at hb
          · refine awp_region cx [(1, .p (strD p))] fun K hK => ?_
            simp [push_cast, c1]
            repeat (refine And.intro (by clear hK; intros; first | omega | (simp_all; done) | (simp_all <;> omega)) ?_)
            refine hK _ ?_; clear hK K; refine Nav.imp ?_
            refine awp_region cx [(1, .p (.tup [.agg [.int .i64 ax, .int .i64 ay], .agg [.int .i64 bx, .int .i64 by1], .bool true]))] fun K hK => ?_
            simp [push_cast, c2]
            repeat (refine And.intro (by clear hK; intros; first | omega | (simp_all; done) | (simp_all <;> omega)) ?_)
            refine hK _ ?_; clear hK K; refine Nav.imp ?_
            refine awp_region cx [] fun K hK => ?_
            simp [push_cast]
            repeat (refine And.intro (by clear hK; intros; first | omega | (simp_all; done) | (simp_all <;> omega)) ?_)
            refine hK _ ?_; clear hK K; refine Nav.imp ?_
            refine awp_cond (b := false) (by simp [push_cast]) (fun hb => ?_) (fun hb => ?_) <;> (refine Nav.imp ?_)
            · simp at hb
            · refine awp_region cx [(1, .p (.bool true))] fun K hK => ?_
              simp [push_cast, o1]
              repeat (refine And.intro (by clear hK; intros; first | omega | (simp_all; done) | (simp_all <;> omega)) ?_)
              refine hK _ ?_; clear hK K; refine Nav.imp ?_
              refine awp_cond (b := true) (by simp [push_cast]) (fun hb => ?_) (fun hb => ?_) <;> (refine Nav.imp ?_)
              · refine awp_region cx [(2, .p (.tup [.agg (regRow R), .int .i64 0]))] fun K hK => ?_
                simp [push_cast, c7]
                repeat (refine And.intro (by clear hK; intros; first | omega | (simp_all; done) | (simp_all <;> omega)) ?_)
                refine hK _ ?_; clear hK K; refine Nav.imp ?_
                refine awp_region cx [(5, .p (.bool true))] fun K hK => ?_
                simp [push_cast, same]
                repeat (refine And.intro (by clear hK; intros; first | omega | (simp_all; done) | (simp_all <;> omega)) ?_)
                refine hK _ ?_; clear hK K; refine Nav.imp ?_
                refine awp_cond (b := false) (by simp [push_cast]) (fun hb => ?_) (fun hb => ?_) <;> (refine Nav.imp ?_)
                · simp at hb
                · refine awp_region cx [(3, .p (.tup [.agg (regRow T), .int .i64 0]))] fun K hK => ?_
                  simp [push_cast, c3]
                  repeat (refine And.intro (by clear hK; intros; first | omega | (simp_all; done) | (simp_all <;> omega)) ?_)
                  refine hK _ ?_; clear hK K; refine Nav.imp ?_
                  refine awp_region cx [] fun K hK => ?_
                  simp [push_cast]
                  repeat (refine And.intro (by clear hK; intros; first | omega | (simp_all; done) | (simp_all <;> omega)) ?_)
                  refine hK _ ?_; clear hK K; refine Nav.imp ?_
                  refine awp_cond (b := false) (by simp [push_cast]) (fun hb => ?_) (fun hb => ?_) <;> (refine Nav.imp ?_)
                  · simp at hb
                  · refine awp_region cx [(1, .p (.tup [.agg [.int .i64 tx, .int .i64 ty], .agg [.int .i64 tx1, .int .i64 ty1], .bool true]))] fun K hK => ?_
                    simp [push_cast, c4]
                    repeat (refine And.intro (by clear hK; intros; first | omega | (simp_all; done) | (simp_all <;> omega)) ?_)
                    refine hK _ ?_; clear hK K; refine Nav.imp ?_
                    refine awp_region cx [(2, .p (.tup [.agg (regRow T), .int .i64 0]))] fun K hK => ?_
                    simp [push_cast, c6]
                    repeat (refine And.intro (by clear hK; intros; first | omega | (simp_all; done) | (simp_all <;> omega)) ?_)
                    refine hK _ ?_; clear hK K; refine Nav.imp ?_
                    refine awp_region cx [(1, .p (strD p)), (3, .p (.bool true)), (6, .p (.bool false)), (13, .p (.bool true)), (18, .p (.bool true))] fun K hK => ?_
                    simp [push_cast, c5, c0, o2, o3, same2]
                    repeat (refine And.intro (by clear hK; intros; first | omega | (simp_all; done) | (simp_all <;> omega)) ?_)
                    refine hK _ ?_; clear hK K; refine Nav.imp ?_
                    simp [push_cast]
              · simp at hb
end Go.Proofs.YtgicofpllopjmaaDoor
