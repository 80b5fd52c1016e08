/-
  Texts of this seat put together: BE1, BE2, BE3, BE4, BB1, BB3, BB4, BB5.
-/
import Derived.Test.YtdddknniooimmaaGreatI10
import Derived.Test.YtdddknniooimmaaGreatI7
import Derived.Test.YtdddknniooimmaaGreatI8
import Derived.Test.YtdddknniooimmaaGreatI12
import Derived.Test.YtdddknniooimmaaGreatI11
set_option linter.unusedVariables false
set_option linter.unusedSimpArgs false
set_option maxRecDepth 100000
namespace Go.Proofs.YtdddknniooimmaaGreat
open Go.Abs

def epsL (a b : Cell) : Int := if a.x - b.x + a.y - b.y < 0 then -(a.x - b.x + a.y - b.y) else a.x - b.x + a.y - b.y
def epsA (a b : Cell) : Int := a.x * b.y - a.y * b.x
def kapA (c : Crk) : Int := match c.h with | .e => -c.p.y | .n => c.p.x | .w => c.p.y | .s => -c.p.x
def revC (c : Crk) : Crk := ⟨c.q, match c.h with | .e => .w | .n => .s | .w => .e | .s => .n⟩
def innL (R : List Row) : List Crk := (regCells R).flatMap fun d => (crks d).filter fun c => Sof R (rcell c.h c.p)
end Go.Proofs.YtdddknniooimmaaGreat

namespace Go.Proofs.YtdddknniooimmaaGreat
open Go.Abs

def Perp (h k : Hd) : Prop := k = h.l ∨ k = h.r
def Hd.vert : Hd → Bool | .e => false | .n => true | .w => false | .s => true
theorem Perp.vert {h k : Hd} (p : Perp h k) : k.vert = !h.vert := by
  rcases p with rfl | rfl <;> cases h <;> rfl
def turnC (h : Hd) : List Crk → List Crk
  | [] => []
  | d :: t => if d.h = h then turnC d.h t else d :: turnC d.h t
def Hds : Hd → List Crk → Prop
  | _, [] => True
  | h, d :: t => (d.h = h ∨ Perp h d.h) ∧ Hds d.h t
def Rel (a b : Crk) : Prop := (∃ k : Int, 1 ≤ k ∧ b.p = mv a.p a.h k) ∧ Perp a.h b.h
def cAll : List Crk → Prop
  | a :: b :: t => Rel a b ∧ cAll (b :: t)
  | _ => True
end Go.Proofs.YtdddknniooimmaaGreat

namespace Go.Proofs.YtdddknniooimmaaGreat
open Go.Abs

theorem valid05_ok (a : Cell) (ha : (-4096 ≤ a.x ∧ a.x ≤ 4096) ∧ -4096 ≤ a.y ∧ a.y ≤ 4096) : PC Tryz.prog 153 [.agg a.row] (.p (.bool true)) := by
  obtain ⟨ax, ay⟩ := a
  simp only at ha
  have h1 : (-16777216 : Int) ≤ ax := by omega
  have h2 : ax ≤ 16777216 := by omega
  have h3 : (-16777216 : Int) ≤ ay := by omega
  have h4 : ay ≤ 16777216 := by omega
  refine pc_of_awp cx (fn := Tryz.f153) (c := _) Tryz.func153 rfl rfl (Nat.le_of_ble_eq_true rfl) ?_
  rw [Tryz.ntmps153]; refine Nav.imp ?_
  refine awp_region cx [] fun K hK => ?_
  simp [push_cast]
  repeat (refine And.intro (by clear hK; intros; first | omega | (simp_all; done) | (simp_all <;> omega)) ?_)
  refine hK _ ?_; clear hK K; refine Nav.imp ?_
  refine awp_region cx [] fun K hK => ?_
  simp [push_cast, h1, h2, h3, h4]
  repeat (refine And.intro (by clear hK; intros; first | omega | (simp_all; done) | (simp_all <;> omega)) ?_)
  refine hK _ ?_; clear hK K; refine Nav.imp ?_
  simp [push_cast, h1, h2, h3, h4]

def epsAt (ε : Cell → Cell → Int) (P : List Cell) (k : Nat) : Int := match P[k]?, P[(k + 1) % P.length]? with
  | some a, some b => ε a b
  | _, _ => 0
def cycTo (ε : Cell → Cell → Int) (P : List Cell) (i : Nat) : Int := ((List.range i).map (epsAt ε P)).sum
end Go.Proofs.YtdddknniooimmaaGreat

namespace Go.Proofs.YtdddknniooimmaaGreat
open Go.Abs

def nrP (P : List Cell) : Prop := ∀ p ∈ P, (-4096 ≤ p.x ∧ p.x ≤ 4096) ∧ -4096 ≤ p.y ∧ p.y ≤ 4096
end Go.Proofs.YtdddknniooimmaaGreat

namespace Go.Proofs.YtdddknniooimmaaGreat
open Go.Abs

def crs (a b c : Cell) : Int := (b.x - a.x) * (c.y - a.y) - (b.y - a.y) * (c.x - a.x)
def sgnI (n : Int) : Int := if 0 < n then 1 else if n < 0 then -1 else 0
theorem sgnI_pos (n : Int) : 0 < sgnI n ↔ 0 < n := by unfold sgnI; split <;> (try split) <;> omega
theorem sgnI_neg (n : Int) : sgnI n < 0 ↔ n < 0 := by unfold sgnI; split <;> (try split) <;> omega
theorem mul_bd2 {a b : Int} (ha : -8192 ≤ a ∧ a ≤ 8192) (hb : -8192 ≤ b ∧ b ≤ 8192) : -67108864 ≤ a * b ∧ a * b ≤ 67108864 := by
  have h1 : 0 ≤ (8192 - a) * (8192 + b) := Int.mul_nonneg (by omega) (by omega)
  have h2 : 0 ≤ (8192 + a) * (8192 - b) := Int.mul_nonneg (by omega) (by omega)
  have h3 : 0 ≤ (8192 - a) * (8192 - b) := Int.mul_nonneg (by omega) (by omega)
  have h4 : 0 ≤ (8192 + a) * (8192 + b) := Int.mul_nonneg (by omega) (by omega)
  simp only [Int.mul_add, Int.add_mul, Int.sub_mul, Int.mul_sub] at h1 h2 h3 h4
  omega
theorem crs_vert {a b c : Cell} (h : a.x = b.x) : crs a b c = -((b.y - a.y) * (c.x - a.x)) := by
  unfold crs
  rw [h, Int.sub_self, Int.zero_mul, Int.zero_sub]
theorem crs_up {a b c : Cell} (h : a.x = b.x) (hy : a.y < b.y) : 0 < crs a b c ↔ c.x < a.x := by
  rw [crs_vert h]
  constructor
  · intro h1
    by_cases h2 : c.x < a.x
    · exact h2
    · have : 0 ≤ (b.y - a.y) * (c.x - a.x) := Int.mul_nonneg (by omega) (by omega)
      omega
  · intro h1
    have := Int.mul_neg_of_pos_of_neg (a := b.y - a.y) (b := c.x - a.x) (by omega) (by omega)
    omega
theorem crs_dn {a b c : Cell} (h : a.x = b.x) (hy : b.y < a.y) : crs a b c < 0 ↔ c.x < a.x := by
  rw [crs_vert h]
  constructor
  · intro h1
    by_cases h2 : c.x < a.x
    · exact h2
    · have : 0 ≤ (a.y - b.y) * (c.x - a.x) := Int.mul_nonneg (by omega) (by omega)
      have e : (a.y - b.y) * (c.x - a.x) = -((b.y - a.y) * (c.x - a.x)) := by rw [← Int.neg_mul]; congr 1; omega
      omega
  · intro h1
    have := Int.mul_pos_of_neg_of_neg (a := b.y - a.y) (b := c.x - a.x) (by omega) (by omega)
    omega
theorem cross_eq {a b : Cell} (h : ((a.x == b.x) == (a.y == b.y)) = false) (p : Cell) : wS (edge a b) p.x p.y = if a.y ≤ p.y ∧ p.y < b.y ∧ 0 < sgnI (crs a b p) then 1 else if b.y ≤ p.y ∧ p.y < a.y ∧ sgnI (crs a b p) < 0 then -1 else 0 := by
  simp only [sgnI_pos, sgnI_neg]
  unfold edge
  by_cases h1 : a.y < b.y
  · have hx : a.x = b.x := by
      have : (a.y == b.y) = false := by simp; omega
      rw [this] at h
      simpa using h
    rw [if_pos h1, wS_one]
    simp only [crs_up hx h1, act, Bool.and_eq_true, decide_eq_true_eq, and_assoc]
    rw [if_neg (c := b.y ≤ p.y ∧ _) (by omega)]
  · rw [if_neg h1]
    by_cases h2 : b.y < a.y
    · have hx : a.x = b.x := by
        have : (a.y == b.y) = false := by simp; omega
        rw [this] at h
        simpa using h
      rw [if_pos h2, wS_one, if_neg (c := a.y ≤ p.y ∧ _) (by omega)]
      simp only [crs_dn hx h2, act, Bool.and_eq_true, decide_eq_true_eq, and_assoc]
    · rw [if_neg h2, if_neg (by omega), if_neg (by omega)]
      rfl
theorem wS_bd : ∀ (U : List Up) (x y : Int), (∀ u ∈ U, u.s = 1 ∨ u.s = -1) → -(U.length : Int) ≤ wS U x y ∧ wS U x y ≤ U.length
  | [], x, y, _ => by simp [wS]
  | u :: U, x, y, h => by
    have ih := wS_bd U x y fun v hv => h v (by simp [hv])
    have e : wS (u :: U) x y = wS [u] x y + wS U x y := wS_app [u] U x y
    rw [e, wS_one, List.length_cons]
    have := h u (by simp)
    split <;> omega

def lst (a b : Int) : Int := if a < b then a else b
def stepB (b : Cell × Cell) (p : Cell) : Cell × Cell := (⟨lst b.1.x p.x, lst b.1.y p.y⟩, ⟨-lst (-b.2.x) (-p.x), -lst (-b.2.y) (-p.y)⟩)
def bxB (L : List Cell) : Cell × Cell := L.foldl stepB (⟨0, 0⟩, ⟨0, 0⟩)
structure BoxF (L : List Cell) (b : Cell × Cell) : Prop where
  lx : -12 ≤ b.1.x ∧ b.1.x ≤ 0
  ly : -12 ≤ b.1.y ∧ b.1.y ≤ 0
  hx : 0 ≤ b.2.x ∧ b.2.x ≤ 12
  hy : 0 ≤ b.2.y ∧ b.2.y ≤ 12
  all : ∀ p ∈ L, b.1.x ≤ p.x ∧ p.x ≤ b.2.x ∧ b.1.y ≤ p.y ∧ p.y ≤ b.2.y
def smallP (P : List Cell) : Prop := ∀ p ∈ P, (-12 ≤ p.x ∧ p.x ≤ 12) ∧ -12 ≤ p.y ∧ p.y ≤ 12
theorem bxB_snoc (L : List Cell) (p : Cell) : bxB (L ++ [p]) = stepB (bxB L) p := by simp [bxB, List.foldl_append]
theorem bxB_facts (L : List Cell) (h : smallP L) : BoxF L (bxB L) := by
  have : ∀ k, k ≤ L.length → BoxF (L.take k) (bxB (L.take k)) := by
    intro k
    induction k with
    | zero => intro _; exact ⟨by simp [bxB], by simp [bxB], by simp [bxB], by simp [bxB], by simp⟩
    | succ k ih =>
      intro hk
      obtain ⟨p, hp⟩ := getq (show k < L.length by omega)
      have hs := h p (List.mem_of_getElem? hp)
      have ih := ih (by omega)
      rw [take_get hp, bxB_snoc]
      obtain ⟨h1, h2, h3, h4, h5⟩ := ih
      generalize bxB (L.take k) = b at *
      obtain ⟨⟨lx, ly⟩, ⟨hx, hy⟩⟩ := b
      simp only at *
      refine ⟨?_, ?_, ?_, ?_, fun q hq => ?_⟩
      · simp only [stepB, lst]; split <;> omega
      · simp only [stepB, lst]; split <;> omega
      · simp only [stepB, lst]; split <;> omega
      · simp only [stepB, lst]; split <;> omega
      · rcases List.mem_append.1 hq with hq | hq
        · have := h5 q hq
          simp only [stepB, lst]
          refine ⟨?_, ?_, ?_, ?_⟩ <;> split <;> omega
        · have e := List.mem_singleton.1 hq
          subst e
          simp only [stepB, lst]
          refine ⟨?_, ?_, ?_, ?_⟩ <;> split <;> omega
  have := this L.length (Nat.le_refl _)
  rwa [List.take_length] at this
def rowC (U : List Up) (x0 y : Int) (n : Nat) : List Cell := (List.range n).flatMap fun k : Nat => if 0 < wS U (x0 + k) y then [⟨x0 + k, y⟩] else []
def gridC (U : List Up) (x0 y0 : Int) (w n : Nat) : List Cell := (List.range n).flatMap fun j : Nat => rowC U x0 (y0 + j) w
theorem rowC_succ (U : List Up) (x0 y : Int) (n : Nat) : rowC U x0 y (n + 1) = rowC U x0 y n ++ (if 0 < wS U (x0 + n) y then [⟨x0 + n, y⟩] else []) := flat_rg _ n
theorem gridC_succ (U : List Up) (x0 y0 : Int) (w n : Nat) : gridC U x0 y0 w (n + 1) = gridC U x0 y0 w n ++ rowC U x0 (y0 + n) w := flat_rg _ n
theorem rowC_mem {U : List Up} {x0 y : Int} {n : Nat} {c : Cell} : c ∈ rowC U x0 y n ↔ c.y = y ∧ x0 ≤ c.x ∧ c.x < x0 + n ∧ 0 < wS U c.x c.y := by
  unfold rowC
  simp only [List.mem_flatMap, List.mem_range]
  constructor
  · rintro ⟨k, hk, h⟩
    split at h
    · have := List.mem_singleton.1 h
      subst this
      exact ⟨rfl, by simp only; omega, by simp only; omega, by assumption⟩
    · cases h
  · rintro ⟨rfl, h1, h2, h3⟩
    have e : x0 + ((c.x - x0).toNat : Int) = c.x := by omega
    refine ⟨(c.x - x0).toNat, by omega, ?_⟩
    rw [e, if_pos h3]
    simp
theorem gridC_mem {U : List Up} {x0 y0 : Int} {w n : Nat} {c : Cell} : c ∈ gridC U x0 y0 w n ↔ (y0 ≤ c.y ∧ c.y < y0 + n) ∧ (x0 ≤ c.x ∧ c.x < x0 + w) ∧ 0 < wS U c.x c.y := by
  unfold gridC
  simp only [List.mem_flatMap, List.mem_range, rowC_mem]
  constructor
  · rintro ⟨k, hk, h1, h2, h3, h4⟩
    exact ⟨by omega, ⟨h2, h3⟩, h4⟩
  · rintro ⟨h1, h2, h3⟩
    exact ⟨(c.y - y0).toNat, by omega, by omega, h2.1, h2.2, h3⟩
theorem rowC_len (U : List Up) (x0 y : Int) (n : Nat) : (rowC U x0 y n).length ≤ n := by
  have := flat_cap1 (fun k : Nat => if 0 < wS U (x0 + k) y then [(⟨x0 + k, y⟩ : Cell)] else []) (fun k => by split <;> simp) (List.range n)
  rwa [List.length_range] at this
theorem gridC_len (U : List Up) (x0 y0 : Int) (w n : Nat) : (gridC U x0 y0 w n).length ≤ w * n := by
  have := flat_cap (fun j : Nat => rowC U x0 (y0 + j) w) w (List.range n) fun j _ => rowC_len ..
  rwa [List.length_range] at this
theorem rowC_pw (U : List Up) (x0 y : Int) : ∀ n, (rowC U x0 y n).Pairwise ltY
  | 0 => by simp [rowC]
  | n + 1 => by
    rw [rowC_succ, List.pairwise_append]
    refine ⟨rowC_pw U x0 y n, by split <;> simp, fun a ha b hb => ?_⟩
    have h1 := rowC_mem.1 ha
    split at hb
    · have := List.mem_singleton.1 hb
      subst this
      exact .inr ⟨h1.1, by simp only; omega⟩
    · cases hb
theorem gridC_pw (U : List Up) (x0 y0 : Int) (w : Nat) : ∀ n, (gridC U x0 y0 w n).Pairwise ltY
  | 0 => by simp [gridC]
  | n + 1 => by
    rw [gridC_succ, List.pairwise_append]
    refine ⟨gridC_pw U x0 y0 w n, rowC_pw .., fun a ha b hb => ?_⟩
    have h1 := gridC_mem.1 ha
    have h2 := rowC_mem.1 hb
    exact .inl (by omega)
theorem ups_pts {l : List (List Cell)} {u : Up} (hu : u ∈ ups l) : ∃ p q, p ∈ l.flatten ∧ q ∈ l.flatten ∧ u.x = p.x ∧ (u.lo = p.y ∧ u.hi = q.y ∨ u.lo = q.y ∧ u.hi = p.y) := by
  obtain ⟨P, hP, hu⟩ := List.mem_flatMap.1 hu
  obtain ⟨k, hk, hu⟩ := List.mem_flatMap.1 hu
  rw [List.mem_range] at hk
  obtain ⟨a, ha⟩ := getq hk
  obtain ⟨b, hb⟩ := getq (l := P) (k := (k + 1) % P.length) (Nat.mod_lt _ (by omega))
  rw [edgeAt_some ha hb] at hu
  have ma : a ∈ l.flatten := List.mem_flatten.2 ⟨P, hP, List.mem_of_getElem? ha⟩
  have mb : b ∈ l.flatten := List.mem_flatten.2 ⟨P, hP, List.mem_of_getElem? hb⟩
  unfold edge at hu
  split at hu
  · have e := List.mem_singleton.1 hu
    subst e
    exact ⟨a, b, ma, mb, rfl, .inl ⟨rfl, rfl⟩⟩
  · split at hu
    · have e := List.mem_singleton.1 hu
      subst e
      exact ⟨a, b, ma, mb, rfl, .inr ⟨rfl, rfl⟩⟩
    · cases hu
theorem wS_ex {U : List Up} {x y : Int} (h : 0 < wS U x y) : ∃ u ∈ U, act y u = true ∧ x < u.x := by
  unfold wS at h
  cases hf : U.filter fun u => act y u && decide (x < u.x) with
  | nil => rw [hf] at h; simp at h
  | cons u t =>
    have : u ∈ U.filter fun u => act y u && decide (x < u.x) := by rw [hf]; simp
    obtain ⟨h1, h2⟩ := List.mem_filter.1 this
    simp only [Bool.and_eq_true, decide_eq_true_eq] at h2
    exact ⟨u, h1, h2.1, h2.2⟩
theorem wS_box {l : List (List Cell)} {b : Cell × Cell} (h : BoxF l.flatten b) {x y : Int} (hw : 0 < wS (ups l) x y) : (b.1.x ≤ x ∧ x < b.2.x) ∧ b.1.y ≤ y ∧ y < b.2.y := by
  obtain ⟨u, hu, ha, hx⟩ := wS_ex hw
  obtain ⟨p, q, hp, hq, e1, e2⟩ := ups_pts hu
  have bp := h.all p hp
  have bq := h.all q hq
  simp only [act, Bool.and_eq_true, decide_eq_true_eq] at ha
  have hlo : b.1.x ≤ x := by
    by_cases hc : b.1.x ≤ x
    · exact hc
    · have : wS (ups l) x y = tot (ups l) y := wS_tot fun v hv _ => by
        obtain ⟨p', q', hp', _, e1', _⟩ := ups_pts hv
        have := h.all p' hp'
        omega
      rw [this, tot_ups] at hw
      omega
  refine ⟨⟨hlo, by omega⟩, ?_, ?_⟩ <;> rcases e2 with ⟨e, e'⟩ | ⟨e, e'⟩ <;> omega
theorem ofR_cellsB {R : List Row} (hv : validR R = true) {l : List Cell} (hp : l.Pairwise ltY) (hm : ∀ c, c ∈ l ↔ c ∈ regCells R) : ofR l = R := by
  have e : l = regCells R := ltY_uniq hp (cells_pw hv) hm
  subst e
  unfold ofR
  rw [if_pos (List.all_eq_true.2 fun c hc => cells_on hv hc), sortY_cells hv (List.Perm.refl _), build_cells hv]
theorem ofE_cellsB {R : List Row} (hv : validR R = true) {l : List Cell} (hm : ∀ c ∈ l, c ∈ regCells R) : ofE l = 0 := by
  unfold ofE
  rw [if_pos (List.all_eq_true.2 fun c hc => cells_on hv (hm c hc))]
theorem grid_back {l : List (List Cell)} {b : Cell × Cell} (h : BoxF l.flatten b) {B : List Row} (hv : validR B = true) (hB : ∀ c, c ∈ regCells B ↔ 0 < wS (ups l) c.x c.y) : ofR (gridC (ups l) b.1.x b.1.y (b.2.x - b.1.x).toNat (b.2.y - b.1.y).toNat) = B ∧ ofE (gridC (ups l) b.1.x b.1.y (b.2.x - b.1.x).toNat (b.2.y - b.1.y).toNat) = 0 := by
  have hm : ∀ c, c ∈ gridC (ups l) b.1.x b.1.y (b.2.x - b.1.x).toNat (b.2.y - b.1.y).toNat ↔ c ∈ regCells B := fun c => by
    rw [gridC_mem, hB]
    have h1 := h.lx
    have h2 := h.ly
    have h3 := h.hx
    have h4 := h.hy
    constructor
    · exact fun h => h.2.2
    · intro hw
      have := wS_box h hw
      exact ⟨⟨by omega, by omega⟩, ⟨by omega, by omega⟩, hw⟩
  exact ⟨ofR_cellsB hv (gridC_pw ..) hm, ofE_cellsB hv fun c hc => (hm c).1 hc⟩

def cutC (x : Int) : Int := if x < -4096 ∨ 4096 < x then x else x.tmod 13
def nearF (P : List Cell) : List Cell := (P.take 12).map fun p => ⟨cutC p.x, cutC p.y⟩
def nearL (l : List (List Cell)) : List (List Cell) := (l.take 5).map nearF
theorem cutC_bd (x : Int) (h : -4096 ≤ cutC x ∧ cutC x ≤ 4096) : -12 ≤ cutC x ∧ cutC x ≤ 12 := by
  unfold cutC at *
  split
  · rename_i hc
    rw [if_pos hc] at h
    omega
  · have h1 := Int.tmod_lt_of_pos x (b := 13) (by omega)
    have h2 := Int.lt_tmod_of_pos x (b := 13) (by omega)
    omega
theorem nearF_len (P : List Cell) : (nearF P).length ≤ 12 := by simp [nearF]; omega
theorem nearL_len (l : List (List Cell)) : (nearL l).length ≤ 5 := by simp [nearL]; omega
theorem nearL_mem {l : List (List Cell)} {P : List Cell} (h : P ∈ nearL l) : P.length ≤ 12 := by
  obtain ⟨Q, _, rfl⟩ := List.mem_map.1 h
  exact nearF_len Q
theorem sum_cap : ∀ (l : List (List Cell)), (∀ P ∈ l, P.length ≤ 12) → (l.map List.length).sum ≤ 12 * l.length
  | [], _ => by simp
  | P :: l, h => by
    have h1 := h P (by simp)
    have h2 := sum_cap l fun Q hQ => h Q (by simp [hQ])
    simp only [List.map_cons, List.sum_cons, List.length_cons]
    omega
theorem bad_small {l : List (List Cell)} {P : List Cell} (hP : P ∈ nearL l) (h : badP P = false) : smallP P := by
  intro p hp
  obtain ⟨k, hk⟩ := List.mem_iff_getElem?.1 hp
  have hkl := (List.getElem?_eq_some_iff.1 hk).1
  obtain ⟨b, hb⟩ := getq (l := P) (k := (k + 1) % P.length) (Nat.mod_lt _ (by omega))
  have hf : badAt P k = false := by
    cases hc : badAt P k with
    | false => rfl
    | true =>
      have : badP P = true := by unfold badP; rw [List.any_eq_true]; exact ⟨k, List.mem_range.2 hkl, hc⟩
      rw [this] at h; cases h
  rw [badAt_some hk hb] at hf
  have hbd := badE_bd hf
  obtain ⟨Q, _, rfl⟩ := List.mem_map.1 hP
  obtain ⟨q, _, rfl⟩ := List.mem_map.1 hp
  exact ⟨cutC_bd _ hbd.1, cutC_bd _ hbd.2⟩
end Go.Proofs.YtdddknniooimmaaGreat

namespace Go.Proofs.YtdddknniooimmaaGreat
open Go.Abs

abbrev nearC2 (p : Cell) : Prop := (-4096 ≤ p.x ∧ p.x ≤ 4096) ∧ -4096 ≤ p.y ∧ p.y ≤ 4096
theorem cross05_ok (a b c : Cell) (na : nearC2 a) (nb : nearC2 b) (nc : nearC2 c) : PC Tryz.prog 257 [.agg a.row, .agg b.row, .agg c.row] (.p (.int .i64 (crs a b c))) := by
  have v1 := valid05_ok a na
  have v2 := valid05_ok b nb
  have v3 := valid05_ok c nc
  have hE : crs a b c = (b.x - a.x) * (c.y - a.y) - (b.y - a.y) * (c.x - a.x) := rfl
  have w1 := wrap_i64 (n := b.x - a.x) (by omega) (by omega)
  have w2 := wrap_i64 (n := c.y - a.y) (by omega) (by omega)
  have w3 := wrap_i64 (n := b.y - a.y) (by omega) (by omega)
  have w4 := wrap_i64 (n := c.x - a.x) (by omega) (by omega)
  have m1 := mul_bd2 (a := b.x - a.x) (b := c.y - a.y) (by omega) (by omega)
  have m2 := mul_bd2 (a := b.y - a.y) (b := c.x - a.x) (by omega) (by omega)
  generalize crs a b c = e at *
  generalize hu1 : b.x - a.x = u1 at *
  generalize hu2 : c.y - a.y = u2 at *
  generalize hu3 : b.y - a.y = u3 at *
  generalize hu4 : c.x - a.x = u4 at *
  have w5 := wrap_i64 (n := u1 * u2) (by omega) (by omega)
  have w6 := wrap_i64 (n := u3 * u4) (by omega) (by omega)
  have w7 := wrap_i64 (n := u1 * u2 - u3 * u4) (by omega) (by omega)
  refine pc_of_awp cx (fn := Tryz.f257) (c := _) Tryz.func257 rfl rfl (Nat.le_of_ble_eq_true rfl) ?_
  rw [Tryz.ntmps257]; refine Nav.imp ?_
  refine awp_region cx [] fun K hK => ?_
  simp [push_cast]
  repeat (refine And.intro (by clear hK; intros; first | omega | (simp_all; done) | (simp_all <;> omega)) ?_)
  refine hK _ ?_; clear hK K; refine Nav.imp ?_
  refine awp_region cx [(1, .p (.bool true)), (5, .p (.bool true)), (10, .p (.bool true))] fun K hK => ?_
  simp [push_cast, v1, v2, v3]
  repeat (refine And.intro (by clear hK; intros; first | omega | (simp_all; done) | (simp_all <;> omega)) ?_)
  refine hK _ ?_; clear hK K; refine Nav.imp ?_
  refine awp_cond (b := false) (by simp [push_cast]) (fun hb => ?_) (fun hb => ?_) <;> (refine Nav.imp ?_)
  · simp at hb
  · refine awp_region cx [] fun K hK => ?_
    simp [push_cast, hu1, hu2, hu3, hu4, w1, w2, w3, w4, w5, w6, w7]
    repeat (refine And.intro (by clear hK; intros; first | omega | (simp_all; done) | (simp_all <;> omega)) ?_)
    refine hK _ ?_; clear hK K; refine Nav.imp ?_
    simp [push_cast, hE]
theorem turn05_ok (a b c : Cell) (na : nearC2 a) (nb : nearC2 b) (nc : nearC2 c) : PC Tryz.prog 227 [.agg a.row, .agg b.row, .agg c.row] (.p (.int .i64 (sgnI (crs a b c)))) := by
  have c1 := cross05_ok a b c na nb nc
  generalize crs a b c = n at *
  have hS : sgnI n = if 0 < n then 1 else if n < 0 then -1 else 0 := rfl
  generalize sgnI n = s at *
  refine pc_of_awp cx (fn := Tryz.f227) (c := _) Tryz.func227 rfl rfl (Nat.le_of_ble_eq_true rfl) ?_
  rw [Tryz.ntmps227]; refine Nav.imp ?_
  refine awp_region cx [] fun K hK => ?_
  simp [push_cast]
  repeat (refine And.intro (by clear hK; intros; first | omega | (simp_all; done) | (simp_all <;> omega)) ?_)
  refine hK _ ?_; clear hK K; refine Nav.imp ?_
  refine awp_region cx [(3, .p (.int .i64 n))] fun K hK => ?_
  simp [push_cast, c1]
  repeat (refine And.intro (by clear hK; intros; first | omega | (simp_all; done) | (simp_all <;> omega)) ?_)
  refine hK _ ?_; clear hK K; refine Nav.imp ?_
  refine awp_region cx [] fun K hK => ?_
  simp [push_cast]
  repeat (refine And.intro (by clear hK; intros; first | omega | (simp_all; done) | (simp_all <;> omega)) ?_)
  refine hK _ ?_; clear hK K; refine Nav.imp ?_
  refine awp_cond (b := decide (0 < n)) (by simp [push_cast]) (fun hb => ?_) (fun hb => ?_) <;> (refine Nav.imp ?_)
  · have hb : 0 < n := by simpa using hb
    rw [if_pos hb] at hS
    refine awp_region cx [] fun K hK => ?_
    simp [push_cast]
    repeat (refine And.intro (by clear hK; intros; first | omega | (simp_all; done) | (simp_all <;> omega)) ?_)
    refine hK _ ?_; clear hK K; refine Nav.imp ?_
    simp [push_cast, hS]
  · have hb : ¬ 0 < n := by simpa using hb
    rw [if_neg hb] at hS
    refine awp_region cx [] fun K hK => ?_
    simp [push_cast]
    repeat (refine And.intro (by clear hK; intros; first | omega | (simp_all; done) | (simp_all <;> omega)) ?_)
    refine hK _ ?_; clear hK K; refine Nav.imp ?_
    have hn0 := hb
    clear hb
    refine awp_cond (b := decide (n < 0)) (by simp [push_cast]) (fun hb => ?_) (fun hb => ?_) <;> (refine Nav.imp ?_)
    · have hb : n < 0 := by simpa using hb
      rw [if_pos hb] at hS
      refine awp_region cx [] fun K hK => ?_
      simp [push_cast]
      repeat (refine And.intro (by clear hK; intros; first | omega | (simp_all; done) | (simp_all <;> omega)) ?_)
      refine hK _ ?_; clear hK K; refine Nav.imp ?_
      simp [push_cast, hS]
    · have hb : ¬ n < 0 := by simpa using hb
      rw [if_neg hb] at hS
      refine awp_region cx [] fun K hK => ?_
      simp [push_cast]
      repeat (refine And.intro (by clear hK; intros; first | omega | (simp_all; done) | (simp_all <;> omega)) ?_)
      refine hK _ ?_; clear hK K; refine Nav.imp ?_
      simp [push_cast, hS]
theorem crosses_ok (a b p : Cell) (na : nearC2 a) (nb : nearC2 b) (np : nearC2 p) (h : ((a.x == b.x) == (a.y == b.y)) = false) : PC Tryz.prog 154 [.agg a.row, .agg b.row, .agg p.row] (.p (.int .i64 (wS (edge a b) p.x p.y))) := by
  have v1 := valid05_ok a na
  have v2 := valid05_ok b nb
  have c1 := turn05_ok a b p na nb np
  have hE := cross_eq h p
  clear na nb np h
  generalize wS (edge a b) p.x p.y = e at *
  generalize sgnI (crs a b p) = s at *
  refine pc_of_awp cx (fn := Tryz.f154) (c := _) Tryz.func154 rfl rfl (Nat.le_of_ble_eq_true rfl) ?_
  rw [Tryz.ntmps154]; refine Nav.imp ?_
  refine awp_region cx [] fun K hK => ?_
  simp [push_cast]
  repeat (refine And.intro (by clear hK; intros; first | omega | (simp_all; done) | (simp_all <;> omega)) ?_)
  refine hK _ ?_; clear hK K; refine Nav.imp ?_
  refine awp_region cx [(1, .p (.bool true)), (5, .p (.bool true))] fun K hK => ?_
  simp [push_cast, v1, v2]
  repeat (refine And.intro (by clear hK; intros; first | omega | (simp_all; done) | (simp_all <;> omega)) ?_)
  refine hK _ ?_; clear hK K; refine Nav.imp ?_
  refine awp_cond (b := false) (by simp [push_cast]) (fun hb => ?_) (fun hb => ?_) <;> (refine Nav.imp ?_)
  · simp at hb
  · clear hb
    by_cases g1 : a.y ≤ p.y
    · by_cases g2 : p.y < b.y
      · have g3 : ¬ b.y ≤ p.y := by omega
        by_cases g4 : 0 < s
        · rw [if_pos ⟨g1, g2, g4⟩] at hE
          refine awp_region cx [(16, .p (.int .i64 s))] fun K hK => ?_
          simp [push_cast, g1, g2, c1, g4]
          repeat (refine And.intro (by clear hK; intros; first | omega | (simp_all; done) | (simp_all <;> omega)) ?_)
          refine hK _ ?_; clear hK K; refine Nav.imp ?_
          refine awp_cond (b := true) (by simp [push_cast, g1, g2, g4]) (fun hb => ?_) (fun hb => ?_) <;> (refine Nav.imp ?_)
          · refine awp_region cx [] fun K hK => ?_
            simp [push_cast]
            repeat (refine And.intro (by clear hK; intros; first | omega | (simp_all; done) | (simp_all <;> omega)) ?_)
            refine hK _ ?_; clear hK K; refine Nav.imp ?_
            simp [push_cast, hE]
          · simp at hb
        · rw [if_neg (fun h => g4 h.2.2), if_neg (fun h => g3 h.1)] at hE
          refine awp_region cx [(16, .p (.int .i64 s))] fun K hK => ?_
          simp [push_cast, g1, g2, c1, g4]
          repeat (refine And.intro (by clear hK; intros; first | omega | (simp_all; done) | (simp_all <;> omega)) ?_)
          refine hK _ ?_; clear hK K; refine Nav.imp ?_
          refine awp_cond (b := false) (by simp [push_cast, g1, g2, g4]) (fun hb => ?_) (fun hb => ?_) <;> (refine Nav.imp ?_)
          · simp at hb
          · refine awp_region cx [(16, .skip)] fun K hK => ?_
            simp [push_cast, g3]
            repeat (refine And.intro (by clear hK; intros; first | omega | (simp_all; done) | (simp_all <;> omega)) ?_)
            refine hK _ ?_; clear hK K; refine Nav.imp ?_
            refine awp_cond (b := false) (by simp [push_cast, g3]) (fun hb => ?_) (fun hb => ?_) <;> (refine Nav.imp ?_)
            · simp at hb
            · refine awp_region cx [] fun K hK => ?_
              simp [push_cast]
              repeat (refine And.intro (by clear hK; intros; first | omega | (simp_all; done) | (simp_all <;> omega)) ?_)
              refine hK _ ?_; clear hK K; refine Nav.imp ?_
              simp [push_cast, hE]
      · have g3 : b.y ≤ p.y := by omega
        have g4 : ¬ p.y < a.y := by omega
        rw [if_neg (fun h => g2 h.2.1), if_neg (fun h => g4 h.2.1)] at hE
        refine awp_region cx [(16, .skip)] fun K hK => ?_
        simp [push_cast, g1, g2]
        repeat (refine And.intro (by clear hK; intros; first | omega | (simp_all; done) | (simp_all <;> omega)) ?_)
        refine hK _ ?_; clear hK K; refine Nav.imp ?_
        refine awp_cond (b := false) (by simp [push_cast, g1, g2]) (fun hb => ?_) (fun hb => ?_) <;> (refine Nav.imp ?_)
        · simp at hb
        · refine awp_region cx [(16, .skip)] fun K hK => ?_
          simp [push_cast, g3, g4]
          repeat (refine And.intro (by clear hK; intros; first | omega | (simp_all; done) | (simp_all <;> omega)) ?_)
          refine hK _ ?_; clear hK K; refine Nav.imp ?_
          refine awp_cond (b := false) (by simp [push_cast, g3, g4]) (fun hb => ?_) (fun hb => ?_) <;> (refine Nav.imp ?_)
          · simp at hb
          · refine awp_region cx [] fun K hK => ?_
            simp [push_cast]
            repeat (refine And.intro (by clear hK; intros; first | omega | (simp_all; done) | (simp_all <;> omega)) ?_)
            refine hK _ ?_; clear hK K; refine Nav.imp ?_
            simp [push_cast, hE]
    · rw [if_neg (fun h => g1 h.1)] at hE
      have g4 : p.y < a.y := by omega
      by_cases g3 : b.y ≤ p.y
      · by_cases g5 : s < 0
        · rw [if_pos ⟨g3, g4, g5⟩] at hE
          refine awp_region cx [(16, .skip)] fun K hK => ?_
          simp [push_cast, g1]
          repeat (refine And.intro (by clear hK; intros; first | omega | (simp_all; done) | (simp_all <;> omega)) ?_)
          refine hK _ ?_; clear hK K; refine Nav.imp ?_
          refine awp_cond (b := false) (by simp [push_cast, g1]) (fun hb => ?_) (fun hb => ?_) <;> (refine Nav.imp ?_)
          · simp at hb
          · refine awp_region cx [(16, .p (.int .i64 s))] fun K hK => ?_
            simp [push_cast, g3, g4, c1, g5]
            repeat (refine And.intro (by clear hK; intros; first | omega | (simp_all; done) | (simp_all <;> omega)) ?_)
            refine hK _ ?_; clear hK K; refine Nav.imp ?_
            refine awp_cond (b := true) (by simp [push_cast, g3, g4, g5]) (fun hb => ?_) (fun hb => ?_) <;> (refine Nav.imp ?_)
            · refine awp_region cx [] fun K hK => ?_
              simp [push_cast]
              repeat (refine And.intro (by clear hK; intros; first | omega | (simp_all; done) | (simp_all <;> omega)) ?_)
              refine hK _ ?_; clear hK K; refine Nav.imp ?_
              simp [push_cast, hE]
            · simp at hb
        · rw [if_neg (fun h => g5 h.2.2)] at hE
          refine awp_region cx [(16, .skip)] fun K hK => ?_
          simp [push_cast, g1]
          repeat (refine And.intro (by clear hK; intros; first | omega | (simp_all; done) | (simp_all <;> omega)) ?_)
          refine hK _ ?_; clear hK K; refine Nav.imp ?_
          refine awp_cond (b := false) (by simp [push_cast, g1]) (fun hb => ?_) (fun hb => ?_) <;> (refine Nav.imp ?_)
          · simp at hb
          · refine awp_region cx [(16, .p (.int .i64 s))] fun K hK => ?_
            simp [push_cast, g3, g4, c1, g5]
            repeat (refine And.intro (by clear hK; intros; first | omega | (simp_all; done) | (simp_all <;> omega)) ?_)
            refine hK _ ?_; clear hK K; refine Nav.imp ?_
            refine awp_cond (b := false) (by simp [push_cast, g3, g4, g5]) (fun hb => ?_) (fun hb => ?_) <;> (refine Nav.imp ?_)
            · simp at hb
            · refine awp_region cx [] fun K hK => ?_
              simp [push_cast]
              repeat (refine And.intro (by clear hK; intros; first | omega | (simp_all; done) | (simp_all <;> omega)) ?_)
              refine hK _ ?_; clear hK K; refine Nav.imp ?_
              simp [push_cast, hE]
      · rw [if_neg (fun h => g3 h.1)] at hE
        refine awp_region cx [(16, .skip)] fun K hK => ?_
        simp [push_cast, g1]
        repeat (refine And.intro (by clear hK; intros; first | omega | (simp_all; done) | (simp_all <;> omega)) ?_)
        refine hK _ ?_; clear hK K; refine Nav.imp ?_
        refine awp_cond (b := false) (by simp [push_cast, g1]) (fun hb => ?_) (fun hb => ?_) <;> (refine Nav.imp ?_)
        · simp at hb
        · refine awp_region cx [(16, .skip)] fun K hK => ?_
          simp [push_cast, g3]
          repeat (refine And.intro (by clear hK; intros; first | omega | (simp_all; done) | (simp_all <;> omega)) ?_)
          refine hK _ ?_; clear hK K; refine Nav.imp ?_
          refine awp_cond (b := false) (by simp [push_cast, g3]) (fun hb => ?_) (fun hb => ?_) <;> (refine Nav.imp ?_)
          · simp at hb
          · refine awp_region cx [] fun K hK => ?_
            simp [push_cast]
            repeat (refine And.intro (by clear hK; intros; first | omega | (simp_all; done) | (simp_all <;> omega)) ?_)
            refine hK _ ?_; clear hK K; refine Nav.imp ?_
            simp [push_cast, hE]
theorem edge_s (a b : Cell) : ∀ u ∈ edge a b, u.s = 1 ∨ u.s = -1 := by
  intro u hu
  unfold edge at hu
  split at hu
  · have := List.mem_singleton.1 hu
    subst this
    exact .inl rfl
  · split at hu
    · have := List.mem_singleton.1 hu
      subst this
      exact .inr rfl
    · cases hu
theorem edgeAt_s (P : List Cell) (k : Nat) : ∀ u ∈ edgeAt P k, u.s = 1 ∨ u.s = -1 := by
  unfold edgeAt
  split
  · exact edge_s _ _
  · intro u hu; cases hu
theorem rng_s (P : List Cell) (k : Nat) : ∀ u ∈ (List.range k).flatMap (edgeAt P), u.s = 1 ∨ u.s = -1 := fun u hu => by
  obtain ⟨j, _, hj⟩ := List.mem_flatMap.1 hu
  exact edgeAt_s P j u hj
theorem ups_s (l : List (List Cell)) : ∀ u ∈ ups l, u.s = 1 ∨ u.s = -1 := fun u hu => by
  obtain ⟨P, _, hP⟩ := List.mem_flatMap.1 hu
  exact rng_s P _ u hP
set_option maxHeartbeats 8000000 in
theorem winding_ok (l : List (List Cell)) (hl : l.length ≤ 100000) (hs : (l.map List.length).sum ≤ 100000) (hbad : badL l = false) (p : Cell) (np : nearC2 p) : PC Tryz.prog 102 [encPs l, .agg p.row] (.p (.int .i64 (wS (ups l) p.x p.y))) := by
  have hpre : ∀ i, (ups (l.take i)).length ≤ 100000 := fun i => by
    have h1 := ups_len (l.take i)
    have h2 : ((l.take i).map List.length).sum ≤ (l.map List.length).sum := by
      have : (l.map List.length).sum = ((l.take i).map List.length).sum + ((l.drop i).map List.length).sum := by
        rw [← List.sum_append, ← List.map_append, List.take_append_drop]
      omega
    omega
  have hPs : ∀ P ∈ l, P.length ≤ 100000 := fun P hP => by
    have := mem_sum_le hP
    omega
  have bd : ∀ i, -100000 ≤ wS (ups (l.take i)) p.x p.y ∧ wS (ups (l.take i)) p.x p.y ≤ 100000 := fun i => by
    have h1 := wS_bd (ups (l.take i)) p.x p.y (ups_s _)
    have h2 := hpre i
    omega
  have v1 := valid05_ok p np
  have h00 : wS (ups []) p.x p.y = 0 := rfl
  have hend : wS (ups (l.take l.length)) p.x p.y = wS (ups l) p.x p.y := by rw [List.take_length]
  rw [← hend]
  refine pc_of_awp cx (fn := Tryz.f102) (c := _) Tryz.func102 rfl rfl (Nat.le_of_ble_eq_true rfl) ?_
  rw [Tryz.ntmps102]; refine Nav.imp ?_
  refine awp_region cx [] fun K hK => ?_
  simp [push_cast]
  repeat (refine And.intro (by clear hK; intros; first | omega | (simp_all; done) | (simp_all <;> omega)) ?_)
  refine hK _ ?_; clear hK K; refine Nav.imp ?_
  refine awp_region cx [(1, .p (.bool true))] fun K hK => ?_
  simp [push_cast, v1]
  repeat (refine And.intro (by clear hK; intros; first | omega | (simp_all; done) | (simp_all <;> omega)) ?_)
  refine hK _ ?_; clear hK K; refine Nav.imp ?_
  refine awp_cond (b := false) (by simp [push_cast]) (fun hb => ?_) (fun hb => ?_) <;> (refine Nav.imp ?_)
  · simp at hb
  · refine awp_region cx [] fun K hK => ?_
    simp [push_cast]
    repeat (refine And.intro (by clear hK; intros; first | omega | (simp_all; done) | (simp_all <;> omega)) ?_)
    refine hK _ ?_; clear hK K; refine Nav.imp ?_
    refine awp_region cx [] fun K hK => ?_
    simp [push_cast]
    repeat (refine And.intro (by clear hK; intros; first | omega | (simp_all; done) | (simp_all <;> omega)) ?_)
    refine hK _ ?_; clear hK K; refine Nav.imp ?_
    refine awp_loop (β := Nat) (fun i => ⟨46, [(3, .ptr 0 0 0), (5, .d (.int .i64 (wS (ups (l.take i)) p.x p.y))), (12, .d (encPs l)), (13, .d (.int .i64 l.length)), (14, .d (.int .i64 i))], [(0, some ⟨58, 2, [p.row.map .d]⟩)], 1⟩) (fun i => i ≤ l.length) (fun i => l.length - i) 0 ?_ (Nat.zero_le _) ?_
    · refine weak_of [(0, some 0)] rfl (by simp [upT, up, upL, push_cast, h00]) (by simp [upH, upR, upL, up, push_cast, h00]) (by simp [namesOk, push_cast]) (by simp [olds])
    · intro i hi
      refine Nav.imp ?_
      refine awp_region cx [] fun K hK => ?_
      simp [push_cast]
      repeat (refine And.intro (by clear hK; intros; first | omega | (simp_all; done) | (simp_all <;> omega)) ?_)
      refine hK _ ?_; clear hK K; refine Nav.imp ?_
      refine awp_cond (b := decide ((i : Int) < l.length)) (by simp [push_cast]) (fun hb => ?_) (fun hb => ?_) <;> (refine Nav.imp ?_)
      · have hlt : i < l.length := by simpa using hb
        obtain ⟨P, hP⟩ := getq hlt
        have hPl := hPs P (List.mem_of_getElem? hP)
        have e0 := wrap_i64 (n := (i : Int) + 1) (by omega) (by omega)
        have hnx : wS (ups (l.take (i + 1))) p.x p.y = wS (ups (l.take i)) p.x p.y + wS (upsP P) p.x p.y := by rw [show ups (l.take (i + 1)) = ups (l.take i) ++ upsP P from flat_take upsP hP, wS_app]
        have b0 := bd i
        generalize hN1 : wS (ups (l.take (i + 1))) p.x p.y = N1 at *
        generalize wS (ups (l.take i)) p.x p.y = N0 at *
        have k00 : wS [] p.x p.y = 0 := rfl
        refine awp_region cx [] fun K hK => ?_
        simp [push_cast, hP]
        repeat (refine And.intro (by clear hK; intros; first | omega | (simp_all; done) | (simp_all <;> omega)) ?_)
        refine hK _ ?_; clear hK K; refine Nav.imp ?_
        refine awp_region cx [] fun K hK => ?_
        simp [push_cast]
        repeat (refine And.intro (by clear hK; intros; first | omega | (simp_all; done) | (simp_all <;> omega)) ?_)
        refine hK _ ?_; clear hK K; refine Nav.imp ?_
        refine awp_loop (β := Nat) (fun k => ⟨46, [(3, .ptr 0 0 0), (5, .d (.int .i64 (N0 + wS ((List.range k).flatMap (edgeAt P)) p.x p.y))), (7, .ptr 1 0 0), (12, .d (encPs l)), (13, .d (.int .i64 l.length)), (14, .d (.int .i64 i)), (20, .d (.int .i64 P.length)), (21, .d (.int .i64 k))], [(0, some ⟨58, 2, [p.row.map .d]⟩), (1, some ⟨55, 1, [[.d (encCells P)]]⟩)], 2⟩) (fun k => k ≤ P.length) (fun k => P.length - k) 0 ?_ (Nat.zero_le _) ?_
        · refine weak_of [(0, some 0), (1, some 4)] rfl (by simp [upT, up, upL, push_cast, k00]) (by simp [upH, upR, upL, up, push_cast, k00]) (by simp [namesOk, push_cast]) (by simp [olds])
        · intro k hk
          refine Nav.imp ?_
          refine awp_region cx [] fun K hK => ?_
          simp [push_cast]
          repeat (refine And.intro (by clear hK; intros; first | omega | (simp_all; done) | (simp_all <;> omega)) ?_)
          refine hK _ ?_; clear hK K; refine Nav.imp ?_
          refine awp_cond (b := decide ((k : Int) < P.length)) (by simp [push_cast]) (fun hb => ?_) (fun hb => ?_) <;> (refine Nav.imp ?_)
          · have hkl : k < P.length := by simpa using hb
            obtain ⟨a, ha⟩ := getq hkl
            obtain ⟨b, hb3⟩ := getq (l := P) (k := (k + 1) % P.length) (Nat.mod_lt _ (by omega))
            obtain ⟨c, hc3⟩ := getq (l := P) (k := ((k + 1) % P.length + 1) % P.length) (Nat.mod_lt _ (by omega))
            have hgood : ∀ j, j < P.length → badAt P j = false := fun j hj => by
              cases hc : badAt P j with
              | false => rfl
              | true => rw [bad_of hP hj hc] at hbad; cases hbad
            have f1 := hgood k hkl
            have f2 := hgood ((k + 1) % P.length) (Nat.mod_lt _ (by omega))
            rw [badAt_some ha hb3] at f1
            rw [badAt_some hb3 hc3] at f2
            have na := badE_bd f1
            have nb := badE_bd f2
            have fq : ((a.x == b.x) == (a.y == b.y)) = false := by
              unfold badE at f1
              rw [Bool.or_eq_false_iff] at f1
              exact f1.2
            have c1 := crosses_ok a b p na nb np fq
            have hs1 := wS_bd (edge a b) p.x p.y (edge_s a b)
            have hs2 := wS_bd ((List.range k).flatMap (edgeAt P)) p.x p.y (rng_s P k)
            have hl1 := edge_len a b
            have hl2 := edges_len P k
            have hn2 : wS ((List.range (k + 1)).flatMap (edgeAt P)) p.x p.y = wS ((List.range k).flatMap (edgeAt P)) p.x p.y + wS (edge a b) p.x p.y := by rw [flat_rg, wS_app, edgeAt_some ha hb3]
            have e1 := wrap_i64 (n := (k : Int) + 1) (by omega) (by omega)
            have e3 : ((k : Int) + 1).tmod (P.length : Int) = (((k + 1) % P.length : Nat) : Int) := (Int.ofNat_tmod _ _).symm
            have e4 : ¬ P = [] := by intro e; rw [e] at hkl; simp at hkl
            clear hc3 f2 fq f1 hgood
            generalize hM1 : wS ((List.range (k + 1)).flatMap (edgeAt P)) p.x p.y = M1 at *
            generalize wS ((List.range k).flatMap (edgeAt P)) p.x p.y = M0 at *
            generalize wS (edge a b) p.x p.y = w at *
            generalize (k + 1) % P.length = j at *
            have w1 := wrap_i64 (n := N0 + M0 + w) (by omega) (by omega)
            have hs3 : N0 + M1 = N0 + M0 + w := by omega
            refine awp_region cx [] fun K hK => ?_
            simp [push_cast]
            repeat (refine And.intro (by clear hK; intros; first | omega | (simp_all; done) | (simp_all <;> omega)) ?_)
            refine hK _ ?_; clear hK K; refine Nav.imp ?_
            refine awp_region_draw cx mixed [(17, .p (.int .i64 w))] fun K hK => ?_
            simp [push_cast, ha, hb3, e1, e3, e4, c1, w1]
            repeat (refine And.intro (by clear hK; intros; first | omega | (simp_all; done) | (simp_all <;> omega)) ?_)
            refine hK _ _ (by kernel_rfl) ?_; clear hK K; refine Nav.imp ?_
            refine awp_region cx [] fun K hK => ?_
            simp [push_cast, e1]
            repeat (refine And.intro (by clear hK; intros; first | omega | (simp_all; done) | (simp_all <;> omega)) ?_)
            refine hK _ ?_; clear hK K; refine Nav.imp ?_
            refine ⟨k + 1, hkl, by omega, ?_⟩
            refine weak_of [(0, some 0), (1, some 1)] rfl (by simp [upT, up, upL, push_cast, hM1, hs3]) (by simp [upH, upR, upL, up, push_cast, hM1, hs3]) (by simp [namesOk, push_cast]) (by simp [olds])
          · have hke : k = P.length := by simp at hb; omega
            subst hke
            have hfin : wS ((List.range P.length).flatMap (edgeAt P)) p.x p.y = wS (upsP P) p.x p.y := rfl
            refine awp_region cx [] fun K hK => ?_
            simp [push_cast, e0]
            repeat (refine And.intro (by clear hK; intros; first | omega | (simp_all; done) | (simp_all <;> omega)) ?_)
            refine hK _ ?_; clear hK K; refine Nav.imp ?_
            refine ⟨i + 1, hlt, by omega, ?_⟩
            refine weak_of [(0, some 0)] rfl (by simp [upT, up, upL, push_cast, hfin, hN1, hnx]) (by simp [upH, upR, upL, up, push_cast, hfin, hN1, hnx]) (by simp [namesOk, push_cast]) (by simp [olds])
      · have hie : i = l.length := by simp at hb; omega
        subst hie
        refine awp_region cx [] fun K hK => ?_
        simp [push_cast]
        repeat (refine And.intro (by clear hK; intros; first | omega | (simp_all; done) | (simp_all <;> omega)) ?_)
        refine hK _ ?_; clear hK K; refine Nav.imp ?_
        simp [push_cast]
end Go.Proofs.YtdddknniooimmaaGreat

namespace Go.Proofs.YtdddknniooimmaaGreat
open Go.Abs

theorem badE_eq (a b : Cell) : badE a b = (decide (a.x < -4096) || decide (4096 < a.x) || decide (a.y < -4096) || decide (4096 < a.y) || ((a.x == b.x) == (a.y == b.y))) := by
  unfold badE
  generalize ((a.x == b.x) == (a.y == b.y)) = q
  cases q with
  | true => simp
  | false =>
    simp only [Bool.or_false]
    rw [Bool.eq_iff_iff]
    simp only [Bool.or_eq_true, decide_eq_true_eq]
    omega
set_option maxHeartbeats 4000000 in
theorem rect_ok (P : List Cell) (hl : P.length ≤ 1000000) : PC Tryz.prog 100 [.agg (polyRow P)] (.p (.bool (!badP P))) := by
  have hB : badP P = (List.range P.length).any (badAt P) := rfl
  generalize hbp : badP P = bp at *
  refine pc_of_awp cx (fn := Tryz.f100) (c := _) Tryz.func100 rfl rfl (Nat.le_of_ble_eq_true rfl) ?_
  rw [Tryz.ntmps100]; refine Nav.imp ?_
  refine awp_region cx [] fun K hK => ?_
  simp [push_cast]
  repeat (refine And.intro (by clear hK; intros; first | omega | (simp_all; done) | (simp_all <;> omega)) ?_)
  refine hK _ ?_; clear hK K; refine Nav.imp ?_
  refine awp_region cx [] fun K hK => ?_
  simp [push_cast]
  repeat (refine And.intro (by clear hK; intros; first | omega | (simp_all; done) | (simp_all <;> omega)) ?_)
  refine hK _ ?_; clear hK K; refine Nav.imp ?_
  refine awp_region cx [] fun K hK => ?_
  simp [push_cast]
  repeat (refine And.intro (by clear hK; intros; first | omega | (simp_all; done) | (simp_all <;> omega)) ?_)
  refine hK _ ?_; clear hK K; refine Nav.imp ?_
  refine awp_loop (β := Nat) (fun k => ⟨59, [(1, .ptr 0 0 0), (3, .d (.int .i64 P.length)), (4, .d (.int .i64 k))], [(0, some ⟨55, 1, [[.d (encCells P)]]⟩)], 1⟩) (fun k => k ≤ P.length ∧ (List.range k).any (badAt P) = false) (fun k => P.length - k) 0 ?_ ⟨Nat.zero_le _, by simp⟩ ?_
  · refine weak_of [(0, some 0)] rfl (by simp [upT, up, upL, push_cast]) (by simp [upH, upR, upL, up, push_cast]) (by simp [namesOk, push_cast]) (by simp [olds])
  · rintro k ⟨hk, hkb⟩
    refine Nav.imp ?_
    refine awp_region cx [] fun K hK => ?_
    simp [push_cast]
    repeat (refine And.intro (by clear hK; intros; first | omega | (simp_all; done) | (simp_all <;> omega)) ?_)
    refine hK _ ?_; clear hK K; refine Nav.imp ?_
    refine awp_cond (b := decide ((k : Int) < P.length)) (by simp [push_cast]) (fun hb => ?_) (fun hb => ?_) <;> (refine Nav.imp ?_)
    · have hkl : k < P.length := by simpa using hb
      obtain ⟨a, ha⟩ := getq hkl
      obtain ⟨b, hb3⟩ := getq (l := P) (k := (k + 1) % P.length) (Nat.mod_lt _ (by omega))
      have eB := badAt_some ha hb3
      rw [badE_eq] at eB
      have e1 := wrap_i64 (n := (k : Int) + 1) (by omega) (by omega)
      have e3 : ((k : Int) + 1).tmod (P.length : Int) = (((k + 1) % P.length : Nat) : Int) := (Int.ofNat_tmod _ _).symm
      have e4 : ¬ P = [] := by intro e; rw [e] at hkl; simp at hkl
      have hn1 := any_rg (badAt P) k
      rw [hkb, Bool.false_or] at hn1
      have hbt : badAt P k = true → bp = true := fun h => by
        rw [hB, List.any_eq_true]
        exact ⟨k, List.mem_range.2 hkl, h⟩
      generalize badAt P k = bk at *
      generalize (k + 1) % P.length = j at *
      refine awp_region cx [] fun K hK => ?_
      simp [push_cast, ha]
      repeat (refine And.intro (by clear hK; intros; first | omega | (simp_all; done) | (simp_all <;> omega)) ?_)
      refine hK _ ?_; clear hK K; refine Nav.imp ?_
      refine awp_region_draw cx mixed [] fun K hK => ?_
      simp [push_cast, hb3, e1, e3, e4]
      repeat (refine And.intro (by clear hK; intros; first | omega | (simp_all; done) | (simp_all <;> omega)) ?_)
      refine hK _ _ (by kernel_rfl) ?_; clear hK K; refine Nav.imp ?_
      generalize hq : ((a.x == b.x) == (a.y == b.y)) = q at *
      by_cases g1 : a.x < -4096
      · have hbt : bp = true := hbt (by rw [eB]; simp [g1])
        subst hbt
        refine awp_region cx [] fun K hK => ?_
        simp [push_cast, g1]
        repeat (refine And.intro (by clear hK; intros; first | omega | (simp_all; done) | (simp_all <;> omega)) ?_)
        refine hK _ ?_; clear hK K; refine Nav.imp ?_
        refine awp_cond (b := true) (by simp [push_cast, g1]) (fun hb => ?_) (fun hb => ?_) <;> (refine Nav.imp ?_)
        · refine awp_region cx [] fun K hK => ?_
          simp [push_cast]
          repeat (refine And.intro (by clear hK; intros; first | omega | (simp_all; done) | (simp_all <;> omega)) ?_)
          refine hK _ ?_; clear hK K; refine Nav.imp ?_
          simp [push_cast]
        · simp at hb
      · by_cases g2 : 4096 < a.x
        · have hbt : bp = true := hbt (by rw [eB]; simp [g2])
          subst hbt
          refine awp_region cx [] fun K hK => ?_
          simp [push_cast, g1, g2]
          repeat (refine And.intro (by clear hK; intros; first | omega | (simp_all; done) | (simp_all <;> omega)) ?_)
          refine hK _ ?_; clear hK K; refine Nav.imp ?_
          refine awp_cond (b := true) (by simp [push_cast, g1, g2]) (fun hb => ?_) (fun hb => ?_) <;> (refine Nav.imp ?_)
          · refine awp_region cx [] fun K hK => ?_
            simp [push_cast]
            repeat (refine And.intro (by clear hK; intros; first | omega | (simp_all; done) | (simp_all <;> omega)) ?_)
            refine hK _ ?_; clear hK K; refine Nav.imp ?_
            simp [push_cast]
          · simp at hb
        · by_cases g3 : a.y < -4096
          · have hbt : bp = true := hbt (by rw [eB]; simp [g3])
            subst hbt
            refine awp_region cx [] fun K hK => ?_
            simp [push_cast, g1, g2, g3]
            repeat (refine And.intro (by clear hK; intros; first | omega | (simp_all; done) | (simp_all <;> omega)) ?_)
            refine hK _ ?_; clear hK K; refine Nav.imp ?_
            refine awp_cond (b := true) (by simp [push_cast, g1, g2, g3]) (fun hb => ?_) (fun hb => ?_) <;> (refine Nav.imp ?_)
            · refine awp_region cx [] fun K hK => ?_
              simp [push_cast]
              repeat (refine And.intro (by clear hK; intros; first | omega | (simp_all; done) | (simp_all <;> omega)) ?_)
              refine hK _ ?_; clear hK K; refine Nav.imp ?_
              simp [push_cast]
            · simp at hb
          · by_cases g4 : 4096 < a.y
            · have hbt : bp = true := hbt (by rw [eB]; simp [g4])
              subst hbt
              refine awp_region cx [] fun K hK => ?_
              simp [push_cast, g1, g2, g3, g4]
              repeat (refine And.intro (by clear hK; intros; first | omega | (simp_all; done) | (simp_all <;> omega)) ?_)
              refine hK _ ?_; clear hK K; refine Nav.imp ?_
              refine awp_cond (b := true) (by simp [push_cast, g1, g2, g3, g4]) (fun hb => ?_) (fun hb => ?_) <;> (refine Nav.imp ?_)
              · refine awp_region cx [] fun K hK => ?_
                simp [push_cast]
                repeat (refine And.intro (by clear hK; intros; first | omega | (simp_all; done) | (simp_all <;> omega)) ?_)
                refine hK _ ?_; clear hK K; refine Nav.imp ?_
                simp [push_cast]
              · simp at hb
            · have eB : bk = q := by rw [eB]; simp [g1, g2, g3, g4]
              cases q with
              | true =>
                have hbt : bp = true := hbt eB
                subst hbt
                refine awp_region cx [] fun K hK => ?_
                simp [push_cast, g1, g2, g3, g4, hq]
                repeat (refine And.intro (by clear hK; intros; first | omega | (simp_all; done) | (simp_all <;> omega)) ?_)
                refine hK _ ?_; clear hK K; refine Nav.imp ?_
                refine awp_cond (b := true) (by simp [push_cast, g1, g2, g3, g4, hq]) (fun hb => ?_) (fun hb => ?_) <;> (refine Nav.imp ?_)
                · refine awp_region cx [] fun K hK => ?_
                  simp [push_cast]
                  repeat (refine And.intro (by clear hK; intros; first | omega | (simp_all; done) | (simp_all <;> omega)) ?_)
                  refine hK _ ?_; clear hK K; refine Nav.imp ?_
                  simp [push_cast]
                · simp at hb
              | false =>
                refine awp_region cx [] fun K hK => ?_
                simp [push_cast, g1, g2, g3, g4, hq]
                repeat (refine And.intro (by clear hK; intros; first | omega | (simp_all; done) | (simp_all <;> omega)) ?_)
                refine hK _ ?_; clear hK K; refine Nav.imp ?_
                refine awp_cond (b := false) (by simp [push_cast, g1, g2, g3, g4, hq]) (fun hb => ?_) (fun hb => ?_) <;> (refine Nav.imp ?_)
                · simp at hb
                · refine awp_region cx [] fun K hK => ?_
                  simp [push_cast, e1]
                  repeat (refine And.intro (by clear hK; intros; first | omega | (simp_all; done) | (simp_all <;> omega)) ?_)
                  refine hK _ ?_; clear hK K; refine Nav.imp ?_
                  refine ⟨k + 1, ⟨hkl, by rw [hn1]; exact eB⟩, by omega, ?_⟩
                  refine weak_of [(0, some 0)] rfl (by simp [upT, up, upL, push_cast]) (by simp [upH, upR, upL, up, push_cast]) (by simp [namesOk, push_cast]) (by simp [olds])
    · have hke : k = P.length := by simp at hb; omega
      subst hke
      rw [hkb] at hB
      subst hB
      refine awp_region cx [] fun K hK => ?_
      simp [push_cast]
      repeat (refine And.intro (by clear hK; intros; first | omega | (simp_all; done) | (simp_all <;> omega)) ?_)
      refine hK _ ?_; clear hK K; refine Nav.imp ?_
      simp [push_cast]
theorem least_ok (a b : Int) : PC Tryz.prog 101 [.int .i64 a, .int .i64 b] (.p (.int .i64 (lst a b))) := by
  have hL : lst a b = if a < b then a else b := rfl
  generalize lst a b = m at *
  refine pc_of_awp cx (fn := Tryz.f101) (c := _) Tryz.func101 rfl rfl (Nat.le_of_ble_eq_true rfl) ?_
  rw [Tryz.ntmps101]; refine Nav.imp ?_
  refine awp_region cx [] fun K hK => ?_
  simp [push_cast]
  repeat (refine And.intro (by clear hK; intros; first | omega | (simp_all; done) | (simp_all <;> omega)) ?_)
  refine hK _ ?_; clear hK K; refine Nav.imp ?_
  refine awp_region cx [] fun K hK => ?_
  simp [push_cast]
  repeat (refine And.intro (by clear hK; intros; first | omega | (simp_all; done) | (simp_all <;> omega)) ?_)
  refine hK _ ?_; clear hK K; refine Nav.imp ?_
  refine awp_cond (b := decide (a < b)) (by simp [push_cast]) (fun hb => ?_) (fun hb => ?_) <;> (refine Nav.imp ?_)
  · have hb : a < b := by simpa using hb
    rw [if_pos hb] at hL
    refine awp_region cx [] fun K hK => ?_
    simp [push_cast]
    repeat (refine And.intro (by clear hK; intros; first | omega | (simp_all; done) | (simp_all <;> omega)) ?_)
    refine hK _ ?_; clear hK K; refine Nav.imp ?_
    simp [push_cast, hL]
  · have hb : ¬ a < b := by simpa using hb
    rw [if_neg hb] at hL
    refine awp_region cx [] fun K hK => ?_
    simp [push_cast]
    repeat (refine And.intro (by clear hK; intros; first | omega | (simp_all; done) | (simp_all <;> omega)) ?_)
    refine hK _ ?_; clear hK K; refine Nav.imp ?_
    simp [push_cast, hL]
end Go.Proofs.YtdddknniooimmaaGreat

namespace Go.Proofs.YtdddknniooimmaaGreat
open Go.Abs

theorem boxF_take {l : List (List Cell)} (h : ∀ P ∈ l, smallP P) (L : List Cell) (hL : ∀ p ∈ L, ∃ P ∈ l, p ∈ P) : smallP L := fun p hp => by
  obtain ⟨P, hP, hpP⟩ := hL p hp
  exact h P hP p hpP
theorem flat_takeC {l : List (List Cell)} {i : Nat} {P : List Cell} (h : l[i]? = some P) : (l.take (i + 1)).flatten = (l.take i).flatten ++ P := by
  rw [take_get h]; simp
theorem bad_any {l : List (List Cell)} {i : Nat} {P : List Cell} (h : l[i]? = some P) (hb : badP P = true) : badL l = true := by
  unfold badL
  rw [List.any_eq_true]
  exact ⟨P, List.mem_of_getElem? h, hb⟩
set_option maxHeartbeats 16000000 in
theorem rback_ok (l : List (List Cell)) (hl : l.length ≤ 1000) (hp : ∀ P ∈ l, P.length ≤ 1000) (hs : (l.map List.length).sum ≤ 100000) (hsm : ∀ P ∈ l, badP P = false → smallP P) (B : List Row) (hB : badL l = false → validR B = true ∧ ∀ c, c ∈ regCells B ↔ 0 < wS (ups l) c.x c.y) : PC Tryz.prog 38 [encPs l] (.p (.tup [.agg (regRow (if badL l then [] else B)), .int .i64 (if badL l then 1 else 0)])) := by
  refine pc_of_awp cx (fn := Tryz.f38) (c := _) Tryz.func38 rfl rfl (Nat.le_of_ble_eq_true rfl) ?_
  rw [Tryz.ntmps38]; refine Nav.imp ?_
  refine awp_region cx [] fun K hK => ?_
  simp [push_cast]
  repeat (refine And.intro (by clear hK; intros; first | omega | (simp_all; done) | (simp_all <;> omega)) ?_)
  refine hK _ ?_; clear hK K; refine Nav.imp ?_
  refine awp_region cx [] fun K hK => ?_
  simp [push_cast]
  repeat (refine And.intro (by clear hK; intros; first | omega | (simp_all; done) | (simp_all <;> omega)) ?_)
  refine hK _ ?_; clear hK K; refine Nav.imp ?_
  refine awp_region cx [] fun K hK => ?_
  simp [push_cast]
  repeat (refine And.intro (by clear hK; intros; first | omega | (simp_all; done) | (simp_all <;> omega)) ?_)
  refine hK _ ?_; clear hK K; refine Nav.imp ?_
  refine awp_region cx [] fun K hK => ?_
  simp [push_cast]
  repeat (refine And.intro (by clear hK; intros; first | omega | (simp_all; done) | (simp_all <;> omega)) ?_)
  refine hK _ ?_; clear hK K; refine Nav.imp ?_
  refine awp_loop (β := Nat × Cell × Cell) (fun s => ⟨105, [(0, .d (encPs l)), (2, .ptr 0 0 0), (3, .d (.int .i64 0)), (4, .ptr 1 0 0), (5, .ptr 2 0 0), (6, .d (.int .i64 s.1))], [(0, some ⟨24, 1, [[.nl]]⟩), (1, some ⟨58, 2, [s.2.1.row.map .d]⟩), (2, some ⟨58, 2, [s.2.2.row.map .d]⟩)], 3⟩) (fun s => s.1 ≤ l.length ∧ s.2 = bxB (l.take s.1).flatten ∧ (l.take s.1).any badP = false) (fun s => l.length - s.1) (0, ⟨0, 0⟩, ⟨0, 0⟩) ?_ ⟨Nat.zero_le _, by simp [bxB], by simp⟩ ?_
  · refine weak_of [(0, some 0), (1, some 3), (2, some 6)] rfl (by simp [upT, up, upL, push_cast]) (by simp [upH, upR, upL, up, push_cast]) (by simp [namesOk, push_cast]) (by simp [olds])
  · rintro ⟨i, lo, hi⟩ ⟨hil, hbx, hbad⟩
    simp only at hil hbx hbad
    refine Nav.imp ?_
    refine awp_region cx [] fun K hK => ?_
    simp [push_cast]
    repeat (refine And.intro (by clear hK; intros; first | omega | (simp_all; done) | (simp_all <;> omega)) ?_)
    refine hK _ ?_; clear hK K; refine Nav.imp ?_
    refine awp_cond (b := decide ((i : Int) < l.length)) (by simp [push_cast]) (fun hb => ?_) (fun hb => ?_) <;> (refine Nav.imp ?_)
    · have hlt : i < l.length := by simpa using hb
      obtain ⟨P, hP⟩ := getq hlt
      have hPl := hp P (List.mem_of_getElem? hP)
      have e0 := wrap_i64 (n := (i : Int) + 1) (by omega) (by omega)
      have c1 := rect_ok P (by omega)
      have hb2 : (l.take (i + 1)).any badP = ((l.take i).any badP || badP P) := by rw [take_get hP]; simp
      rw [hbad, Bool.false_or] at hb2
      cases hbP : badP P with
      | true =>
        have hbl := bad_any hP hbP
        rw [hbP] at c1
        rw [hbl]
        refine awp_region cx [(4, .p (.bool false))] fun K hK => ?_
        simp [push_cast, hP, c1]
        repeat (refine And.intro (by clear hK; intros; first | omega | (simp_all; done) | (simp_all <;> omega)) ?_)
        refine hK _ ?_; clear hK K; refine Nav.imp ?_
        refine awp_cond (b := true) (by simp [push_cast]) (fun hb => ?_) (fun hb => ?_) <;> (refine Nav.imp ?_)
        · refine awp_region cx [] fun K hK => ?_
          simp [push_cast]
          repeat (refine And.intro (by clear hK; intros; first | omega | (simp_all; done) | (simp_all <;> omega)) ?_)
          refine hK _ ?_; clear hK K; refine Nav.imp ?_
          simp [push_cast]
        · simp at hb
      | false =>
        have hsP := hsm P (List.mem_of_getElem? hP) hbP
        rw [hbP] at c1 hb2
        have hfl := flat_takeC hP
        have hpre : smallP (l.take i).flatten := boxF_take (l := l.take i) (fun Q hQ => hsm Q (List.mem_of_mem_take hQ) (by
          cases hc : badP Q with
          | false => rfl
          | true => rw [← hbad]; exact (List.any_eq_true.2 ⟨Q, hQ, hc⟩).symm)) _ fun p hp => by
            obtain ⟨Q, hQ, hpQ⟩ := List.mem_flatten.1 hp
            exact ⟨Q, hQ, hpQ⟩
        generalize (l.take i).flatten = F0 at *
        refine awp_region cx [(4, .p (.bool true))] fun K hK => ?_
        simp [push_cast, hP, c1]
        repeat (refine And.intro (by clear hK; intros; first | omega | (simp_all; done) | (simp_all <;> omega)) ?_)
        refine hK _ ?_; clear hK K; refine Nav.imp ?_
        refine awp_cond (b := false) (by simp [push_cast]) (fun hb => ?_) (fun hb => ?_) <;> (refine Nav.imp ?_)
        · simp at hb
        · refine awp_region cx [] fun K hK => ?_
          simp [push_cast]
          repeat (refine And.intro (by clear hK; intros; first | omega | (simp_all; done) | (simp_all <;> omega)) ?_)
          refine hK _ ?_; clear hK K; refine Nav.imp ?_
          refine awp_loop (β := Nat × Cell × Cell) (fun s => ⟨105, [(0, .d (encPs l)), (2, .ptr 0 0 0), (3, .d (.int .i64 0)), (4, .ptr 1 0 0), (5, .ptr 2 0 0), (6, .d (.int .i64 i)), (7, .d (.int .i64 s.1))], [(0, some ⟨24, 1, [[.nl]]⟩), (1, some ⟨58, 2, [s.2.1.row.map .d]⟩), (2, some ⟨58, 2, [s.2.2.row.map .d]⟩)], 3⟩) (fun s => s.1 ≤ P.length ∧ s.2 = bxB (F0 ++ P.take s.1)) (fun s => P.length - s.1) (0, lo, hi) ?_ ⟨Nat.zero_le _, by simp [hbx]⟩ ?_
          · refine weak_of [(0, some 0), (1, some 1), (2, some 2)] rfl (by simp [upT, up, upL, push_cast]) (by simp [upH, upR, upL, up, push_cast]) (by simp [namesOk, push_cast]) (by simp [olds])
          · rintro ⟨k, lo2, hi2⟩ ⟨hk, hbx2⟩
            simp only at hk hbx2
            refine Nav.imp ?_
            refine awp_region cx [] fun K hK => ?_
            simp [push_cast, hP]
            repeat (refine And.intro (by clear hK; intros; first | omega | (simp_all; done) | (simp_all <;> omega)) ?_)
            refine hK _ ?_; clear hK K; refine Nav.imp ?_
            refine awp_cond (b := decide ((k : Int) < P.length)) (by simp [push_cast]) (fun hb => ?_) (fun hb => ?_) <;> (refine Nav.imp ?_)
            · have hkl : k < P.length := by simpa using hb
              obtain ⟨p, hpk⟩ := getq hkl
              have e1 := wrap_i64 (n := (k : Int) + 1) (by omega) (by omega)
              have hnx : bxB (F0 ++ P.take (k + 1)) = stepB (lo2, hi2) p := by rw [take_get hpk, ← List.append_assoc, bxB_snoc, ← hbx2]
              have hbf := bxB_facts (F0 ++ P.take k) (fun q hq => by
                rcases List.mem_append.1 hq with h | h
                · exact hpre q h
                · exact hsP q (List.mem_of_mem_take h))
              rw [← hbx2] at hbf
              have b1 := hbf.hx
              have b2 := hbf.hy
              have b3 := hsP p (List.mem_of_getElem? hpk)
              simp only at b1 b2
              have c2 := least_ok lo2.x p.x
              have c3 := least_ok lo2.y p.y
              have c4 := least_ok (-hi2.x) (-p.x)
              have c5 := least_ok (-hi2.y) (-p.y)
              have w1 := wrap_i64 (n := -hi2.x) (by omega) (by omega)
              have w2 := wrap_i64 (n := -hi2.y) (by omega) (by omega)
              have w3 := wrap_i64 (n := -p.x) (by omega) (by omega)
              have w4 := wrap_i64 (n := -p.y) (by omega) (by omega)
              have w5 := wrap_i64 (n := -lst (-hi2.x) (-p.x)) (by unfold lst; split <;> omega) (by unfold lst; split <;> omega)
              have w6 := wrap_i64 (n := -lst (-hi2.y) (-p.y)) (by unfold lst; split <;> omega) (by unfold lst; split <;> omega)
              have hst : stepB (lo2, hi2) p = (⟨lst lo2.x p.x, lst lo2.y p.y⟩, ⟨-lst (-hi2.x) (-p.x), -lst (-hi2.y) (-p.y)⟩) := rfl
              rw [hst] at hnx
              generalize lst lo2.x p.x = m1 at *
              generalize lst lo2.y p.y = m2 at *
              generalize lst (-hi2.x) (-p.x) = m3 at *
              generalize lst (-hi2.y) (-p.y) = m4 at *
              refine awp_region cx [] fun K hK => ?_
              simp [push_cast, hP, hpk]
              repeat (refine And.intro (by clear hK; intros; first | omega | (simp_all; done) | (simp_all <;> omega)) ?_)
              refine hK _ ?_; clear hK K; refine Nav.imp ?_
              refine awp_region_draw cx mixed [(4, .p (.int .i64 m1)), (9, .p (.int .i64 m2))] fun K hK => ?_
              simp [push_cast, c2, c3]
              repeat (refine And.intro (by clear hK; intros; first | omega | (simp_all; done) | (simp_all <;> omega)) ?_)
              refine hK _ _ (by kernel_rfl) ?_; clear hK K; refine Nav.imp ?_
              refine awp_region_draw cx mixed [(6, .p (.int .i64 m3)), (14, .p (.int .i64 m4))] fun K hK => ?_
              simp [push_cast, c4, c5, w1, w2, w3, w4, w5, w6]
              repeat (refine And.intro (by clear hK; intros; first | omega | (simp_all; done) | (simp_all <;> omega)) ?_)
              refine hK _ _ (by kernel_rfl) ?_; clear hK K; refine Nav.imp ?_
              refine awp_region cx [] fun K hK => ?_
              simp [push_cast, e1]
              repeat (refine And.intro (by clear hK; intros; first | omega | (simp_all; done) | (simp_all <;> omega)) ?_)
              refine hK _ ?_; clear hK K; refine Nav.imp ?_
              refine ⟨(k + 1, ⟨m1, m2⟩, ⟨-m3, -m4⟩), ⟨hkl, hnx.symm⟩, by simp only; omega, ?_⟩
              refine weak_of [(0, some 0), (1, some 1), (2, some 2)] rfl (by simp [upT, up, upL, push_cast]) (by simp [upH, upR, upL, up, push_cast]) (by simp [namesOk, push_cast]) (by simp [olds])
            · have hke : k = P.length := by simp at hb; omega
              subst hke
              rw [List.take_length, ← hfl] at hbx2
              refine awp_region cx [] fun K hK => ?_
              simp [push_cast, e0]
              repeat (refine And.intro (by clear hK; intros; first | omega | (simp_all; done) | (simp_all <;> omega)) ?_)
              refine hK _ ?_; clear hK K; refine Nav.imp ?_
              refine ⟨(i + 1, lo2, hi2), ⟨hlt, hbx2, hb2⟩, by simp only; omega, ?_⟩
              refine weak_of [(0, some 0), (1, some 1), (2, some 2)] rfl (by simp [upT, up, upL, push_cast]) (by simp [upH, upR, upL, up, push_cast]) (by simp [namesOk, push_cast]) (by simp [olds])
    · have hie : i = l.length := by simp at hb; omega
      subst hie
      rw [List.take_length] at hbx hbad
      have hbl : badL l = false := hbad
      obtain ⟨hv, hm⟩ := hB hbl
      have hbf := bxB_facts l.flatten (boxF_take (l := l) (fun Q hQ => hsm Q hQ (by
        cases hc : badP Q with
        | false => rfl
        | true => rw [← hbad]; exact (List.any_eq_true.2 ⟨Q, hQ, hc⟩).symm)) _ fun p hp => by
          obtain ⟨Q, hQ, hpQ⟩ := List.mem_flatten.1 hp
          exact ⟨Q, hQ, hpQ⟩)
      obtain ⟨g1, g2⟩ := grid_back hbf hv hm
      rw [← hbx] at hbf g1 g2
      have b1 := hbf.lx
      have b2 := hbf.ly
      have b3 := hbf.hx
      have b4 := hbf.hy
      simp only at b1 b2 b3 b4 g1 g2
      have hw : ((hi.x - lo.x).toNat : Int) = hi.x - lo.x := by omega
      have hh : ((hi.y - lo.y).toNat : Int) = hi.y - lo.y := by omega
      have hwl : (hi.x - lo.x).toNat ≤ 24 := by omega
      have hhl : (hi.y - lo.y).toNat ≤ 24 := by omega
      have hwd : ∀ x y : Int, -12 ≤ x → x ≤ 12 → -12 ≤ y → y ≤ 12 → PC Tryz.prog 102 [encPs l, .agg [.int .i64 x, .int .i64 y]] (.p (.int .i64 (wS (ups l) x y))) := fun x y h1 h2 h3 h4 => winding_ok l (by omega) hs hbl ⟨x, y⟩ ⟨by simp only; omega, by simp only; omega⟩
      clear hm hbx hbad hbf hsm
      rw [hbl]
      generalize ups l = U at *
      generalize hW : (hi.x - lo.x).toNat = w at *
      generalize hH : (hi.y - lo.y).toNat = h at *
      refine awp_region cx [] fun K hK => ?_
      simp [push_cast]
      repeat (refine And.intro (by clear hK; intros; first | omega | (simp_all; done) | (simp_all <;> omega)) ?_)
      refine hK _ ?_; clear hK K; refine Nav.imp ?_
      refine awp_region cx [] fun K hK => ?_
      simp [push_cast]
      repeat (refine And.intro (by clear hK; intros; first | omega | (simp_all; done) | (simp_all <;> omega)) ?_)
      refine hK _ ?_; clear hK K; refine Nav.imp ?_
      refine awp_loop (β := Nat × List Cell) (fun s => ⟨105, [(0, .d (encPs l)), (2, .ptr 0 0 0), (3, .d (.int .i64 0)), (4, .ptr 1 0 0), (5, .ptr 2 0 0), (9, .hs 3 0 s.2.length), (10, .d (.int .i64 (lo.y + s.1)))], [(0, some ⟨24, 1, [[.nl]]⟩), (1, some ⟨58, 2, [lo.row.map .d]⟩), (2, some ⟨58, 2, [hi.row.map .d]⟩), (3, some ⟨67, 2, dr (s.2.map Cell.row)⟩)], 4⟩) (fun s => s.1 ≤ h ∧ s.2 = gridC U lo.x lo.y w s.1) (fun s => h - s.1) (0, []) ?_ ⟨Nat.zero_le _, by simp [gridC]⟩ ?_
      · refine weak_of [(0, some 0), (1, some 1), (2, some 2), (3, none)] rfl (by simp [upT, up, upL, push_cast]) (by simp [upH, upR, upL, up, push_cast]) (by simp [namesOk, push_cast]) (by simp [olds])
      · rintro ⟨j, out⟩ ⟨hj, hout⟩
        simp only at hj hout
        have e0 := wrap_i64 (n := lo.y + (j : Int) + 1) (by omega) (by omega)
        refine Nav.imp ?_
        refine awp_region cx [] fun K hK => ?_
        simp [push_cast]
        repeat (refine And.intro (by clear hK; intros; first | omega | (simp_all; done) | (simp_all <;> omega)) ?_)
        refine hK _ ?_; clear hK K; refine Nav.imp ?_
        refine awp_cond (b := decide (lo.y + (j : Int) < hi.y)) (by simp [push_cast]) (fun hb => ?_) (fun hb => ?_) <;> (refine Nav.imp ?_)
        · have hlt : j < h := by simp at hb; omega
          have hol := gridC_len U lo.x lo.y w j
          have hjw : w * j ≤ 24 * 24 := Nat.mul_le_mul hwl (by omega)
          have hnx := gridC_succ U lo.x lo.y w j
          rw [← hout] at hol hnx
          refine awp_region cx [] fun K hK => ?_
          simp [push_cast]
          repeat (refine And.intro (by clear hK; intros; first | omega | (simp_all; done) | (simp_all <;> omega)) ?_)
          refine hK _ ?_; clear hK K; refine Nav.imp ?_
          refine awp_loop (β := Nat × List Cell) (fun s => ⟨105, [(0, .d (encPs l)), (2, .ptr 0 0 0), (3, .d (.int .i64 0)), (4, .ptr 1 0 0), (5, .ptr 2 0 0), (9, .hs 3 0 s.2.length), (10, .d (.int .i64 (lo.y + j))), (11, .d (.int .i64 (lo.x + s.1)))], [(0, some ⟨24, 1, [[.nl]]⟩), (1, some ⟨58, 2, [lo.row.map .d]⟩), (2, some ⟨58, 2, [hi.row.map .d]⟩), (3, some ⟨67, 2, dr (s.2.map Cell.row)⟩)], 4⟩) (fun s => s.1 ≤ w ∧ s.2 = out ++ rowC U lo.x (lo.y + j) s.1) (fun s => w - s.1) (0, out) ?_ ⟨Nat.zero_le _, by simp [rowC]⟩ ?_
          · refine weak_of [(0, some 0), (1, some 1), (2, some 2), (3, some 3)] rfl (by simp [upT, up, upL, push_cast]) (by simp [upH, upR, upL, up, push_cast]) (by simp [namesOk, push_cast]) (by simp [olds])
          · rintro ⟨k, O⟩ ⟨hk, hO⟩
            simp only at hk hO
            have e1 := wrap_i64 (n := lo.x + (k : Int) + 1) (by omega) (by omega)
            refine Nav.imp ?_
            refine awp_region cx [] fun K hK => ?_
            simp [push_cast]
            repeat (refine And.intro (by clear hK; intros; first | omega | (simp_all; done) | (simp_all <;> omega)) ?_)
            refine hK _ ?_; clear hK K; refine Nav.imp ?_
            refine awp_cond (b := decide (lo.x + (k : Int) < hi.x)) (by simp [push_cast]) (fun hb => ?_) (fun hb => ?_) <;> (refine Nav.imp ?_)
            · have hkl : k < w := by simp at hb; omega
              have hrl := rowC_len U lo.x (lo.y + j) k
              have hOl : O.length ≤ 1000 := by rw [hO, List.length_append]; omega
              have hO16 : (O.length + 1) * 16 ≤ 140737488355328 := by omega
              have hr := rowC_succ U lo.x (lo.y + j) k
              have c1 := hwd (lo.x + k) (lo.y + j) (by omega) (by omega) (by omega) (by omega)
              generalize wS U (lo.x + k) (lo.y + j) = wv at *
              have ek : lo.x + ((k : Int) + 1) = lo.x + (k : Int) + 1 := by omega
              refine awp_region cx [(4, .p (.int .i64 wv))] fun K hK => ?_
              simp [push_cast, c1]
              repeat (refine And.intro (by clear hK; intros; first | omega | (simp_all; done) | (simp_all <;> omega)) ?_)
              refine hK _ ?_; clear hK K; refine Nav.imp ?_
              refine awp_cond (b := decide (0 < wv)) (by simp [push_cast]) (fun hb => ?_) (fun hb => ?_) <;> (refine Nav.imp ?_)
              · have hb : 0 < wv := by simpa using hb
                rw [if_pos hb] at hr
                refine awp_region cx [] fun K hK => ?_
                simp [push_cast, hO16]
                repeat (refine And.intro (by clear hK; intros; first | omega | (simp_all; done) | (simp_all <;> omega)) ?_)
                refine hK _ ?_; clear hK K; refine Nav.imp ?_
                refine awp_region cx [] fun K hK => ?_
                simp [push_cast, e1]
                repeat (refine And.intro (by clear hK; intros; first | omega | (simp_all; done) | (simp_all <;> omega)) ?_)
                refine hK _ ?_; clear hK K; refine Nav.imp ?_
                refine ⟨(k + 1, O ++ [⟨lo.x + k, lo.y + j⟩]), ⟨hkl, by rw [hr, hO, List.append_assoc]⟩, by simp only; omega, ?_⟩
                refine weak_of [(0, some 0), (1, some 1), (2, some 2), (3, some 19)] rfl (by simp [upT, up, upL, push_cast, ek]) (by simp [upH, upR, upL, up, push_cast, ek]) (by simp [namesOk, push_cast]) (by simp [olds])
              · have hb : ¬ 0 < wv := by simpa using hb
                rw [if_neg hb, List.append_nil] at hr
                refine awp_region cx [] fun K hK => ?_
                simp [push_cast, e1]
                repeat (refine And.intro (by clear hK; intros; first | omega | (simp_all; done) | (simp_all <;> omega)) ?_)
                refine hK _ ?_; clear hK K; refine Nav.imp ?_
                refine ⟨(k + 1, O), ⟨hkl, by rw [hr, hO]⟩, by simp only; omega, ?_⟩
                refine weak_of [(0, some 0), (1, some 1), (2, some 2), (3, some 3)] rfl (by simp [upT, up, upL, push_cast, ek]) (by simp [upH, upR, upL, up, push_cast, ek]) (by simp [namesOk, push_cast]) (by simp [olds])
            · have hke : k = w := by simp at hb; omega
              subst hke
              have ej : lo.y + ((j : Int) + 1) = lo.y + (j : Int) + 1 := by omega
              refine awp_region cx [] fun K hK => ?_
              simp [push_cast, e0]
              repeat (refine And.intro (by clear hK; intros; first | omega | (simp_all; done) | (simp_all <;> omega)) ?_)
              refine hK _ ?_; clear hK K; refine Nav.imp ?_
              refine ⟨(j + 1, O), ⟨hlt, by rw [hnx, hO]⟩, by simp only; omega, ?_⟩
              refine weak_of [(0, some 0), (1, some 1), (2, some 2), (3, some 3)] rfl (by simp [upT, up, upL, push_cast, ej]) (by simp [upH, upR, upL, up, push_cast, ej]) (by simp [namesOk, push_cast]) (by simp [olds])
        · have hje : j = h := by simp at hb; omega
          subst hje
          rw [← hout] at g1 g2
          have hol := gridC_len U lo.x lo.y w j
          rw [← hout] at hol
          have hjw : w * j ≤ 24 * 24 := Nat.mul_le_mul hwl (by omega)
          have c1 := rof_ok out (by omega)
          have hD : ofD out = .tup [.agg (regRow (ofR out)), .int .i64 (ofE out)] := rfl
          rw [hD, g1, g2] at c1
          clear hout
          refine awp_freeze 3 (out.map Cell.row) rfl (by simp [push_cast]) fun K hK => ?_
          simp [push_cast, St.fz, fzT, fzH, fzO, fz, fzL, fzR, fzR_dr, fzR_app, fzR_set, fzL_map]
          refine hK _ ?_; clear hK K; refine Nav.imp ?_
          refine awp_region cx [(1, .p (.tup [.agg (regRow B), .int .i64 0]))] fun K hK => ?_
          simp [push_cast, c1]
          repeat (refine And.intro (by clear hK; intros; first | omega | (simp_all; done) | (simp_all <;> omega)) ?_)
          refine hK _ ?_; clear hK K; refine Nav.imp ?_
          simp [push_cast]
end Go.Proofs.YtdddknniooimmaaGreat
