/-
  Texts of this seat put together: BE2, BE3, BE4, BE5, BW6, BW7, BW8, T2.
-/
import Derived.Test.YtdddknniooimmaaGreatJ10
import Derived.Test.YtdddknniooimmaaGreatJ8
import Derived.Test.YtdddknniooimmaaGreatJ7
import Derived.Test.YtdddknniooimmaaGreatJ9
set_option linter.unusedVariables false
set_option linter.unusedSimpArgs false
set_option maxRecDepth 100000
namespace Go.Proofs.YtdddknniooimmaaGreat
open Go.Abs

def Perp (h k : Hd) : Prop := k = h.l ∨ k = h.r
def Hd.vert : Hd → Bool | .e => false | .n => true | .w => false | .s => true
theorem Perp.vert {h k : Hd} (p : Perp h k) : k.vert = !h.vert := by
  rcases p with rfl | rfl <;> cases h <;> rfl
def turnC (h : Hd) : List Crk → List Crk
  | [] => []
  | d :: t => if d.h = h then turnC d.h t else d :: turnC d.h t
theorem turnC_p : ∀ (h : Hd) (t : List Crk), (turnC h t).map (·.p) = turnG h t
  | h, [] => rfl
  | h, d :: t => by
    simp only [turnC, turnG]
    split
    · exact turnC_p d.h t
    · rw [List.map_cons, turnC_p d.h t]
def Hds : Hd → List Crk → Prop
  | _, [] => True
  | h, d :: t => (d.h = h ∨ Perp h d.h) ∧ Hds d.h t
theorem orb_hds (S : Cell → Bool) : ∀ (n : Nat) (c : Crk), Hds c.h (orb (suc S) n (suc S c))
  | 0, c => trivial
  | n + 1, c => by
    refine ⟨?_, orb_hds S n (suc S c)⟩
    show nxH S c.q c.h = c.h ∨ Perp c.h (nxH S c.q c.h)
    unfold nxH Perp
    split
    · exact .inr (.inl rfl)
    · split
      · exact .inl rfl
      · exact .inr (.inr rfl)
def Rel (a b : Crk) : Prop := (∃ k : Int, 1 ≤ k ∧ b.p = mv a.p a.h k) ∧ Perp a.h b.h
def cAll : List Crk → Prop
  | a :: b :: t => Rel a b ∧ cAll (b :: t)
  | _ => True
theorem cAll_get : ∀ {Q : List Crk}, cAll Q → ∀ k a b, Q[k]? = some a → Q[k + 1]? = some b → Rel a b
  | [], _, k, a, b, h, _ => by simp at h
  | [c], _, k, a, b, _, h => by simp at h
  | c :: d :: t, h, 0, a, b, ha, hb => by simp at ha hb; subst ha; subst hb; exact h.1
  | c :: d :: t, h, k + 1, a, b, ha, hb => cAll_get h.2 k a b (by simpa using ha) (by simpa using hb)
theorem turn_chain (c : Crk) : ∀ (t : List Crk) (a : Crk) (k : Int), 1 ≤ k → Chn (mv a.p a.h k) t c.p → Hds a.h t → Perp (lastH a.h t) c.h → cAll (a :: (turnC a.h t ++ [c]))
  | [], a, k, hk, hc, _, hp => by
    simp only [Chn] at hc
    exact ⟨⟨⟨k, hk, hc.symm⟩, hp⟩, trivial⟩
  | d :: t, a, k, hk, hc, hh, hp => by
    obtain ⟨h1, hc⟩ := hc
    obtain ⟨h2, hh⟩ := hh
    by_cases e : d.h = a.h
    · have hq : d.q = mv a.p a.h (k + 1) := by rw [← stp_mv, ← h1, ← e]; rfl
      rw [hq] at hc
      rw [e] at hh
      have hp' : Perp (lastH a.h t) c.h := by rw [← e]; exact hp
      have ih := turn_chain c t a (k + 1) (by omega) hc hh hp'
      simp only [turnC, if_pos e]
      rw [e]; exact ih
    · have hq : d.q = mv d.p d.h 1 := by rw [← stp_one]; rfl
      rw [hq] at hc
      have ih := turn_chain c t d 1 (by omega) hc hh hp
      simp only [turnC, if_neg e, List.cons_append]
      exact ⟨⟨⟨k, hk, h1⟩, h2.resolve_left e⟩, ih⟩
theorem loop_chain {S : Cell → Bool} {C : List Crk} (hC : Cracks S C) {L : List Crk} (hL : IsLp S L) : ∃ c K, polyOf L = (c :: K).map (·.p) ∧ cAll ((c :: K) ++ [c]) := by
  obtain ⟨c, n, hc, pc, rfl, lc⟩ := hL
  obtain ⟨h2, h3, h4⟩ := lp_turn hC hc pc lc
  obtain ⟨m, rfl⟩ : ∃ m, n = m + 1 := ⟨n - 1, by omega⟩
  have hch := orb_chn S m (suc S c)
  have hret : itn (suc S) m (suc S c) = c := pc.ret
  rw [hret] at hch
  have hq : (suc S c).p = mv c.p c.h 1 := by rw [← stp_one]; rfl
  rw [hq] at hch
  refine ⟨c, turnC c.h (orb (suc S) m (suc S c)), ?_, ?_⟩
  · simp only [orb, polyOf, List.map_cons, turnC_p]
  · refine turn_chain c _ c 1 (by omega) hch (orb_hds S m c) ?_
    rw [lastH_orb _ (by omega)]
    have e1 : itn (suc S) (m - 1) (suc S c) = itn (suc S) (m + 1 - 1) c := by
      rw [show m + 1 - 1 = (m - 1) + 1 by omega]; rfl
    rw [e1]
    have e2 : suc S (itn (suc S) (m + 1 - 1) c) = c := by
      have := itn_succ (f := suc S) (m + 1 - 1) c
      rw [← this]; exact pc.ret
    generalize itn (suc S) (m + 1 - 1) c = d at *
    have e3 : c.h = nxH S d.q d.h := (congrArg Crk.h e2).symm
    unfold nxH at e3
    unfold Perp
    split at e3
    · exact .inl e3
    · split at e3
      · exfalso
        rw [e3] at h3
        rcases h3 with h3 | h3 <;> rcases h4 with h4 | h4 <;> rw [h3] at h4 <;> cases h4
      · exact .inr e3
theorem cyc_getC {P : List Crk} {p : Crk} {k : Nat} (hk : k < P.length + 1) : ((p :: P) ++ [p])[k]? = (p :: P)[k]? ∧ ((p :: P) ++ [p])[k + 1]? = (p :: P)[(k + 1) % (p :: P).length]? := by
  refine ⟨List.getElem?_append_left (by simpa using hk), ?_⟩
  by_cases h : k + 1 < (p :: P).length
  · rw [List.getElem?_append_left h, Nat.mod_eq_of_lt h]
  · have e : k + 1 = (p :: P).length := by simp at h ⊢; omega
    rw [e, Nat.mod_self, List.getElem?_append_right (Nat.le_refl _)]
    simp
theorem chain_cyc {c : Crk} {K : List Crk} (h : cAll ((c :: K) ++ [c])) {k : Nat} {a b : Crk} (ha : (c :: K)[k]? = some a) (hb : (c :: K)[(k + 1) % (c :: K).length]? = some b) : Rel a b := by
  have hk := (List.getElem?_eq_some_iff.1 ha).1
  obtain ⟨h1, h2⟩ := cyc_getC (p := c) (P := K) (k := k) (by simpa using hk)
  exact cAll_get h k a b (h1.trans ha) (h2.trans hb)
theorem chain_vert {c : Crk} {K : List Crk} (h : cAll ((c :: K) ++ [c])) : ∀ k a, ((c :: K) ++ [c])[k]? = some a → a.h.vert = (if k % 2 = 0 then c.h.vert else !c.h.vert)
  | 0, a, ha => by simp at ha; subst ha; simp
  | k + 1, a, ha => by
    have hl := (List.getElem?_eq_some_iff.1 ha).1
    obtain ⟨b, hb⟩ := getq (l := (c :: K) ++ [c]) (k := k) (by omega)
    have ih := chain_vert h k b hb
    have hr := (cAll_get h k b a hb ha).2.vert
    rw [hr, ih]
    by_cases e : k % 2 = 0
    · rw [if_pos e, if_neg (by omega)]
    · rw [if_neg e, if_pos (by omega)]; simp
theorem chain_even {c : Crk} {K : List Crk} (h : cAll ((c :: K) ++ [c])) : (c :: K).length % 2 = 0 ∧ 4 ≤ (c :: K).length := by
  have h1 := chain_vert h (c :: K).length c (by rw [List.getElem?_append_right (Nat.le_refl _)]; simp)
  have hev : (c :: K).length % 2 = 0 := by
    apply Classical.byContradiction
    intro hn
    rw [if_neg hn] at h1
    cases hc : c.h.vert <;> rw [hc] at h1 <;> cases h1
  refine ⟨hev, ?_⟩
  apply Classical.byContradiction
  intro hlt
  have h2 : (c :: K).length = 2 := by simp at hev hlt ⊢; omega
  obtain ⟨b, hb⟩ : ∃ b, K = [b] := List.length_eq_one_iff.1 (by simpa using h2)
  subst hb
  obtain ⟨⟨⟨k, hk, e1⟩, p1⟩, ⟨⟨j, hj, e2⟩, p2⟩, _⟩ := h
  obtain ⟨⟨x, y⟩, h⟩ := c
  obtain ⟨⟨u, v⟩, g⟩ := b
  simp only at *
  cases h <;> cases g <;> simp [Perp, Hd.l, Hd.r, mv] at p1 e1 e2 <;> omega
theorem rel_flags {a b c : Crk} (h1 : Rel a b) (h2 : Rel b c) : ((a.p.x == b.p.x) == (a.p.y == b.p.y)) = false ∧ ((a.p.x == b.p.x) == (b.p.x == c.p.x)) = false := by
  obtain ⟨⟨k, hk, e1⟩, p1⟩ := h1
  obtain ⟨⟨j, hj, e2⟩, p2⟩ := h2
  obtain ⟨⟨x, y⟩, h⟩ := a
  obtain ⟨p, g⟩ := b
  obtain ⟨q, f⟩ := c
  simp only at *
  subst e1
  subst e2
  cases h <;> cases g <;> simp [Perp, Hd.l, Hd.r] at p1 <;> simp [mv] <;> omega
end Go.Proofs.YtdddknniooimmaaGreat

namespace Go.Proofs.YtdddknniooimmaaGreat
open Go.Abs

theorem lowerL_ok (a b : Cell) : PC Tryz.prog 39 [.agg a.row, .agg b.row] (.p (.bool (decide (lowC a b)))) := by
  obtain ⟨ax, ay⟩ := a
  obtain ⟨bx, bY⟩ := b
  refine pc_of_awp cx (fn := Tryz.f39) (c := _) Tryz.func39 rfl rfl (Nat.le_of_ble_eq_true rfl) ?_
  rw [Tryz.ntmps39]; refine Nav.imp ?_
  refine awp_region cx [] fun K hK => ?_
  simp [push_cast]
  repeat (refine And.intro (by clear hK; intros; first | omega | (simp_all; done) | (simp_all <;> omega)) ?_)
  refine hK _ ?_; clear hK K; refine Nav.imp ?_
  refine awp_region cx [] fun K hK => ?_
  simp [push_cast]
  repeat (refine And.intro (by clear hK; intros; first | omega | (simp_all; done) | (simp_all <;> omega)) ?_)
  refine hK _ ?_; clear hK K; refine Nav.imp ?_
  refine awp_cond (b := ay != bY) (by simp [push_cast]) (fun hb => ?_) (fun hb => ?_) <;> (refine Nav.imp ?_)
  · simp at hb
    refine awp_region cx [] fun K hK => ?_
    simp [push_cast]
    repeat (refine And.intro (by clear hK; intros; first | omega | (simp_all; done) | (simp_all <;> omega)) ?_)
    refine hK _ ?_; clear hK K; refine Nav.imp ?_
    simp [push_cast, lowC, hb]
  · simp at hb
    refine awp_region cx [] fun K hK => ?_
    simp [push_cast]
    repeat (refine And.intro (by clear hK; intros; first | omega | (simp_all; done) | (simp_all <;> omega)) ?_)
    refine hK _ ?_; clear hK K; refine Nav.imp ?_
    simp [push_cast, lowC, hb]
theorem size_ok (a b : Cell) (ha : (-4096 ≤ a.x ∧ a.x ≤ 4096) ∧ -4096 ≤ a.y ∧ a.y ≤ 4096) (hb0 : (-4096 ≤ b.x ∧ b.x ≤ 4096) ∧ -4096 ≤ b.y ∧ b.y ≤ 4096) : PC Tryz.prog 40 [.agg a.row, .agg b.row] (.p (.int .i64 (epsL a b))) := by
  have hE : epsL a b = if a.x - b.x + a.y - b.y < 0 then -(a.x - b.x + a.y - b.y) else a.x - b.x + a.y - b.y := rfl
  generalize epsL a b = e at *
  obtain ⟨ax, ay⟩ := a
  obtain ⟨bx, bY⟩ := b
  simp only at *
  have w1 := wrap_i64 (n := ax - bx) (by omega) (by omega)
  have w2 := wrap_i64 (n := ax - bx + ay) (by omega) (by omega)
  have w3 := wrap_i64 (n := ax - bx + ay - bY) (by omega) (by omega)
  have w4 := wrap_i64 (n := -(ax - bx + ay - bY)) (by omega) (by omega)
  generalize hD : ax - bx + ay - bY = D0 at *
  refine pc_of_awp cx (fn := Tryz.f40) (c := _) Tryz.func40 rfl rfl (Nat.le_of_ble_eq_true rfl) ?_
  rw [Tryz.ntmps40]; refine Nav.imp ?_
  refine awp_region cx [] fun K hK => ?_
  simp [push_cast]
  repeat (refine And.intro (by clear hK; intros; first | omega | (simp_all; done) | (simp_all <;> omega)) ?_)
  refine hK _ ?_; clear hK K; refine Nav.imp ?_
  refine awp_region cx [] fun K hK => ?_
  simp [push_cast, w1, w2, w3, hD]
  repeat (refine And.intro (by clear hK; intros; first | omega | (simp_all; done) | (simp_all <;> omega)) ?_)
  refine hK _ ?_; clear hK K; refine Nav.imp ?_
  refine awp_region cx [] fun K hK => ?_
  simp [push_cast]
  repeat (refine And.intro (by clear hK; intros; first | omega | (simp_all; done) | (simp_all <;> omega)) ?_)
  refine hK _ ?_; clear hK K; refine Nav.imp ?_
  refine awp_cond (b := decide (D0 < 0)) (by simp [push_cast]) (fun hb => ?_) (fun hb => ?_) <;> (refine Nav.imp ?_)
  · have hb : D0 < 0 := by simpa using hb
    rw [if_pos hb] at hE
    refine awp_region cx [] fun K hK => ?_
    simp [push_cast, w4]
    repeat (refine And.intro (by clear hK; intros; first | omega | (simp_all; done) | (simp_all <;> omega)) ?_)
    refine hK _ ?_; clear hK K; refine Nav.imp ?_
    simp [push_cast, hE]
  · have hb : ¬ D0 < 0 := by simpa using hb
    rw [if_neg hb] at hE
    refine awp_region cx [] fun K hK => ?_
    simp [push_cast]
    repeat (refine And.intro (by clear hK; intros; first | omega | (simp_all; done) | (simp_all <;> omega)) ?_)
    refine hK _ ?_; clear hK K; refine Nav.imp ?_
    simp [push_cast, hE]
theorem valid05_ok (a : Cell) (ha : (-4096 ≤ a.x ∧ a.x ≤ 4096) ∧ -4096 ≤ a.y ∧ a.y ≤ 4096) : PC Tryz.prog 153 [.agg a.row] (.p (.bool true)) := by
  obtain ⟨ax, ay⟩ := a
  simp only at ha
  have h1 : (-16777216 : Int) ≤ ax := by omega
  have h2 : ax ≤ 16777216 := by omega
  have h3 : (-16777216 : Int) ≤ ay := by omega
  have h4 : ay ≤ 16777216 := by omega
  refine pc_of_awp cx (fn := Tryz.f153) (c := _) Tryz.func153 rfl rfl (Nat.le_of_ble_eq_true rfl) ?_
  rw [Tryz.ntmps153]; refine Nav.imp ?_
  refine awp_region cx [] fun K hK => ?_
  simp [push_cast]
  repeat (refine And.intro (by clear hK; intros; first | omega | (simp_all; done) | (simp_all <;> omega)) ?_)
  refine hK _ ?_; clear hK K; refine Nav.imp ?_
  refine awp_region cx [] fun K hK => ?_
  simp [push_cast, h1, h2, h3, h4]
  repeat (refine And.intro (by clear hK; intros; first | omega | (simp_all; done) | (simp_all <;> omega)) ?_)
  refine hK _ ?_; clear hK K; refine Nav.imp ?_
  simp [push_cast, h1, h2, h3, h4]

def epsAt (ε : Cell → Cell → Int) (P : List Cell) (k : Nat) : Int := match P[k]?, P[(k + 1) % P.length]? with
  | some a, some b => ε a b
  | _, _ => 0
def cycTo (ε : Cell → Cell → Int) (P : List Cell) (i : Nat) : Int := ((List.range i).map (epsAt ε P)).sum
theorem cycTo_succ {ε : Cell → Cell → Int} {P : List Cell} {i : Nat} {a b : Cell} (ha : P[i]? = some a) (hb : P[(i + 1) % P.length]? = some b) : cycTo ε P (i + 1) = cycTo ε P i + ε a b := by
  unfold cycTo
  rw [List.range_succ, List.map_append, List.sum_append]
  simp [epsAt, ha, hb]
theorem map_cg {α : Type} {f g : α → Int} : ∀ {l : List α}, (∀ a ∈ l, f a = g a) → l.map f = l.map g := fun h => List.map_congr_left h
theorem path_rng (ε : Cell → Cell → Int) : ∀ (Q : List Cell), pathSum ε Q = ((List.range (Q.length - 1)).map fun k => match Q[k]?, Q[k + 1]? with | some a, some b => ε a b | _, _ => 0).sum
  | [] => rfl
  | [a] => rfl
  | a :: b :: t => by
    have ih := path_rng ε (b :: t)
    simp only [List.length_cons, Nat.add_sub_cancel] at ih ⊢
    rw [List.range_succ_eq_map, List.map_cons, List.sum_cons, List.map_map]
    simp only [pathSum]
    rw [ih]
    rfl
theorem cyc_path (ε : Cell → Cell → Int) (p : Cell) (P : List Cell) : cycTo ε (p :: P) (p :: P).length = pathSum ε ((p :: P) ++ [p]) := by
  rw [path_rng]
  unfold cycTo
  have hl : ((p :: P) ++ [p]).length - 1 = (p :: P).length := by simp
  rw [hl]
  congr 1
  refine map_cg fun k hk => ?_
  rw [List.mem_range] at hk
  obtain ⟨h1, h2⟩ := cyc_get (p := p) (P := P) (k := k) (by simpa using hk)
  unfold epsAt
  rw [h1, h2]
end Go.Proofs.YtdddknniooimmaaGreat

namespace Go.Proofs.YtdddknniooimmaaGreat
open Go.Abs

def nrP (P : List Cell) : Prop := ∀ p ∈ P, (-4096 ≤ p.x ∧ p.x ≤ 4096) ∧ -4096 ≤ p.y ∧ p.y ≤ 4096
theorem mul_bd {a b : Int} (ha : -4096 ≤ a ∧ a ≤ 4096) (hb : -4096 ≤ b ∧ b ≤ 4096) : -16777216 ≤ a * b ∧ a * b ≤ 16777216 := by
  have h1 : 0 ≤ (4096 - a) * (4096 + b) := Int.mul_nonneg (by omega) (by omega)
  have h2 : 0 ≤ (4096 + a) * (4096 - b) := Int.mul_nonneg (by omega) (by omega)
  have h3 : 0 ≤ (4096 - a) * (4096 - b) := Int.mul_nonneg (by omega) (by omega)
  have h4 : 0 ≤ (4096 + a) * (4096 + b) := Int.mul_nonneg (by omega) (by omega)
  simp only [Int.mul_add, Int.add_mul, Int.sub_mul, Int.mul_sub] at h1 h2 h3 h4
  omega
theorem cyc_bd {P : List Cell} (h : nrP P) : ∀ i, i ≤ P.length → -(33554432 * (i : Int)) ≤ cycTo epsA P i ∧ cycTo epsA P i ≤ 33554432 * (i : Int)
  | 0, _ => by simp [cycTo]
  | i + 1, hi => by
    have ih := cyc_bd h i (by omega)
    obtain ⟨a, ha⟩ := getq (l := P) (k := i) (by omega)
    obtain ⟨b, hb⟩ := getq (l := P) (k := (i + 1) % P.length) (Nat.mod_lt _ (by omega))
    rw [cycTo_succ ha hb]
    have na := h a (List.mem_of_getElem? ha)
    have nb := h b (List.mem_of_getElem? hb)
    have m1 := mul_bd na.1 nb.2
    have m2 := mul_bd na.2 nb.1
    have he : epsA a b = a.x * b.y - a.y * b.x := rfl
    rw [he]
    omega
set_option maxHeartbeats 4000000 in
theorem area05_ok (P : List Cell) (hl : P.length ≤ 8192) (h : nrP P) : PC Tryz.prog 104 [encCells P] (.p (.int .i64 (cycTo epsA P P.length))) := by
  have hbd := cyc_bd h
  have hc0 : cycTo epsA P 0 = 0 := rfl
  have hl' : ¬ (8192 : Int) < P.length := by omega
  refine pc_of_awp cx (fn := Tryz.f104) (c := _) Tryz.func104 rfl rfl (Nat.le_of_ble_eq_true rfl) ?_
  rw [Tryz.ntmps104]; refine Nav.imp ?_
  refine awp_region cx [] fun K hK => ?_
  simp [push_cast]
  repeat (refine And.intro (by clear hK; intros; first | omega | (simp_all; done) | (simp_all <;> omega)) ?_)
  refine hK _ ?_; clear hK K; refine Nav.imp ?_
  refine awp_region cx [] fun K hK => ?_
  simp [push_cast, hl']
  repeat (refine And.intro (by clear hK; intros; first | omega | (simp_all; done) | (simp_all <;> omega)) ?_)
  refine hK _ ?_; clear hK K; refine Nav.imp ?_
  refine awp_cond (b := false) (by simp [push_cast, hl']) (fun hb => ?_) (fun hb => ?_) <;> (refine Nav.imp ?_)
  · simp at hb
  · refine awp_region cx [] fun K hK => ?_
    simp [push_cast]
    repeat (refine And.intro (by clear hK; intros; first | omega | (simp_all; done) | (simp_all <;> omega)) ?_)
    refine hK _ ?_; clear hK K; refine Nav.imp ?_
    refine awp_region cx [] fun K hK => ?_
    simp [push_cast]
    repeat (refine And.intro (by clear hK; intros; first | omega | (simp_all; done) | (simp_all <;> omega)) ?_)
    refine hK _ ?_; clear hK K; refine Nav.imp ?_
    refine awp_loop (β := Nat) (fun i => ⟨45, [(0, .d (encCells P)), (3, .d (.int .i64 (cycTo epsA P i))), (4, .d (.int .i64 i))], [], 0⟩) (fun i => i ≤ P.length) (fun i => P.length - i) 0 ?_ (Nat.zero_le _) ?_
    · refine weak_of [] rfl (by simp [upT, up, upL, push_cast, hc0]) (by simp [upH, upR, upL, up, push_cast, hc0]) (by simp [namesOk, push_cast]) (by simp [olds])
    · intro i hi
      have b0 := hbd i hi
      refine Nav.imp ?_
      refine awp_region cx [] fun K hK => ?_
      simp [push_cast]
      repeat (refine And.intro (by clear hK; intros; first | omega | (simp_all; done) | (simp_all <;> omega)) ?_)
      refine hK _ ?_; clear hK K; refine Nav.imp ?_
      refine awp_cond (b := decide ((i : Int) < P.length)) (by simp [push_cast]) (fun hb => ?_) (fun hb => ?_) <;> (refine Nav.imp ?_)
      · have hlt : i < P.length := by simpa using hb
        have b1 := hbd (i + 1) hlt
        obtain ⟨a, ha⟩ := getq hlt
        obtain ⟨b, hb3⟩ := getq (l := P) (k := (i + 1) % P.length) (Nat.mod_lt _ (by omega))
        have hs := cycTo_succ (ε := epsA) ha hb3
        have na := h a (List.mem_of_getElem? ha)
        have nb := h b (List.mem_of_getElem? hb3)
        have m1 := mul_bd na.1 nb.2
        have m2 := mul_bd na.2 nb.1
        have c1 := valid05_ok a na
        have e1 := wrap_i64 (n := (i : Int) + 1) (by omega) (by omega)
        have e3 : ((i : Int) + 1).tmod (P.length : Int) = (((i + 1) % P.length : Nat) : Int) := (Int.ofNat_tmod _ _).symm
        have e4 : ¬ P = [] := by intro e; rw [e] at hlt; simp at hlt
        have he : epsA a b = a.x * b.y - a.y * b.x := rfl
        rw [he] at hs
        generalize hC1 : cycTo epsA P (i + 1) = C1 at *
        generalize cycTo epsA P i = C0 at *
        generalize (i + 1) % P.length = j at *
        have w1 := wrap_i64 (n := a.x * b.y) (by omega) (by omega)
        have w2 := wrap_i64 (n := a.y * b.x) (by omega) (by omega)
        have w3 := wrap_i64 (n := C0 + a.x * b.y) (by omega) (by omega)
        have w4 := wrap_i64 (n := C0 + a.x * b.y - a.y * b.x) (by omega) (by omega)
        have hs2 : C1 = C0 + a.x * b.y - a.y * b.x := by omega
        refine awp_region_draw cx mixed [] fun K hK => ?_
        simp [push_cast, ha, hb3, e1, e3, e4]
        repeat (refine And.intro (by clear hK; intros; first | omega | (simp_all; done) | (simp_all <;> omega)) ?_)
        refine hK _ _ (by kernel_rfl) ?_; clear hK K; refine Nav.imp ?_
        refine awp_region cx [(1, .p (.bool true))] fun K hK => ?_
        simp [push_cast, c1]
        repeat (refine And.intro (by clear hK; intros; first | omega | (simp_all; done) | (simp_all <;> omega)) ?_)
        refine hK _ ?_; clear hK K; refine Nav.imp ?_
        refine awp_cond (b := false) (by simp [push_cast]) (fun hb => ?_) (fun hb => ?_) <;> (refine Nav.imp ?_)
        · simp at hb
        · refine awp_region cx [] fun K hK => ?_
          simp [push_cast, w1, w2, w3, w4]
          repeat (refine And.intro (by clear hK; intros; first | omega | (simp_all; done) | (simp_all <;> omega)) ?_)
          refine hK _ ?_; clear hK K; refine Nav.imp ?_
          refine awp_region cx [] fun K hK => ?_
          simp [push_cast, e1]
          repeat (refine And.intro (by clear hK; intros; first | omega | (simp_all; done) | (simp_all <;> omega)) ?_)
          refine hK _ ?_; clear hK K; refine Nav.imp ?_
          refine ⟨i + 1, hlt, by omega, ?_⟩
          refine weak_of [] rfl (by simp [upT, up, upL, push_cast, hC1, hs2]) (by simp [upH, upR, upL, up, push_cast, hC1, hs2]) (by simp [namesOk, push_cast]) (by simp [olds])
      · have hie : i = P.length := by simp at hb; omega
        subst hie
        refine awp_region cx [] fun K hK => ?_
        simp [push_cast]
        repeat (refine And.intro (by clear hK; intros; first | omega | (simp_all; done) | (simp_all <;> omega)) ?_)
        refine hK _ ?_; clear hK K; refine Nav.imp ?_
        simp [push_cast]
end Go.Proofs.YtdddknniooimmaaGreat

namespace Go.Proofs.YtdddknniooimmaaGreat
open Go.Abs

def areaL (l : List (List Cell)) : Int := (l.map fun P => cycTo epsA P P.length).sum
def ptsL (l : List (List Cell)) : Nat := (l.map List.length).sum
theorem areaL_take {l : List (List Cell)} {i : Nat} {P : List Cell} (h : l[i]? = some P) : areaL (l.take (i + 1)) = areaL (l.take i) + cycTo epsA P P.length ∧ ptsL (l.take (i + 1)) = ptsL (l.take i) + P.length := by
  unfold areaL ptsL
  rw [List.take_add_one, h]
  simp [List.sum_append]
theorem ptsL_le (l : List (List Cell)) (i : Nat) : ptsL (l.take i) ≤ ptsL l := by
  have : ptsL l = ptsL (l.take i) + ptsL (l.drop i) := by
    unfold ptsL
    rw [← List.sum_append, ← List.map_append, List.take_append_drop]
  omega
theorem areaL_bd {l : List (List Cell)} (h : ∀ P ∈ l, nrP P) : ∀ i, i ≤ l.length → -(33554432 * (ptsL (l.take i) : Int)) ≤ areaL (l.take i) ∧ areaL (l.take i) ≤ 33554432 * (ptsL (l.take i) : Int)
  | 0, _ => by simp [areaL, ptsL]
  | i + 1, hi => by
    have ih := areaL_bd h i (by omega)
    obtain ⟨P, hP⟩ := getq (l := l) (k := i) (by omega)
    obtain ⟨e1, e2⟩ := areaL_take hP
    have := cyc_bd (h P (List.mem_of_getElem? hP)) P.length (Nat.le_refl _)
    rw [e1, e2]
    omega
set_option maxHeartbeats 4000000 in
theorem area17_ok (l : List (List Cell)) (hl : l.length ≤ 1000000) (hp : ptsL l ≤ 8192) (h : ∀ P ∈ l, nrP P) : PC Tryz.prog 41 [encPs l] (.p (.int .i64 (areaL l))) := by
  have hbd := areaL_bd h
  have hpt := ptsL_le l
  have hend : areaL l = areaL (l.take l.length) := by rw [List.take_length]
  have h0 : areaL (l.take 0) = 0 := rfl
  have h00 : ptsL (l.take 0) = 0 := rfl
  rw [hend]
  refine pc_of_awp cx (fn := Tryz.f41) (c := _) Tryz.func41 rfl rfl (Nat.le_of_ble_eq_true rfl) ?_
  rw [Tryz.ntmps41]; refine Nav.imp ?_
  refine awp_region cx [] fun K hK => ?_
  simp [push_cast]
  repeat (refine And.intro (by clear hK; intros; first | omega | (simp_all; done) | (simp_all <;> omega)) ?_)
  refine hK _ ?_; clear hK K; refine Nav.imp ?_
  refine awp_region cx [] fun K hK => ?_
  simp [push_cast]
  repeat (refine And.intro (by clear hK; intros; first | omega | (simp_all; done) | (simp_all <;> omega)) ?_)
  refine hK _ ?_; clear hK K; refine Nav.imp ?_
  refine awp_region cx [] fun K hK => ?_
  simp [push_cast]
  repeat (refine And.intro (by clear hK; intros; first | omega | (simp_all; done) | (simp_all <;> omega)) ?_)
  refine hK _ ?_; clear hK K; refine Nav.imp ?_
  refine awp_loop (β := Nat) (fun i => ⟨27, [(3, .d (.int .i64 (ptsL (l.take i) : Nat))), (4, .d (.int .i64 (areaL (l.take i)))), (7, .d (encPs l)), (8, .d (.int .i64 l.length)), (9, .d (.int .i64 i))], [], 0⟩) (fun i => i ≤ l.length) (fun i => l.length - i) 0 ?_ (Nat.zero_le _) ?_
  · refine weak_of [] rfl (by simp [upT, up, upL, push_cast, areaL, ptsL]) (by simp [upH, upR, upL, up, push_cast, areaL, ptsL]) (by simp [namesOk, push_cast]) (by simp [olds])
  · intro i hi
    have b0 := hbd i hi
    refine Nav.imp ?_
    refine awp_region cx [] fun K hK => ?_
    simp [push_cast]
    repeat (refine And.intro (by clear hK; intros; first | omega | (simp_all; done) | (simp_all <;> omega)) ?_)
    refine hK _ ?_; clear hK K; refine Nav.imp ?_
    refine awp_cond (b := decide ((i : Int) < l.length)) (by simp [push_cast]) (fun hb => ?_) (fun hb => ?_) <;> (refine Nav.imp ?_)
    · have hlt : i < l.length := by simpa using hb
      have b1 := hbd (i + 1) hlt
      obtain ⟨P, hP⟩ := getq hlt
      obtain ⟨s1, s2⟩ := areaL_take hP
      have p1 := hpt (i + 1)
      have p0 := hpt i
      have c1 := area05_ok P (by omega) (h P (List.mem_of_getElem? hP))
      have e1 := wrap_i64 (n := (i : Int) + 1) (by omega) (by omega)
      generalize cycTo epsA P P.length = ar at *
      generalize hA1 : areaL (l.take (i + 1)) = A1 at *
      generalize areaL (l.take i) = A0 at *
      generalize hN1 : ptsL (l.take (i + 1)) = N1 at *
      generalize ptsL (l.take i) = N0 at *
      have w1 := wrap_i64 (n := (N0 : Int) + P.length) (by omega) (by omega)
      have w2 := wrap_i64 (n := A0 + ar) (by omega) (by omega)
      have hN2 : ((N1 : Nat) : Int) = (N0 : Int) + P.length := by omega
      have hle : ¬ (8192 : Int) < (N0 : Int) + P.length := by omega
      refine awp_region cx [] fun K hK => ?_
      simp [push_cast, hP]
      repeat (refine And.intro (by clear hK; intros; first | omega | (simp_all; done) | (simp_all <;> omega)) ?_)
      refine hK _ ?_; clear hK K; refine Nav.imp ?_
      refine awp_region cx [] fun K hK => ?_
      simp [push_cast, w1]
      repeat (refine And.intro (by clear hK; intros; first | omega | (simp_all; done) | (simp_all <;> omega)) ?_)
      refine hK _ ?_; clear hK K; refine Nav.imp ?_
      refine awp_region cx [] fun K hK => ?_
      simp [push_cast, hle]
      repeat (refine And.intro (by clear hK; intros; first | omega | (simp_all; done) | (simp_all <;> omega)) ?_)
      refine hK _ ?_; clear hK K; refine Nav.imp ?_
      refine awp_cond (b := false) (by simp [push_cast, hle]) (fun hb => ?_) (fun hb => ?_) <;> (refine Nav.imp ?_)
      · simp at hb
      · refine awp_region cx [(3, .p (.int .i64 ar))] fun K hK => ?_
        simp [push_cast, c1, w2]
        repeat (refine And.intro (by clear hK; intros; first | omega | (simp_all; done) | (simp_all <;> omega)) ?_)
        refine hK _ ?_; clear hK K; refine Nav.imp ?_
        refine awp_region cx [] fun K hK => ?_
        simp [push_cast, e1]
        repeat (refine And.intro (by clear hK; intros; first | omega | (simp_all; done) | (simp_all <;> omega)) ?_)
        refine hK _ ?_; clear hK K; refine Nav.imp ?_
        refine ⟨i + 1, hlt, by omega, ?_⟩
        refine weak_of [] rfl (by simp [upT, up, upL, push_cast, hA1, hN1, s1, hN2]) (by simp [upH, upR, upL, up, push_cast, hA1, hN1, s1, hN2]) (by simp [namesOk, push_cast]) (by simp [olds])
    · have hie : i = l.length := by simp at hb; omega
      subst hie
      refine awp_region cx [] fun K hK => ?_
      simp [push_cast]
      repeat (refine And.intro (by clear hK; intros; first | omega | (simp_all; done) | (simp_all <;> omega)) ?_)
      refine hK _ ?_; clear hK K; refine Nav.imp ?_
      simp [push_cast]
end Go.Proofs.YtdddknniooimmaaGreat

namespace Go.Proofs.YtdddknniooimmaaGreat
open Go.Abs Go.Shelf

theorem objs_dyn {n : Nat} {tm : List (Nat × AV)} {nxt : Nat} {e m : Nat} {H : List (Nat × Option Ob)} {S : List (List (List D))} (h : (H.all fun x => Nat.blt x.1 1000000) = true) : ∀ j, (⟨n, tm, H ++ dyn e m 0 S, nxt⟩ : St).obj (1000000 + j) = (S[j]?).map fun r => (⟨e, m, dr r⟩ : Ob) := by
  intro j
  simp only [St.obj]
  rw [find_app, find_lowN h (by omega), Option.none_or, find_dyn0]
  cases S[j]? <;> rfl
theorem mdata_kl (A : List (Cell × List Hd)) : mdata (kl A) = cRows A := by simp [mdata, kl, rowL]
theorem runs_bd {l : List Run} (h : fine l = true) : ∀ r ∈ l, -4096 ≤ r.a ∧ r.a < r.b ∧ r.b ≤ 4096 := fun r hr => by
  obtain ⟨_, ha, hb⟩ := fine_apart.1 h
  have := hb r hr
  exact ⟨this.1, ha.1 r hr, this.2⟩
theorem sub_in {l b : List Run} (h : fine l = true) (hb : rvalid b = true) : Apart (sweep fD l b) ∧ ∀ r ∈ sweep fD l b, -4096 ≤ r.a ∧ r.b ≤ 4096 := by
  obtain ⟨h1, h2⟩ := sweep_facts (f := fD) rfl (fine_rv h) hb
  refine ⟨h1, apart_bounds h1 fun y hy => ?_⟩
  rw [h2] at hy
  simp only [fD, Bool.and_eq_true] at hy
  obtain ⟨r, hr, h3, h4⟩ := inR_iff.1 hy.1
  have := runs_bd h r hr
  omega
theorem sub_bd {l b : List Run} (h : fine l = true) (hb : rvalid b = true) : ∀ r ∈ sweep fD l b, -4096 ≤ r.a ∧ r.a < r.b ∧ r.b ≤ 4096 := fun r hr => by
  obtain ⟨h1, h2⟩ := sub_in h hb
  have := h2 r hr
  exact ⟨this.1, h1.1 r hr, this.2⟩
theorem sub_len {l b : List Run} (h : fine l = true) (hb : rvalid b = true) : (sweep fD l b).length ≤ 1000000 := by
  obtain ⟨h1, h2⟩ := sub_in h hb
  have := apart_len h1 h2
  omega
theorem rowOf_len3 {R : List Row} (hR : smallR R) (y : Int) : (rowOf R y).length ≤ 1000000 := by
  unfold rowOf
  cases hf : R.find? (fun w => decide (w.y = y)) with
  | none => simp
  | some w => exact hR.2 w (List.mem_of_find?_eq_some hf)
set_option maxHeartbeats 64000000 in
theorem collect_px (R : List Row) (hv : validR R = true) (hR : smallR R) (hbig : (collectL R).length ≤ 10000000) : PX Tryz.prog 86 [.d (.agg (regRow R))] [] [] [(0, ⟨118, mapM, dr (cRows (addAll [] (collectL R)))⟩)] (.hm 0) := by
  have hl := hR.1
  obtain ⟨full, hfull⟩ : ∃ full, full = collectL R := ⟨_, rfl⟩
  rw [← hfull] at hbig ⊢
  have hrow : ∀ i w, R[i]? = some w → (R.drop i).flatMap (rowCr R) = rowCr R w ++ (R.drop (i + 1)).flatMap (rowCr R) := fun i w h => by rw [drop_get h, List.flatMap_cons]
  have hk0 : (kl []).length ≤ 100000000 := by simp [kl]
  refine px_of_awp cx (fn := Tryz.f86) (c := _) 0 Tryz.func86 rfl rfl (Nat.le_of_ble_eq_true rfl) rfl rfl fun Ls => ?_
  rw [Tryz.ntmps86]; refine Nav.imp ?_
  refine awp_region cx [] fun K hK => ?_
  simp [push_cast]
  repeat (refine And.intro (by clear hK; intros; first | omega | (simp_all; done) | (simp_all <;> omega)) ?_)
  refine hK _ ?_; clear hK K; refine Nav.imp ?_
  refine awp_region cx [] fun K hK => ?_
  simp [push_cast]
  repeat (refine And.intro (by clear hK; intros; first | omega | (simp_all; done) | (simp_all <;> omega)) ?_)
  refine hK _ ?_; clear hK K; refine Nav.imp ?_
  refine awp_region cx [] fun K hK => ?_
  simp [push_cast]
  repeat (refine And.intro (by clear hK; intros; first | omega | (simp_all; done) | (simp_all <;> omega)) ?_)
  refine hK _ ?_; clear hK K; refine Nav.imp ?_
  refine awp_loop (β := Nat × List (Cell × List Hd)) (fun s => ⟨106, [(1, .ptr 0 0 0), (3, .hm 1), (18, .d (encRows R)), (19, .d (.int .i64 R.length)), (20, .d (.int .i64 s.1))], (1, some ⟨118, mapM, mrows (idsN (kl (s.2)).length) (kl (s.2))⟩) :: [(0, some ⟨24, 1, [[.d (encRows R)]]⟩)] ++ dyn 178 1 0 (SA (kl (s.2))), 1000000000000⟩) (fun s => s.1 ≤ R.length ∧ Acc full s.2 ((R.drop s.1).flatMap (rowCr R))) (fun s => R.length - s.1) (0, []) ?_ ⟨Nat.zero_le _, ⟨[], rfl, by simp [hfull, collectL]⟩⟩ ?_
  · refine weak_map (A := kl []) [(0, some 0), (1, some 2)] (idsN (kl []).length) [(0, some ⟨24, 1, [[.d (encRows R)]]⟩)] 1 2 rfl rfl rfl (by omega) (idsN_length _) rfl ?_ rfl ?_ ?_ ?_ ?_ (idsN_nodup _) ?_ ?_
    · simp [upT, up, upL, push_cast, find_app, find_dynN]
    · simp [push_cast, find_dyn, mrows, kl, idsN]
    · simp [upH, upR, upL, up, push_cast, find_app, find_dyn, find_dynN]
    · simp [namesOk, push_cast]
    · simp [olds]
    · intro x hx; simp [kl, idsN] at hx
    · intro q x p hx hp1; simp [kl] at hp1
  · rintro ⟨i, A⟩ ⟨hi, hacc⟩
    simp only at hi hacc
    have ga := hacc.good hbig
    refine Nav.imp ?_
    refine awp_region cx [] fun K hK => ?_
    simp [push_cast]
    repeat (refine And.intro (by clear hK; intros; first | omega | (simp_all; done) | (simp_all <;> omega)) ?_)
    refine hK _ ?_; clear hK K; refine Nav.imp ?_
    refine awp_cond (b := decide ((i : Int) < R.length)) (by simp [push_cast]) (fun hb => ?_) (fun hb => ?_) <;> (refine Nav.imp ?_)
    · have hlt : i < R.length := by simpa using hb
      obtain ⟨w, hw⟩ := getq hlt
      have c1 := around_ok R i w hv hR hw
      have e0 := wrap_i64 (n := (i : Int) + 1) (by omega) (by omega)
      obtain ⟨hy, hfw⟩ := validR_at hv hw
      have hB := rowOf_rv hv (w.y - 1)
      have hU := rowOf_rv hv (w.y + 1)
      have hBl : (rowOf R (w.y - 1)).length ≤ 1000000 := rowOf_len3 hR _
      have hUl : (rowOf R (w.y + 1)).length ≤ 1000000 := rowOf_len3 hR _
      have hwl := hR.2 w (List.mem_of_getElem? hw)
      have c2 := subtract_ok w.runs _ hwl hBl (fine_rv hfw) hB
      have c3 := subtract_ok w.runs _ hwl hUl (fine_rv hfw) hU
      have hL1 := sub_bd hfw hB
      have hL2 := sub_bd hfw hU
      have hrs := runs_bd hfw
      have hR1 := rowCr R w
      rw [hrow i w hw] at hacc
      generalize hT3 : (R.drop (i + 1)).flatMap (rowCr R) = T3 at hacc
      unfold rowCr at hacc
      simp only [List.append_assoc] at hacc
      have hLl1 := sub_len hfw hB
      have hLl2 := sub_len hfw hU
      clear hrow
      obtain ⟨y, rs⟩ := w
      simp only at *
      generalize rowOf R (y - 1) = B at *
      generalize rowOf R (y + 1) = U at *
      generalize sweep fD rs B = L1 at *
      generalize sweep fD rs U = L2 at *
      refine awp_region cx [] fun K hK => ?_
      simp [push_cast, hw]
      repeat (refine And.intro (by clear hK; intros; first | omega | (simp_all; done) | (simp_all <;> omega)) ?_)
      refine hK _ ?_; clear hK K; refine Nav.imp ?_
      refine awp_region cx [(2, .p (.tup [encRuns B, encRuns U]))] fun K hK => ?_
      simp [push_cast, c1]
      repeat (refine And.intro (by clear hK; intros; first | omega | (simp_all; done) | (simp_all <;> omega)) ?_)
      refine hK _ ?_; clear hK K; refine Nav.imp ?_
      refine awp_region cx [(3, .p (encRuns L1))] fun K hK => ?_
      simp [push_cast, c2]
      repeat (refine And.intro (by clear hK; intros; first | omega | (simp_all; done) | (simp_all <;> omega)) ?_)
      refine hK _ ?_; clear hK K; refine Nav.imp ?_
      have hL := hL1
      generalize hT : L2.flatMap (wRun y) ++ (rs.flatMap (vRun y) ++ T3) = T at hacc
      refine awp_loop (β := Nat × List (Cell × List Hd)) (fun s => ⟨106, [(1, .ptr 0 0 0), (3, .hm 1), (18, .d (encRows R)), (19, .d (.int .i64 R.length)), (20, .d (.int .i64 i)), (5, .ptr 2 0 0), (7, .d (encRuns U)), (34, .d (encRuns L1)), (35, .d (.int .i64 L1.length)), (36, .d (.int .i64 s.1))], (1, some ⟨118, mapM, mrows (idsN (kl (s.2)).length) (kl (s.2))⟩) :: [(0, some ⟨24, 1, [[.d (encRows R)]]⟩), (2, some ⟨65, 2, [[.d (.int .i64 y), .d (encRuns rs)]]⟩)] ++ dyn 178 1 0 (SA (kl (s.2))), 1000000000000⟩) (fun s => s.1 ≤ L1.length ∧ Acc full s.2 ((L1.drop s.1).flatMap (eRun y) ++ T)) (fun s => L1.length - s.1) (0, A) ?_ ⟨Nat.zero_le _, by simpa using hacc⟩ ?_
      · refine weak_map (A := kl (A)) [(0, some 0), (1, some 1), (2, some 1000000000004)] (idsN (kl (A)).length) [(0, some ⟨24, 1, [[.d (encRows R)]]⟩), (2, some ⟨65, 2, [[.d (.int .i64 y), .d (encRuns rs)]]⟩)] 1 1 rfl rfl rfl (by have := ga.2.1; omega) (idsN_length _) rfl ?_ rfl ?_ ?_ ?_ ?_ (idsN_nodup _) ?_ ?_
        · simp [upT, up, upL, push_cast, find_app, find_dynN]
        · simp [push_cast, find_dyn]
        · simp [upH, upR, upL, up, push_cast, find_app, find_dyn, find_dynN]
        · simp [namesOk, push_cast]
        · simp [olds]
        · intro x hx; have h1 := idsN_mem.1 hx; have := ga.2.1; simp [olds]; omega
        · intro q x p hx hp1; obtain ⟨hq, rfl⟩ := idsN_get' hx; have := ga.2.1
          have hz := fun (e m : Nat) => SA_find (e := e) (m := m) hp1
          simp [push_cast, find_dyn0, hz]
          repeat rw [if_neg (by omega)]
          try rfl
      · rintro ⟨k, A⟩ ⟨hk, hacc⟩
        simp only at hk hacc
        have gk := hacc.good hbig
        refine Nav.imp ?_
        refine awp_region cx [] fun K hK => ?_
        simp [push_cast]
        repeat (refine And.intro (by clear hK; intros; first | omega | (simp_all; done) | (simp_all <;> omega)) ?_)
        refine hK _ ?_; clear hK K; refine Nav.imp ?_
        refine awp_cond (b := decide ((k : Int) < L1.length)) (by simp [push_cast]) (fun hb => ?_) (fun hb => ?_) <;> (refine Nav.imp ?_)
        · have hlt : k < L1.length := by simpa using hb
          obtain ⟨r, hr⟩ := getq hlt
          have hrb := hL r (List.mem_of_getElem? hr)
          have e0 := wrap_i64 (n := (k : Int) + 1) (by omega) (by omega)
          rw [drop_get hr, List.flatMap_cons, List.append_assoc] at hacc
          refine awp_region cx [] fun K hK => ?_
          simp [push_cast, hr]
          repeat (refine And.intro (by clear hK; intros; first | omega | (simp_all; done) | (simp_all <;> omega)) ?_)
          refine hK _ ?_; clear hK K; refine Nav.imp ?_
          refine awp_region cx [] fun K hK => ?_
          simp [push_cast]
          repeat (refine And.intro (by clear hK; intros; first | omega | (simp_all; done) | (simp_all <;> omega)) ?_)
          refine hK _ ?_; clear hK K; refine Nav.imp ?_
          generalize hT1 : (L1.drop (k + 1)).flatMap (eRun y) ++ T = T1 at hacc
          refine awp_loop (β := Nat × List (Cell × List Hd)) (fun s => ⟨106, [(1, .ptr 0 0 0), (3, .hm 1), (18, .d (encRows R)), (19, .d (.int .i64 R.length)), (20, .d (.int .i64 i)), (5, .ptr 2 0 0), (7, .d (encRuns U)), (34, .d (encRuns L1)), (35, .d (.int .i64 L1.length)), (36, .d (.int .i64 k)), (9, .ptr 3 0 0), (10, .d (.int .i64 (r.a + s.1)))], (1, some ⟨118, mapM, mrows (idsN (kl (s.2)).length) (kl (s.2))⟩) :: [(0, some ⟨24, 1, [[.d (encRows R)]]⟩), (2, some ⟨65, 2, [[.d (.int .i64 y), .d (encRuns rs)]]⟩), (3, some ⟨85, 2, [[.d (.int .i64 r.a), .d (.int .i64 r.b)]]⟩)] ++ dyn 178 1 0 (SA (kl (s.2))), 1000000000000⟩) (fun s => s.1 ≤ (r.b - r.a).toNat ∧ Acc full s.2 ((eRun y r).drop s.1 ++ T1)) (fun s => (r.b - r.a).toNat - s.1) (0, A) ?_ ⟨Nat.zero_le _, by simpa using hacc⟩ ?_
          · simp only [Int.natCast_zero, Int.add_zero]
            refine weak_map (A := kl (A)) [(0, some 0), (1, some 1), (2, some 2), (3, some 1000000000003)] (idsN (kl (A)).length) [(0, some ⟨24, 1, [[.d (encRows R)]]⟩), (2, some ⟨65, 2, [[.d (.int .i64 y), .d (encRuns rs)]]⟩), (3, some ⟨85, 2, [[.d (.int .i64 r.a), .d (.int .i64 r.b)]]⟩)] 1 1 rfl rfl rfl (by have := gk.2.1; omega) (idsN_length _) rfl ?_ rfl ?_ ?_ ?_ ?_ (idsN_nodup _) ?_ ?_
            · simp [upT, up, upL, push_cast, find_app, find_dynN]
            · simp [push_cast, find_dyn]
            · simp [upH, upR, upL, up, push_cast, find_app, find_dyn, find_dynN]
            · simp [namesOk, push_cast]
            · simp [olds]
            · intro x hx; have h1 := idsN_mem.1 hx; have := gk.2.1; simp [olds]; omega
            · intro q x p hx hp1; obtain ⟨hq, rfl⟩ := idsN_get' hx; have := gk.2.1
              have hz := fun (e m : Nat) => SA_find (e := e) (m := m) hp1
              simp [push_cast, find_dyn0, hz]
              repeat rw [if_neg (by omega)]
              try rfl
          · rintro ⟨j, A⟩ ⟨hj, hacc⟩
            simp only at hj hacc
            have gj := hacc.good hbig
            refine Nav.imp ?_
            refine awp_region cx [] fun K hK => ?_
            simp [push_cast]
            repeat (refine And.intro (by clear hK; intros; first | omega | (simp_all; done) | (simp_all <;> omega)) ?_)
            refine hK _ ?_; clear hK K; refine Nav.imp ?_
            refine awp_cond (b := decide (r.a + (j : Int) < r.b)) (by simp [push_cast]) (fun hb => ?_) (fun hb => ?_) <;> (refine Nav.imp ?_)
            · have hjl : j < (r.b - r.a).toNat := by simp at hb; omega
              rw [eRun_drop y r hjl, List.cons_append] at hacc
              have hacc2 := hacc.next
              have gjn := (hacc2.good hbig).2.1
              have e1 := wrap_i64 (n := r.a + (j : Int) + 1) (by omega) (by omega)

              refine awp_region_map cx [] [_, _, _, _, _] _ rfl rfl rfl rfl ⟨106, [(48, .hm 1), (52, .d (.agg (⟨⟨r.a + (j : Int), y⟩, .e⟩ : Crk).p.row)), (1, .ptr 0 0 0), (3, .hm 1), (18, .d (encRows R)), (19, .d (.int .i64 R.length)), (20, .d (.int .i64 i)), (5, .ptr 2 0 0), (7, .d (encRuns U)), (34, .d (encRuns L1)), (35, .d (.int .i64 L1.length)), (36, .d (.int .i64 k)), (9, .ptr 3 0 0), (10, .d (.int .i64 (r.a + j)))], (1, some ⟨118, mapM, mrows (idsN (kl (A)).length) (kl (A))⟩) :: [(0, some ⟨24, 1, [[.d (encRows R)]]⟩), (2, some ⟨65, 2, [[.d (.int .i64 y), .d (encRuns rs)]]⟩), (3, some ⟨85, 2, [[.d (.int .i64 r.a), .d (.int .i64 r.b)]]⟩)] ++ dyn 178 1 0 (SA (kl (A))), 1000000000000⟩ 138 [] rfl [.hm 0, .d (.agg (⟨⟨r.a + (j : Int), y⟩, .e⟩ : Crk).p.row), .d (.int .i64 0)] (kl (A)) (kl (addA (A) (⟨⟨r.a + (j : Int), y⟩, .e⟩ : Crk))) 1 rfl (by decide) (objs_dyn rfl) (Nat.le_refl _) (add_px (A) (⟨⟨r.a + (j : Int), y⟩, .e⟩ : Crk) gj.1 gj.2.2) (by have := gj.2.1; omega) (by have := gjn; omega) (by simp [rnsOk, rn, push_cast]) (Nat.le_of_ble_eq_true rfl) [(0, some 0), (1, some 1), (2, some 2), (3, some 3)] [(1, .ptr 0 0 0), (3, .hm 1), (18, .d (encRows R)), (19, .d (.int .i64 R.length)), (20, .d (.int .i64 i)), (5, .ptr 2 0 0), (7, .d (encRuns U)), (34, .d (encRuns L1)), (35, .d (.int .i64 L1.length)), (36, .d (.int .i64 k)), (9, .ptr 3 0 0), (10, .d (.int .i64 (r.a + j)))] [(0, some ⟨24, 1, [[.d (encRows R)]]⟩), (2, some ⟨65, 2, [[.d (.int .i64 y), .d (encRuns rs)]]⟩), (3, some ⟨85, 2, [[.d (.int .i64 r.a), .d (.int .i64 r.b)]]⟩)] rfl rfl rfl rfl (by intro k hk h; simp only [find] at h; (repeat' split at h) <;> simp_all) rfl ?_ ?_ ?_ ?_ ?_ ?_
              · simp [upT, up, upL, push_cast, find_app, find_dynN]
              · simp [upH, upR, upL, up, push_cast, find_app, find_dyn, find_dynN]
              · simp [namesOk, push_cast]
              · simp [olds]
              · intro K hK
                simp [push_cast]
                refine hK _ ?_
                refine weak_map (A := kl (A)) [(0, some 0), (1, some 1), (2, some 2), (3, some 3)] (idsN (kl (A)).length) [(0, some ⟨24, 1, [[.d (encRows R)]]⟩), (2, some ⟨65, 2, [[.d (.int .i64 y), .d (encRuns rs)]]⟩), (3, some ⟨85, 2, [[.d (.int .i64 r.a), .d (.int .i64 r.b)]]⟩)] 1 1 rfl rfl rfl (by have := gj.2.1; omega) (idsN_length _) rfl ?_ rfl ?_ ?_ ?_ ?_ (idsN_nodup _) ?_ ?_
                · simp [upT, up, upL, push_cast, find_app, find_dynN]
                · simp [push_cast, find_dyn]
                · simp [upH, upR, upL, up, push_cast, find_app, find_dyn, find_dynN]
                · simp [namesOk, push_cast]
                · simp [olds]
                · intro x hx; have h1 := idsN_mem.1 hx; have := gj.2.1; simp [olds]; omega
                · intro q x p hx hp1; obtain ⟨hq, rfl⟩ := idsN_get' hx; have := gj.2.1
                  have hz := fun (e m : Nat) => SA_find (e := e) (m := m) hp1
                  simp [push_cast, find_dyn0, hz]
                  repeat rw [if_neg (by omega)]
                  try rfl
              · refine Nav.imp ?_
                refine awp_region cx [] fun K hK => ?_
                simp [push_cast, e1]
                repeat (refine And.intro (by clear hK; intros; first | omega | (simp_all; done) | (simp_all <;> omega)) ?_)
                refine hK _ ?_; clear hK K; refine Nav.imp ?_
                refine ⟨(j + 1, addA A (⟨⟨r.a + (j : Int), y⟩, .e⟩ : Crk)), ⟨hjl, hacc2⟩, by simp only; omega, ?_⟩
                have e2 : r.a + ((j + 1 : Nat) : Int) = r.a + (j : Int) + 1 := by omega
                simp only [e2]
                refine weak_map (A := kl (addA A (⟨⟨r.a + (j : Int), y⟩, .e⟩ : Crk))) [(0, some 0), (1, some 1), (2, some 2), (3, some 3)] (idsN (kl (addA A (⟨⟨r.a + (j : Int), y⟩, .e⟩ : Crk))).length) [(0, some ⟨24, 1, [[.d (encRows R)]]⟩), (2, some ⟨65, 2, [[.d (.int .i64 y), .d (encRuns rs)]]⟩), (3, some ⟨85, 2, [[.d (.int .i64 r.a), .d (.int .i64 r.b)]]⟩)] 1 1 rfl rfl rfl (by have := gjn; omega) (idsN_length _) rfl ?_ rfl ?_ ?_ ?_ ?_ (idsN_nodup _) ?_ ?_
                · simp [upT, up, upL, push_cast, find_app, find_dynN]
                · simp [push_cast, find_dyn]
                · simp [upH, upR, upL, up, push_cast, find_app, find_dyn, find_dynN]
                · simp [namesOk, push_cast]
                · simp [olds]
                · intro x hx; have h1 := idsN_mem.1 hx; have := gjn; simp [olds]; omega
                · intro q x p hx hp1; obtain ⟨hq, rfl⟩ := idsN_get' hx; have := gjn
                  have hz := fun (e m : Nat) => SA_find (e := e) (m := m) hp1
                  simp [push_cast, find_dyn0, hz]
                  repeat rw [if_neg (by omega)]
                  try rfl
            · have hje : (r.b - r.a).toNat ≤ j := by simp at hb; omega
              rw [eRun_end y r hje, List.nil_append, ← hT1] at hacc
              refine awp_region cx [] fun K hK => ?_
              simp [push_cast, e0]
              repeat (refine And.intro (by clear hK; intros; first | omega | (simp_all; done) | (simp_all <;> omega)) ?_)
              refine hK _ ?_; clear hK K; refine Nav.imp ?_
              refine ⟨(k + 1, A), ⟨hlt, hacc⟩, by simp only; omega, ?_⟩
              refine weak_map (A := kl (A)) [(0, some 0), (1, some 1), (2, some 2)] (idsN (kl (A)).length) [(0, some ⟨24, 1, [[.d (encRows R)]]⟩), (2, some ⟨65, 2, [[.d (.int .i64 y), .d (encRuns rs)]]⟩)] 1 1 rfl rfl rfl (by have := gj.2.1; omega) (idsN_length _) rfl ?_ rfl ?_ ?_ ?_ ?_ (idsN_nodup _) ?_ ?_
              · simp [upT, up, upL, push_cast, find_app, find_dynN]
              · simp [push_cast, find_dyn]
              · simp [upH, upR, upL, up, push_cast, find_app, find_dyn, find_dynN]
              · simp [namesOk, push_cast]
              · simp [olds]
              · intro x hx; have h1 := idsN_mem.1 hx; have := gj.2.1; simp [olds]; omega
              · intro q x p hx hp1; obtain ⟨hq, rfl⟩ := idsN_get' hx; have := gj.2.1
                have hz := fun (e m : Nat) => SA_find (e := e) (m := m) hp1
                simp [push_cast, find_dyn0, hz]
                repeat rw [if_neg (by omega)]
                try rfl
        · have hke : k = L1.length := by simp at hb; omega
          subst hke
          rw [List.drop_length, List.flatMap_nil, List.nil_append] at hacc
          rw [← hT] at hacc
          have ga := hacc.good hbig
          have hL := hL2
          clear hT
          generalize hT : rs.flatMap (vRun y) ++ T3 = T at hacc
          refine awp_region cx [(3, .p (encRuns L2))] fun K hK => ?_
          simp [push_cast, c3]
          repeat (refine And.intro (by clear hK; intros; first | omega | (simp_all; done) | (simp_all <;> omega)) ?_)
          refine hK _ ?_; clear hK K; refine Nav.imp ?_
          refine awp_loop (β := Nat × List (Cell × List Hd)) (fun s => ⟨106, [(1, .ptr 0 0 0), (3, .hm 1), (18, .d (encRows R)), (19, .d (.int .i64 R.length)), (20, .d (.int .i64 i)), (5, .ptr 2 0 0), (58, .d (encRuns L2)), (59, .d (.int .i64 L2.length)), (60, .d (.int .i64 s.1))], (1, some ⟨118, mapM, mrows (idsN (kl (s.2)).length) (kl (s.2))⟩) :: [(0, some ⟨24, 1, [[.d (encRows R)]]⟩), (2, some ⟨65, 2, [[.d (.int .i64 y), .d (encRuns rs)]]⟩)] ++ dyn 178 1 0 (SA (kl (s.2))), 1000000000000⟩) (fun s => s.1 ≤ L2.length ∧ Acc full s.2 ((L2.drop s.1).flatMap (wRun y) ++ T)) (fun s => L2.length - s.1) (0, A) ?_ ⟨Nat.zero_le _, by simpa using hacc⟩ ?_
          · refine weak_map (A := kl (A)) [(0, some 0), (1, some 1), (2, some 2)] (idsN (kl (A)).length) [(0, some ⟨24, 1, [[.d (encRows R)]]⟩), (2, some ⟨65, 2, [[.d (.int .i64 y), .d (encRuns rs)]]⟩)] 1 1 rfl rfl rfl (by have := ga.2.1; omega) (idsN_length _) rfl ?_ rfl ?_ ?_ ?_ ?_ (idsN_nodup _) ?_ ?_
            · simp [upT, up, upL, push_cast, find_app, find_dynN]
            · simp [push_cast, find_dyn]
            · simp [upH, upR, upL, up, push_cast, find_app, find_dyn, find_dynN]
            · simp [namesOk, push_cast]
            · simp [olds]
            · intro x hx; have h1 := idsN_mem.1 hx; have := ga.2.1; simp [olds]; omega
            · intro q x p hx hp1; obtain ⟨hq, rfl⟩ := idsN_get' hx; have := ga.2.1
              have hz := fun (e m : Nat) => SA_find (e := e) (m := m) hp1
              simp [push_cast, find_dyn0, hz]
              repeat rw [if_neg (by omega)]
              try rfl
          · rintro ⟨k, A⟩ ⟨hk, hacc⟩
            simp only at hk hacc
            have gk := hacc.good hbig
            refine Nav.imp ?_
            refine awp_region cx [] fun K hK => ?_
            simp [push_cast]
            repeat (refine And.intro (by clear hK; intros; first | omega | (simp_all; done) | (simp_all <;> omega)) ?_)
            refine hK _ ?_; clear hK K; refine Nav.imp ?_
            refine awp_cond (b := decide ((k : Int) < L2.length)) (by simp [push_cast]) (fun hb => ?_) (fun hb => ?_) <;> (refine Nav.imp ?_)
            · have hlt : k < L2.length := by simpa using hb
              obtain ⟨r, hr⟩ := getq hlt
              have hrb := hL r (List.mem_of_getElem? hr)
              have e0 := wrap_i64 (n := (k : Int) + 1) (by omega) (by omega)
              rw [drop_get hr, List.flatMap_cons, List.append_assoc] at hacc
              refine awp_region cx [] fun K hK => ?_
              simp [push_cast, hr]
              repeat (refine And.intro (by clear hK; intros; first | omega | (simp_all; done) | (simp_all <;> omega)) ?_)
              refine hK _ ?_; clear hK K; refine Nav.imp ?_
              refine awp_region cx [] fun K hK => ?_
              simp [push_cast]
              repeat (refine And.intro (by clear hK; intros; first | omega | (simp_all; done) | (simp_all <;> omega)) ?_)
              refine hK _ ?_; clear hK K; refine Nav.imp ?_
              generalize hT1 : (L2.drop (k + 1)).flatMap (wRun y) ++ T = T1 at hacc
              refine awp_loop (β := Nat × List (Cell × List Hd)) (fun s => ⟨106, [(1, .ptr 0 0 0), (3, .hm 1), (18, .d (encRows R)), (19, .d (.int .i64 R.length)), (20, .d (.int .i64 i)), (5, .ptr 2 0 0), (58, .d (encRuns L2)), (59, .d (.int .i64 L2.length)), (60, .d (.int .i64 k)), (12, .ptr 3 0 0), (13, .d (.int .i64 (r.a + s.1)))], (1, some ⟨118, mapM, mrows (idsN (kl (s.2)).length) (kl (s.2))⟩) :: [(0, some ⟨24, 1, [[.d (encRows R)]]⟩), (2, some ⟨65, 2, [[.d (.int .i64 y), .d (encRuns rs)]]⟩), (3, some ⟨85, 2, [[.d (.int .i64 r.a), .d (.int .i64 r.b)]]⟩)] ++ dyn 178 1 0 (SA (kl (s.2))), 1000000000000⟩) (fun s => s.1 ≤ (r.b - r.a).toNat ∧ Acc full s.2 ((wRun y r).drop s.1 ++ T1)) (fun s => (r.b - r.a).toNat - s.1) (0, A) ?_ ⟨Nat.zero_le _, by simpa using hacc⟩ ?_
              · simp only [Int.natCast_zero, Int.add_zero]
                refine weak_map (A := kl (A)) [(0, some 0), (1, some 1), (2, some 2), (3, some 1000000000003)] (idsN (kl (A)).length) [(0, some ⟨24, 1, [[.d (encRows R)]]⟩), (2, some ⟨65, 2, [[.d (.int .i64 y), .d (encRuns rs)]]⟩), (3, some ⟨85, 2, [[.d (.int .i64 r.a), .d (.int .i64 r.b)]]⟩)] 1 1 rfl rfl rfl (by have := gk.2.1; omega) (idsN_length _) rfl ?_ rfl ?_ ?_ ?_ ?_ (idsN_nodup _) ?_ ?_
                · simp [upT, up, upL, push_cast, find_app, find_dynN]
                · simp [push_cast, find_dyn]
                · simp [upH, upR, upL, up, push_cast, find_app, find_dyn, find_dynN]
                · simp [namesOk, push_cast]
                · simp [olds]
                · intro x hx; have h1 := idsN_mem.1 hx; have := gk.2.1; simp [olds]; omega
                · intro q x p hx hp1; obtain ⟨hq, rfl⟩ := idsN_get' hx; have := gk.2.1
                  have hz := fun (e m : Nat) => SA_find (e := e) (m := m) hp1
                  simp [push_cast, find_dyn0, hz]
                  repeat rw [if_neg (by omega)]
                  try rfl
              · rintro ⟨j, A⟩ ⟨hj, hacc⟩
                simp only at hj hacc
                have gj := hacc.good hbig
                refine Nav.imp ?_
                refine awp_region cx [] fun K hK => ?_
                simp [push_cast]
                repeat (refine And.intro (by clear hK; intros; first | omega | (simp_all; done) | (simp_all <;> omega)) ?_)
                refine hK _ ?_; clear hK K; refine Nav.imp ?_
                refine awp_cond (b := decide (r.a + (j : Int) < r.b)) (by simp [push_cast]) (fun hb => ?_) (fun hb => ?_) <;> (refine Nav.imp ?_)
                · have hjl : j < (r.b - r.a).toNat := by simp at hb; omega
                  rw [wRun_drop y r hjl, List.cons_append] at hacc
                  have hacc2 := hacc.next
                  have gjn := (hacc2.good hbig).2.1
                  have e1 := wrap_i64 (n := r.a + (j : Int) + 1) (by omega) (by omega)
                  have e3 := wrap_i64 (n := y + 1) (by omega) (by omega)
                  refine awp_region_map cx [] [_, _, _, _, _, _, _] _ rfl rfl rfl rfl ⟨106, [(72, .hm 1), (78, .d (.agg (⟨⟨r.a + (j : Int) + 1, y + 1⟩, .w⟩ : Crk).p.row)), (1, .ptr 0 0 0), (3, .hm 1), (18, .d (encRows R)), (19, .d (.int .i64 R.length)), (20, .d (.int .i64 i)), (5, .ptr 2 0 0), (58, .d (encRuns L2)), (59, .d (.int .i64 L2.length)), (60, .d (.int .i64 k)), (12, .ptr 3 0 0), (13, .d (.int .i64 (r.a + j)))], (1, some ⟨118, mapM, mrows (idsN (kl (A)).length) (kl (A))⟩) :: [(0, some ⟨24, 1, [[.d (encRows R)]]⟩), (2, some ⟨65, 2, [[.d (.int .i64 y), .d (encRuns rs)]]⟩), (3, some ⟨85, 2, [[.d (.int .i64 r.a), .d (.int .i64 r.b)]]⟩)] ++ dyn 178 1 0 (SA (kl (A))), 1000000000000⟩ 138 [] rfl [.hm 0, .d (.agg (⟨⟨r.a + (j : Int) + 1, y + 1⟩, .w⟩ : Crk).p.row), .d (.int .i64 2)] (kl (A)) (kl (addA (A) (⟨⟨r.a + (j : Int) + 1, y + 1⟩, .w⟩ : Crk))) 1 rfl (by decide) (objs_dyn rfl) (Nat.le_refl _) (add_px (A) (⟨⟨r.a + (j : Int) + 1, y + 1⟩, .w⟩ : Crk) gj.1 gj.2.2) (by have := gj.2.1; omega) (by have := gjn; omega) (by simp [rnsOk, rn, push_cast]) (Nat.le_of_ble_eq_true rfl) [(0, some 0), (1, some 1), (2, some 2), (3, some 3)] [(1, .ptr 0 0 0), (3, .hm 1), (18, .d (encRows R)), (19, .d (.int .i64 R.length)), (20, .d (.int .i64 i)), (5, .ptr 2 0 0), (58, .d (encRuns L2)), (59, .d (.int .i64 L2.length)), (60, .d (.int .i64 k)), (12, .ptr 3 0 0), (13, .d (.int .i64 (r.a + j)))] [(0, some ⟨24, 1, [[.d (encRows R)]]⟩), (2, some ⟨65, 2, [[.d (.int .i64 y), .d (encRuns rs)]]⟩), (3, some ⟨85, 2, [[.d (.int .i64 r.a), .d (.int .i64 r.b)]]⟩)] rfl rfl rfl rfl (by intro k hk h; simp only [find] at h; (repeat' split at h) <;> simp_all) rfl ?_ ?_ ?_ ?_ ?_ ?_
                  · simp [upT, up, upL, push_cast, find_app, find_dynN]
                  · simp [upH, upR, upL, up, push_cast, find_app, find_dyn, find_dynN]
                  · simp [namesOk, push_cast]
                  · simp [olds]
                  · intro K hK
                    simp [push_cast, e1, e3]
                    refine hK _ ?_
                    refine weak_map (A := kl (A)) [(0, some 0), (1, some 1), (2, some 2), (3, some 3)] (idsN (kl (A)).length) [(0, some ⟨24, 1, [[.d (encRows R)]]⟩), (2, some ⟨65, 2, [[.d (.int .i64 y), .d (encRuns rs)]]⟩), (3, some ⟨85, 2, [[.d (.int .i64 r.a), .d (.int .i64 r.b)]]⟩)] 1 1 rfl rfl rfl (by have := gj.2.1; omega) (idsN_length _) rfl ?_ rfl ?_ ?_ ?_ ?_ (idsN_nodup _) ?_ ?_
                    · simp [upT, up, upL, push_cast, find_app, find_dynN]
                    · simp [push_cast, find_dyn]
                    · simp [upH, upR, upL, up, push_cast, find_app, find_dyn, find_dynN]
                    · simp [namesOk, push_cast]
                    · simp [olds]
                    · intro x hx; have h1 := idsN_mem.1 hx; have := gj.2.1; simp [olds]; omega
                    · intro q x p hx hp1; obtain ⟨hq, rfl⟩ := idsN_get' hx; have := gj.2.1
                      have hz := fun (e m : Nat) => SA_find (e := e) (m := m) hp1
                      simp [push_cast, find_dyn0, hz]
                      repeat rw [if_neg (by omega)]
                      try rfl
                  · refine Nav.imp ?_
                    refine awp_region cx [] fun K hK => ?_
                    simp [push_cast, e1]
                    repeat (refine And.intro (by clear hK; intros; first | omega | (simp_all; done) | (simp_all <;> omega)) ?_)
                    refine hK _ ?_; clear hK K; refine Nav.imp ?_
                    refine ⟨(j + 1, addA A (⟨⟨r.a + (j : Int) + 1, y + 1⟩, .w⟩ : Crk)), ⟨hjl, hacc2⟩, by simp only; omega, ?_⟩
                    have e2 : r.a + ((j + 1 : Nat) : Int) = r.a + (j : Int) + 1 := by omega
                    simp only [e2]
                    refine weak_map (A := kl (addA A (⟨⟨r.a + (j : Int) + 1, y + 1⟩, .w⟩ : Crk))) [(0, some 0), (1, some 1), (2, some 2), (3, some 3)] (idsN (kl (addA A (⟨⟨r.a + (j : Int) + 1, y + 1⟩, .w⟩ : Crk))).length) [(0, some ⟨24, 1, [[.d (encRows R)]]⟩), (2, some ⟨65, 2, [[.d (.int .i64 y), .d (encRuns rs)]]⟩), (3, some ⟨85, 2, [[.d (.int .i64 r.a), .d (.int .i64 r.b)]]⟩)] 1 1 rfl rfl rfl (by have := gjn; omega) (idsN_length _) rfl ?_ rfl ?_ ?_ ?_ ?_ (idsN_nodup _) ?_ ?_
                    · simp [upT, up, upL, push_cast, find_app, find_dynN]
                    · simp [push_cast, find_dyn]
                    · simp [upH, upR, upL, up, push_cast, find_app, find_dyn, find_dynN]
                    · simp [namesOk, push_cast]
                    · simp [olds]
                    · intro x hx; have h1 := idsN_mem.1 hx; have := gjn; simp [olds]; omega
                    · intro q x p hx hp1; obtain ⟨hq, rfl⟩ := idsN_get' hx; have := gjn
                      have hz := fun (e m : Nat) => SA_find (e := e) (m := m) hp1
                      simp [push_cast, find_dyn0, hz]
                      repeat rw [if_neg (by omega)]
                      try rfl
                · have hje : (r.b - r.a).toNat ≤ j := by simp at hb; omega
                  rw [wRun_end y r hje, List.nil_append, ← hT1] at hacc
                  refine awp_region cx [] fun K hK => ?_
                  simp [push_cast, e0]
                  repeat (refine And.intro (by clear hK; intros; first | omega | (simp_all; done) | (simp_all <;> omega)) ?_)
                  refine hK _ ?_; clear hK K; refine Nav.imp ?_
                  refine ⟨(k + 1, A), ⟨hlt, hacc⟩, by simp only; omega, ?_⟩
                  refine weak_map (A := kl (A)) [(0, some 0), (1, some 1), (2, some 2)] (idsN (kl (A)).length) [(0, some ⟨24, 1, [[.d (encRows R)]]⟩), (2, some ⟨65, 2, [[.d (.int .i64 y), .d (encRuns rs)]]⟩)] 1 1 rfl rfl rfl (by have := gj.2.1; omega) (idsN_length _) rfl ?_ rfl ?_ ?_ ?_ ?_ (idsN_nodup _) ?_ ?_
                  · simp [upT, up, upL, push_cast, find_app, find_dynN]
                  · simp [push_cast, find_dyn]
                  · simp [upH, upR, upL, up, push_cast, find_app, find_dyn, find_dynN]
                  · simp [namesOk, push_cast]
                  · simp [olds]
                  · intro x hx; have h1 := idsN_mem.1 hx; have := gj.2.1; simp [olds]; omega
                  · intro q x p hx hp1; obtain ⟨hq, rfl⟩ := idsN_get' hx; have := gj.2.1
                    have hz := fun (e m : Nat) => SA_find (e := e) (m := m) hp1
                    simp [push_cast, find_dyn0, hz]
                    repeat rw [if_neg (by omega)]
                    try rfl
            · have hke : k = L2.length := by simp at hb; omega
              subst hke
              rw [List.drop_length, List.flatMap_nil, List.nil_append] at hacc
              rw [← hT] at hacc
              have ga := hacc.good hbig
              clear hT
              obtain ⟨T, hT⟩ : ∃ T, T = T3 := ⟨_, rfl⟩
              rw [← hT] at hacc
              refine awp_region cx [] fun K hK => ?_
              simp [push_cast]
              repeat (refine And.intro (by clear hK; intros; first | omega | (simp_all; done) | (simp_all <;> omega)) ?_)
              refine hK _ ?_; clear hK K; refine Nav.imp ?_
              refine awp_loop (β := Nat × List (Cell × List Hd)) (fun s => ⟨106, [(1, .ptr 0 0 0), (3, .hm 1), (18, .d (encRows R)), (19, .d (.int .i64 R.length)), (20, .d (.int .i64 i)), (5, .ptr 2 0 0), (82, .d (encRuns rs)), (83, .d (.int .i64 rs.length)), (84, .d (.int .i64 s.1))], (1, some ⟨118, mapM, mrows (idsN (kl (s.2)).length) (kl (s.2))⟩) :: [(0, some ⟨24, 1, [[.d (encRows R)]]⟩), (2, some ⟨65, 2, [[.d (.int .i64 y), .d (encRuns rs)]]⟩)] ++ dyn 178 1 0 (SA (kl (s.2))), 1000000000000⟩) (fun s => s.1 ≤ rs.length ∧ Acc full s.2 ((rs.drop s.1).flatMap (vRun y) ++ T)) (fun s => rs.length - s.1) (0, A) ?_ ⟨Nat.zero_le _, by simpa using hacc⟩ ?_
              · refine weak_map (A := kl (A)) [(0, some 0), (1, some 1), (2, some 2)] (idsN (kl (A)).length) [(0, some ⟨24, 1, [[.d (encRows R)]]⟩), (2, some ⟨65, 2, [[.d (.int .i64 y), .d (encRuns rs)]]⟩)] 1 1 rfl rfl rfl (by have := ga.2.1; omega) (idsN_length _) rfl ?_ rfl ?_ ?_ ?_ ?_ (idsN_nodup _) ?_ ?_
                · simp [upT, up, upL, push_cast, find_app, find_dynN]
                · simp [push_cast, find_dyn]
                · simp [upH, upR, upL, up, push_cast, find_app, find_dyn, find_dynN]
                · simp [namesOk, push_cast]
                · simp [olds]
                · intro x hx; have h1 := idsN_mem.1 hx; have := ga.2.1; simp [olds]; omega
                · intro q x p hx hp1; obtain ⟨hq, rfl⟩ := idsN_get' hx; have := ga.2.1
                  have hz := fun (e m : Nat) => SA_find (e := e) (m := m) hp1
                  simp [push_cast, find_dyn0, hz]
                  repeat rw [if_neg (by omega)]
                  try rfl
              · rintro ⟨k, A⟩ ⟨hk, hacc⟩
                simp only at hk hacc
                have gk := hacc.good hbig
                refine Nav.imp ?_
                refine awp_region cx [] fun K hK => ?_
                simp [push_cast]
                repeat (refine And.intro (by clear hK; intros; first | omega | (simp_all; done) | (simp_all <;> omega)) ?_)
                refine hK _ ?_; clear hK K; refine Nav.imp ?_
                refine awp_cond (b := decide ((k : Int) < rs.length)) (by simp [push_cast]) (fun hb => ?_) (fun hb => ?_) <;> (refine Nav.imp ?_)
                · have hlt : k < rs.length := by simpa using hb
                  obtain ⟨r, hr⟩ := getq hlt
                  have hrb := hrs r (List.mem_of_getElem? hr)
                  have e0 := wrap_i64 (n := (k : Int) + 1) (by omega) (by omega)
                  have e3 := wrap_i64 (n := y + 1) (by omega) (by omega)
                  rw [drop_get hr, List.flatMap_cons, List.append_assoc] at hacc
                  have hacc2 : Acc full (addA A (⟨⟨r.b, y⟩, .n⟩ : Crk)) ((⟨⟨r.a, y + 1⟩, .s⟩ : Crk) :: ((rs.drop (k + 1)).flatMap (vRun y) ++ T)) := hacc.next
                  have g2 := hacc2.good hbig
                  have gkn := g2.2.1
                  have hacc3 := hacc2.next
                  have g2n := (hacc3.good hbig).2.1
                  refine awp_region cx [] fun K hK => ?_
                  simp [push_cast, hr]
                  repeat (refine And.intro (by clear hK; intros; first | omega | (simp_all; done) | (simp_all <;> omega)) ?_)
                  refine hK _ ?_; clear hK K; refine Nav.imp ?_
                  refine awp_weak (s' := ⟨106, [(1, .ptr 0 0 0), (3, .hm 1), (18, .d (encRows R)), (19, .d (.int .i64 R.length)), (20, .d (.int .i64 i)), (5, .ptr 2 0 0), (82, .d (encRuns rs)), (83, .d (.int .i64 rs.length)), (84, .d (.int .i64 k)), (15, .ptr 3 0 0)], (1, some ⟨118, mapM, mrows (idsN (kl (A)).length) (kl (A))⟩) :: [(0, some ⟨24, 1, [[.d (encRows R)]]⟩), (2, some ⟨65, 2, [[.d (.int .i64 y), .d (encRuns rs)]]⟩), (3, some ⟨85, 2, [[.d (.int .i64 r.a), .d (.int .i64 r.b)]]⟩)] ++ dyn 178 1 0 (SA (kl (A))), 1000000000000⟩) ?_ ?_
                  · refine weak_map (A := kl (A)) [(0, some 0), (1, some 1), (2, some 2), (3, some 1000000000003)] (idsN (kl (A)).length) [(0, some ⟨24, 1, [[.d (encRows R)]]⟩), (2, some ⟨65, 2, [[.d (.int .i64 y), .d (encRuns rs)]]⟩), (3, some ⟨85, 2, [[.d (.int .i64 r.a), .d (.int .i64 r.b)]]⟩)] 1 1 rfl rfl rfl (by have := gk.2.1; omega) (idsN_length _) rfl ?_ rfl ?_ ?_ ?_ ?_ (idsN_nodup _) ?_ ?_
                    · simp [upT, up, upL, push_cast, find_app, find_dynN]
                    · simp [push_cast, find_dyn]
                    · simp [upH, upR, upL, up, push_cast, find_app, find_dyn, find_dynN]
                    · simp [namesOk, push_cast]
                    · simp [olds]
                    · intro x hx; have h1 := idsN_mem.1 hx; have := gk.2.1; simp [olds]; omega
                    · intro q x p hx hp1; obtain ⟨hq, rfl⟩ := idsN_get' hx; have := gk.2.1
                      have hz := fun (e m : Nat) => SA_find (e := e) (m := m) hp1
                      simp [push_cast, find_dyn0, hz]
                      repeat rw [if_neg (by omega)]
                      try rfl
                  · refine awp_region_map cx [] [_, _, _, _, _, _] _ rfl rfl rfl rfl ⟨106, [(88, .hm 1), (93, .d (.agg (⟨⟨r.b, y⟩, .n⟩ : Crk).p.row)), (1, .ptr 0 0 0), (3, .hm 1), (18, .d (encRows R)), (19, .d (.int .i64 R.length)), (20, .d (.int .i64 i)), (5, .ptr 2 0 0), (82, .d (encRuns rs)), (83, .d (.int .i64 rs.length)), (84, .d (.int .i64 k)), (15, .ptr 3 0 0)], (1, some ⟨118, mapM, mrows (idsN (kl (A)).length) (kl (A))⟩) :: [(0, some ⟨24, 1, [[.d (encRows R)]]⟩), (2, some ⟨65, 2, [[.d (.int .i64 y), .d (encRuns rs)]]⟩), (3, some ⟨85, 2, [[.d (.int .i64 r.a), .d (.int .i64 r.b)]]⟩)] ++ dyn 178 1 0 (SA (kl (A))), 1000000000000⟩ 138 [] rfl [.hm 0, .d (.agg (⟨⟨r.b, y⟩, .n⟩ : Crk).p.row), .d (.int .i64 1)] (kl (A)) (kl (addA (A) (⟨⟨r.b, y⟩, .n⟩ : Crk))) 1 rfl (by decide) (objs_dyn rfl) (Nat.le_refl _) (add_px (A) (⟨⟨r.b, y⟩, .n⟩ : Crk) gk.1 gk.2.2) (by have := gk.2.1; omega) (by have := gkn; omega) (by simp [rnsOk, rn, push_cast]) (Nat.le_of_ble_eq_true rfl) [(0, some 0), (1, some 1), (2, some 2), (3, some 3)] [(1, .ptr 0 0 0), (3, .hm 1), (18, .d (encRows R)), (19, .d (.int .i64 R.length)), (20, .d (.int .i64 i)), (5, .ptr 2 0 0), (82, .d (encRuns rs)), (83, .d (.int .i64 rs.length)), (84, .d (.int .i64 k)), (15, .ptr 3 0 0)] [(0, some ⟨24, 1, [[.d (encRows R)]]⟩), (2, some ⟨65, 2, [[.d (.int .i64 y), .d (encRuns rs)]]⟩), (3, some ⟨85, 2, [[.d (.int .i64 r.a), .d (.int .i64 r.b)]]⟩)] rfl rfl rfl rfl (by intro k hk h; simp only [find] at h; (repeat' split at h) <;> simp_all) rfl ?_ ?_ ?_ ?_ ?_ ?_
                    · simp [upT, up, upL, push_cast, find_app, find_dynN]
                    · simp [upH, upR, upL, up, push_cast, find_app, find_dyn, find_dynN]
                    · simp [namesOk, push_cast]
                    · simp [olds]
                    · intro K hK
                      simp [push_cast]
                      refine hK _ ?_
                      refine weak_map (A := kl (A)) [(0, some 0), (1, some 1), (2, some 2), (3, some 3)] (idsN (kl (A)).length) [(0, some ⟨24, 1, [[.d (encRows R)]]⟩), (2, some ⟨65, 2, [[.d (.int .i64 y), .d (encRuns rs)]]⟩), (3, some ⟨85, 2, [[.d (.int .i64 r.a), .d (.int .i64 r.b)]]⟩)] 1 1 rfl rfl rfl (by have := gk.2.1; omega) (idsN_length _) rfl ?_ rfl ?_ ?_ ?_ ?_ (idsN_nodup _) ?_ ?_
                      · simp [upT, up, upL, push_cast, find_app, find_dynN]
                      · simp [push_cast, find_dyn]
                      · simp [upH, upR, upL, up, push_cast, find_app, find_dyn, find_dynN]
                      · simp [namesOk, push_cast]
                      · simp [olds]
                      · intro x hx; have h1 := idsN_mem.1 hx; have := gk.2.1; simp [olds]; omega
                      · intro q x p hx hp1; obtain ⟨hq, rfl⟩ := idsN_get' hx; have := gk.2.1
                        have hz := fun (e m : Nat) => SA_find (e := e) (m := m) hp1
                        simp [push_cast, find_dyn0, hz]
                        repeat rw [if_neg (by omega)]
                        try rfl
                    · refine Nav.imp ?_
                      refine awp_region_map cx [] [_, _, _, _, _, _, _] _ rfl rfl rfl rfl ⟨106, [(95, .hm 1), (101, .d (.agg (⟨⟨r.a, y + 1⟩, .s⟩ : Crk).p.row)), (1, .ptr 0 0 0), (3, .hm 1), (18, .d (encRows R)), (19, .d (.int .i64 R.length)), (20, .d (.int .i64 i)), (5, .ptr 2 0 0), (82, .d (encRuns rs)), (83, .d (.int .i64 rs.length)), (84, .d (.int .i64 k)), (15, .ptr 3 0 0)], (1, some ⟨118, mapM, mrows (idsN (kl ((addA A (⟨⟨r.b, y⟩, .n⟩ : Crk)))).length) (kl ((addA A (⟨⟨r.b, y⟩, .n⟩ : Crk))))⟩) :: [(0, some ⟨24, 1, [[.d (encRows R)]]⟩), (2, some ⟨65, 2, [[.d (.int .i64 y), .d (encRuns rs)]]⟩), (3, some ⟨85, 2, [[.d (.int .i64 r.a), .d (.int .i64 r.b)]]⟩)] ++ dyn 178 1 0 (SA (kl ((addA A (⟨⟨r.b, y⟩, .n⟩ : Crk))))), 1000000000000⟩ 138 [] rfl [.hm 0, .d (.agg (⟨⟨r.a, y + 1⟩, .s⟩ : Crk).p.row), .d (.int .i64 3)] (kl ((addA A (⟨⟨r.b, y⟩, .n⟩ : Crk)))) (kl (addA ((addA A (⟨⟨r.b, y⟩, .n⟩ : Crk))) (⟨⟨r.a, y + 1⟩, .s⟩ : Crk))) 1 rfl (by decide) (objs_dyn rfl) (Nat.le_refl _) (add_px ((addA A (⟨⟨r.b, y⟩, .n⟩ : Crk))) (⟨⟨r.a, y + 1⟩, .s⟩ : Crk) g2.1 g2.2.2) (by have := g2.2.1; omega) (by have := g2n; omega) (by simp [rnsOk, rn, push_cast]) (Nat.le_of_ble_eq_true rfl) [(0, some 0), (1, some 1), (2, some 2), (3, some 3)] [(1, .ptr 0 0 0), (3, .hm 1), (18, .d (encRows R)), (19, .d (.int .i64 R.length)), (20, .d (.int .i64 i)), (5, .ptr 2 0 0), (82, .d (encRuns rs)), (83, .d (.int .i64 rs.length)), (84, .d (.int .i64 k)), (15, .ptr 3 0 0)] [(0, some ⟨24, 1, [[.d (encRows R)]]⟩), (2, some ⟨65, 2, [[.d (.int .i64 y), .d (encRuns rs)]]⟩), (3, some ⟨85, 2, [[.d (.int .i64 r.a), .d (.int .i64 r.b)]]⟩)] rfl rfl rfl rfl (by intro k hk h; simp only [find] at h; (repeat' split at h) <;> simp_all) rfl ?_ ?_ ?_ ?_ ?_ ?_
                      · simp [upT, up, upL, push_cast, find_app, find_dynN]
                      · simp [upH, upR, upL, up, push_cast, find_app, find_dyn, find_dynN]
                      · simp [namesOk, push_cast]
                      · simp [olds]
                      · intro K hK
                        simp [push_cast, e3]
                        refine hK _ ?_
                        refine weak_map (A := kl ((addA A (⟨⟨r.b, y⟩, .n⟩ : Crk)))) [(0, some 0), (1, some 1), (2, some 2), (3, some 3)] (idsN (kl ((addA A (⟨⟨r.b, y⟩, .n⟩ : Crk)))).length) [(0, some ⟨24, 1, [[.d (encRows R)]]⟩), (2, some ⟨65, 2, [[.d (.int .i64 y), .d (encRuns rs)]]⟩), (3, some ⟨85, 2, [[.d (.int .i64 r.a), .d (.int .i64 r.b)]]⟩)] 1 1 rfl rfl rfl (by have := g2.2.1; omega) (idsN_length _) rfl ?_ rfl ?_ ?_ ?_ ?_ (idsN_nodup _) ?_ ?_
                        · simp [upT, up, upL, push_cast, find_app, find_dynN]
                        · simp [push_cast, find_dyn]
                        · simp [upH, upR, upL, up, push_cast, find_app, find_dyn, find_dynN]
                        · simp [namesOk, push_cast]
                        · simp [olds]
                        · intro x hx; have h1 := idsN_mem.1 hx; have := g2.2.1; simp [olds]; omega
                        · intro q x p hx hp1; obtain ⟨hq, rfl⟩ := idsN_get' hx; have := g2.2.1
                          have hz := fun (e m : Nat) => SA_find (e := e) (m := m) hp1
                          simp [push_cast, find_dyn0, hz]
                          repeat rw [if_neg (by omega)]
                          try rfl
                      · refine Nav.imp ?_
                        refine awp_region cx [] fun K hK => ?_
                        simp [push_cast, e0]
                        repeat (refine And.intro (by clear hK; intros; first | omega | (simp_all; done) | (simp_all <;> omega)) ?_)
                        refine hK _ ?_; clear hK K; refine Nav.imp ?_
                        refine ⟨(k + 1, addA (addA A (⟨⟨r.b, y⟩, .n⟩ : Crk)) (⟨⟨r.a, y + 1⟩, .s⟩ : Crk)), ⟨hlt, hacc3⟩, by simp only; omega, ?_⟩
                        refine weak_map (A := kl (addA (addA A (⟨⟨r.b, y⟩, .n⟩ : Crk)) (⟨⟨r.a, y + 1⟩, .s⟩ : Crk))) [(0, some 0), (1, some 1), (2, some 2)] (idsN (kl (addA (addA A (⟨⟨r.b, y⟩, .n⟩ : Crk)) (⟨⟨r.a, y + 1⟩, .s⟩ : Crk))).length) [(0, some ⟨24, 1, [[.d (encRows R)]]⟩), (2, some ⟨65, 2, [[.d (.int .i64 y), .d (encRuns rs)]]⟩)] 1 1 rfl rfl rfl (by have := g2n; omega) (idsN_length _) rfl ?_ rfl ?_ ?_ ?_ ?_ (idsN_nodup _) ?_ ?_
                        · simp [upT, up, upL, push_cast, find_app, find_dynN]
                        · simp [push_cast, find_dyn]
                        · simp [upH, upR, upL, up, push_cast, find_app, find_dyn, find_dynN]
                        · simp [namesOk, push_cast]
                        · simp [olds]
                        · intro x hx; have h1 := idsN_mem.1 hx; have := g2n; simp [olds]; omega
                        · intro q x p hx hp1; obtain ⟨hq, rfl⟩ := idsN_get' hx; have := g2n
                          have hz := fun (e m : Nat) => SA_find (e := e) (m := m) hp1
                          simp [push_cast, find_dyn0, hz]
                          repeat rw [if_neg (by omega)]
                          try rfl
                · have hke : k = rs.length := by simp at hb; omega
                  subst hke
                  rw [List.drop_length, List.flatMap_nil, List.nil_append] at hacc
                  refine awp_region cx [] fun K hK => ?_
                  simp [push_cast, e0]
                  repeat (refine And.intro (by clear hK; intros; first | omega | (simp_all; done) | (simp_all <;> omega)) ?_)
                  refine hK _ ?_; clear hK K; refine Nav.imp ?_
                  refine ⟨(i + 1, A), ⟨hlt, by rw [hT, ← hT3] at hacc; exact hacc⟩, by simp only; omega, ?_⟩
                  refine weak_map (A := kl (A)) [(0, some 0), (1, some 1)] (idsN (kl (A)).length) [(0, some ⟨24, 1, [[.d (encRows R)]]⟩)] 1 1 rfl rfl rfl (by have := gk.2.1; omega) (idsN_length _) rfl ?_ rfl ?_ ?_ ?_ ?_ (idsN_nodup _) ?_ ?_
                  · simp [upT, up, upL, push_cast, find_app, find_dynN]
                  · simp [push_cast, find_dyn]
                  · simp [upH, upR, upL, up, push_cast, find_app, find_dyn, find_dynN]
                  · simp [namesOk, push_cast]
                  · simp [olds]
                  · intro x hx; have h1 := idsN_mem.1 hx; have := gk.2.1; simp [olds]; omega
                  · intro q x p hx hp1; obtain ⟨hq, rfl⟩ := idsN_get' hx; have := gk.2.1
                    have hz := fun (e m : Nat) => SA_find (e := e) (m := m) hp1
                    simp [push_cast, find_dyn0, hz]
                    repeat rw [if_neg (by omega)]
                    try rfl
    · have hie : i = R.length := by simp at hb; omega
      subst hie
      rw [List.drop_length, List.flatMap_nil] at hacc
      obtain ⟨pre, hpre, hfe⟩ := hacc
      rw [List.append_nil] at hfe
      subst hfe
      subst hpre
      generalize hAA : addAll [] full = AA at *
      refine awp_weak (s' := ⟨106, [(3, .hm 1)], (1, some ⟨118, mapM, mrows (idsN (kl (AA)).length) (kl (AA))⟩) :: [] ++ dyn 178 1 0 (SA (kl (AA))), 1000000000000⟩) ?_ ?_
      · refine weak_map (A := kl (AA)) [(1, some 1)] (idsN (kl (AA)).length) [] 1 1 rfl rfl rfl (by have := ga.2.1; omega) (idsN_length _) rfl ?_ rfl ?_ ?_ ?_ ?_ (idsN_nodup _) ?_ ?_
        · simp [upT, up, upL, push_cast, find_app, find_dynN]
        · simp [push_cast, find_dyn]
        · simp [upH, upR, upL, up, push_cast, find_app, find_dyn, find_dynN]
        · simp [namesOk, push_cast]
        · simp [olds]
        · intro x hx; have h1 := idsN_mem.1 hx; have := ga.2.1; simp [olds]; omega
        · intro q x p hx hp1; obtain ⟨hq, rfl⟩ := idsN_get' hx; have := ga.2.1
          have hz := fun (e m : Nat) => SA_find (e := e) (m := m) hp1
          simp [push_cast, find_dyn0, hz]
          repeat rw [if_neg (by omega)]
          try rfl
      · refine awp_weak (weak_fzmap (by decide) rfl (kl AA)) ?_
        rw [mdata_kl]
        refine awp_region cx [] fun K hK => ?_
        simp [push_cast]
        repeat (refine And.intro (by clear hK; intros; first | omega | (simp_all; done) | (simp_all <;> omega)) ?_)
        refine hK _ ?_; clear hK K; refine Nav.imp ?_
        first | refine rx_r [(0, 1)] ?_ | refine rx_n [(0, 1)] ?_
        simp [push_cast]
        try decide
end Go.Proofs.YtdddknniooimmaaGreat

namespace Go.Proofs.YtdddknniooimmaaGreat
open Go.Abs Go.Shelf Go.RowKit Go.Lib Go.Sort

def sortPt_ren : Go.Shelf.Ren := ⟨fun | 6 => 87 | 15 => 133 | 14 => 139 | 28 => 191 | 29 => 192 | 20 => 203 | 21 => 204 | 22 => 205 | 23 => 206 | 24 => 207 | 25 => 208 | 26 => 209 | 27 => 210 | 46 => 242 | 47 => 234 | 48 => 235 | 49 => 243 | 50 => 244 | 57 => 276 | n => n, fun | 22 => 53 | 24 => 58 | 25 => 59 | 3 => 3 | 39 => 174 | 0 => 0 | 53 => 228 | 55 => 230 | 4 => 4 | 46 => 222 | 45 => 221 | 50 => 204 | 5 => 5 | 9 => 9 | 66 => 256 | 70 => 260 | 76 => 284 | 77 => 148 | n => n, fun n => n⟩
theorem sortPt_lays : SlLaysF0.n6 Tryz.prog sortPt_ren where
  mixed := by kernel_rfl
  f6 := ⟨Tryz.f87.name, by kernel_rfl, Tryz.func87.trans (congrArg some (by kernel_rfl))⟩
  f14 := ⟨Tryz.f139.name, by kernel_rfl, Tryz.func139.trans (congrArg some (by kernel_rfl))⟩
  f15 := Tryz.func133.trans (congrArg some (by kernel_rfl))
  f20 := ⟨Tryz.f203.name, by kernel_rfl, Tryz.func203.trans (congrArg some (by kernel_rfl))⟩
  f21 := ⟨Tryz.f204.name, by kernel_rfl, Tryz.func204.trans (congrArg some (by kernel_rfl))⟩
  f22 := ⟨Tryz.f205.name, by kernel_rfl, Tryz.func205.trans (congrArg some (by kernel_rfl))⟩
  f23 := ⟨Tryz.f206.name, by kernel_rfl, Tryz.func206.trans (congrArg some (by kernel_rfl))⟩
  f24 := ⟨Tryz.f207.name, by kernel_rfl, Tryz.func207.trans (congrArg some (by kernel_rfl))⟩
  f25 := ⟨Tryz.f208.name, by kernel_rfl, Tryz.func208.trans (congrArg some (by kernel_rfl))⟩
  f26 := ⟨Tryz.f209.name, by kernel_rfl, Tryz.func209.trans (congrArg some (by kernel_rfl))⟩
  f27 := ⟨Tryz.f210.name, by kernel_rfl, Tryz.func210.trans (congrArg some (by kernel_rfl))⟩
  f28 := Tryz.func191.trans (congrArg some (by kernel_rfl))
  f29 := Tryz.func192.trans (congrArg some (by kernel_rfl))
  f46 := ⟨Tryz.f242.name, by kernel_rfl, Tryz.func242.trans (congrArg some (by kernel_rfl))⟩
  f47 := Tryz.func234.trans (congrArg some (by kernel_rfl))
  f48 := Tryz.func235.trans (congrArg some (by kernel_rfl))
  f49 := ⟨Tryz.f243.name, by kernel_rfl, Tryz.func243.trans (congrArg some (by kernel_rfl))⟩
  f50 := ⟨Tryz.f244.name, by kernel_rfl, Tryz.func244.trans (congrArg some (by kernel_rfl))⟩
  f57 := ⟨Tryz.f276.name, by kernel_rfl, Tryz.func276.trans (congrArg some (by kernel_rfl))⟩
  t0 := Tryz.underlying0
  a0 := Tryz.isAgg0
  z0 := Tryz.sizeOf0
  v0 := Tryz.zeroValue0
  t3 := Tryz.underlying3
  a3 := Tryz.isAgg3
  z3 := Tryz.sizeOf3
  v3 := Tryz.zeroValue3
  t4 := Tryz.underlying4
  a4 := Tryz.isAgg4
  z4 := Tryz.sizeOf4
  v4 := Tryz.zeroValue4
  t5 := Tryz.underlying5
  a5 := Tryz.isAgg5
  z5 := Tryz.sizeOf5
  v5 := Tryz.zeroValue5
  t9 := Tryz.underlying9
  a9 := Tryz.isAgg9
  z9 := Tryz.sizeOf9
  v9 := Tryz.zeroValue9
  t22 := Tryz.underlying53
  a22 := Tryz.isAgg53
  z22 := Tryz.sizeOf53
  v22 := Tryz.zeroValue53
  t25 := Tryz.underlying59
  a25 := Tryz.isAgg59
  z25 := Tryz.sizeOf59
  v25 := Tryz.zeroValue59
  t39 := Tryz.underlying174
  a39 := Tryz.isAgg174
  z39 := Tryz.sizeOf174
  v39 := Tryz.zeroValue174
  t45 := Tryz.underlying221
  a45 := Tryz.isAgg221
  z45 := Tryz.sizeOf221
  v45 := Tryz.zeroValue221
  t46 := Tryz.underlying222
  a46 := Tryz.isAgg222
  z46 := Tryz.sizeOf222
  v46 := Tryz.zeroValue222
  t50 := Tryz.underlying204
  a50 := Tryz.isAgg204
  z50 := Tryz.sizeOf204
  v50 := Tryz.zeroValue204
  t53 := Tryz.underlying228
  a53 := Tryz.isAgg228
  z53 := Tryz.sizeOf228
  v53 := Tryz.zeroValue228
  t55 := Tryz.underlying230
  a55 := Tryz.isAgg230
  z55 := Tryz.sizeOf230
  v55 := Tryz.zeroValue230
  t66 := Tryz.underlying256
  a66 := Tryz.isAgg256
  z66 := Tryz.sizeOf256
  v66 := Tryz.zeroValue256
  t70 := Tryz.underlying260
  a70 := Tryz.isAgg260
  z70 := Tryz.sizeOf260
  v70 := Tryz.zeroValue260
  t76 := Tryz.underlying284
  a76 := Tryz.isAgg284
  z76 := Tryz.sizeOf284
  v76 := Tryz.zeroValue284
  t77 := Tryz.underlying148
  a77 := Tryz.isAgg148
  z77 := Tryz.sizeOf148
  v77 := Tryz.zeroValue148
def cfP : List D → List D → Int
  | [.int _ ax, .int _ ay], [.int _ bx, .int _ by'] => if ay ≠ by' then ay - by' else ax - bx
  | _, _ => 0
def nearC (c : Cell) : Prop := -100000 ≤ c.x ∧ c.x ≤ 100000 ∧ -100000 ≤ c.y ∧ c.y ≤ 100000
def VP (r : List D) : Prop := ∃ c : Cell, r = c.row ∧ nearC c
set_option maxHeartbeats 1000000 in
theorem cmpP_ok : CmpOk Tryz.prog 88 VP cfP := by
  rintro ro w a b va vb hro ⟨⟨ax, ay⟩, rfl, h1⟩ ⟨⟨bx, by'⟩, rfl, h2⟩ ha hb _ _
  simp only [nearC] at h1 h2
  simp only [Cell.row, RepDs, RepD] at ha hb
  obtain ⟨_, _, rfl, rfl, _, _, rfl, rfl, rfl⟩ := ha
  obtain ⟨_, _, rfl, rfl, _, _, rfl, rfl, rfl⟩ := hb
  have w1 : IntKind.i64.wrap (ax - bx) = ax - bx := wrap_i64 (by omega) (by omega)
  have w2 : IntKind.i64.wrap (ay - by') = ay - by' := wrap_i64 (by omega) (by omega)
  go_enter Tryz.func88, Tryz.ntmps88
  go_wp2
  · rename_i h
    go_ret
    refine ⟨?_, 0, _, by rw [alloc_eq_grow, alloc_eq_grow, grow_grow]; rfl⟩
    simp at h
    simp [cfP, h]
  · rename_i h
    go_ret
    refine ⟨?_, 0, _, by rw [alloc_eq_grow, alloc_eq_grow, grow_grow]; rfl⟩
    simp at h
    simp [cfP, h]
theorem cfP_ord : CmpOrd VP cfP where
  irrefl := by rintro _ ⟨⟨ax, ay⟩, rfl, _⟩; simp [cfP, Cell.row]
  trans := by
    rintro _ _ _ ⟨⟨ax, ay⟩, rfl, _⟩ ⟨⟨bx, by'⟩, rfl, _⟩ ⟨⟨dx, dy⟩, rfl, _⟩
    simp only [cfP, Cell.row]
    intro h1 h2
    split at h1 <;> split at h2 <;> split <;> omega
  ntrans := by
    rintro _ _ _ ⟨⟨ax, ay⟩, rfl, _⟩ ⟨⟨bx, by'⟩, rfl, _⟩ ⟨⟨dx, dy⟩, rfl, _⟩
    simp only [cfP, Cell.row]
    intro h1 h2
    split at h1 <;> split at h2 <;> split <;> omega
theorem cfP_cells (a b : Cell) : cfP a.row b.row < 0 ↔ lowC a b := by
  obtain ⟨ax, ay⟩ := a
  obtain ⟨bx, by'⟩ := b
  simp only [cfP, Cell.row, lowC]
  split <;> omega
theorem sortPt_px (l s : List Cell) (hp : s.Perm l) (hs : s.Pairwise lowC) (hon : ∀ c ∈ l, nearC c) (hl : l.length ≤ 100000000) : PX Tryz.prog 87 [.hs 0 0 l.length, .d (.fn (.func 88) [])] [(0, ⟨58, 2, dr (l.map Cell.row)⟩)] [(0, 0)] [(0, ⟨58, 2, dr (s.map Cell.row)⟩)] (.tup []) := by
  have h := sortFunc_all (P := Tryz.prog) sortPt_lays (k := 2) (by decide) (fun w => by kernel_rfl) (fun w => by kernel_rfl) ⟨_, Tryz.func87, by kernel_rfl, by kernel_rfl⟩ (cg := 88) (fun args w => by kernel_rfl) cmpP_ok cfP_ord 58 (rows := l.map Cell.row) (rows' := s.map Cell.row)
    (fun r hr => by obtain ⟨c, hc, rfl⟩ := List.mem_map.1 hr; exact ⟨c, rfl, hon c hc⟩)
    (fun a ha b hb h1 h2 => by
      obtain ⟨c, hc, rfl⟩ := List.mem_map.1 ha
      obtain ⟨d, hd, rfl⟩ := List.mem_map.1 hb
      rw [cfP_cells] at h1 h2
      rcases lowC_tri c d with h | h | h
      · exact absurd h h2
      · rw [h]
      · exact absurd h h1)
    (hp.map _) (by
      rw [List.pairwise_map]
      refine hs.imp fun {a b} h => ?_
      rw [cfP_cells]
      exact lowC_asym h) (by simp; omega)
  simp only [List.length_map] at h
  exact h
theorem pw_of_lowC : ∀ {l : List Cell}, l.Nodup → ∃ s : List Cell, s.Perm l ∧ s.Pairwise lowC := fun {l} hd => by
  let le : Cell → Cell → Bool := fun a b => decide (a.y < b.y) || (decide (a.y = b.y) && decide (a.x ≤ b.x))
  have h1 : (l.mergeSort le).Pairwise fun a b => le a b = true := List.pairwise_mergeSort (fun a b c h1 h2 => by simp [le] at *; omega) (fun a b => by simp [le]; omega) l
  have h2 : (l.mergeSort le).Nodup := (List.mergeSort_perm l le).nodup_iff.2 hd
  refine ⟨_, List.mergeSort_perm l le, ?_⟩
  refine (h1.and h2).imp fun {a b} h => ?_
  obtain ⟨ha, hb⟩ := h
  simp [le] at ha
  rcases lowC_tri a b with h | h | h
  · exact h
  · exact absurd h hb
  · unfold lowC at *; omega
end Go.Proofs.YtdddknniooimmaaGreat

namespace Go.Proofs.YtdddknniooimmaaGreat
open Go.Abs Go.Shelf

local instance (priority := 5000) nav_stop5 {P : Program} {l : Array Oper} {b : Bool} {c : Code} {Q : Exit → St → Prop} {s : St} : Nav (AWp P (.seq (.region 5 l b) c) Q s) (AWp P (.seq (.region 5 l b) c) Q s) := ⟨id⟩
theorem offIds_ds {id : Nat} : ∀ l : List D, offIds id (l.map AV.d) = true
  | [] => rfl
  | d :: l => by
    show offIds id (.d d :: l.map AV.d) = true
    simp only [offIds, offId, offIds_ds l, Bool.and_self]
theorem offIds_dr {id : Nat} (R : List (List D)) {r : List AV} (h : r ∈ dr R) : offIds id r = true := by
  unfold dr at h
  obtain ⟨l, _, rfl⟩ := List.mem_map.1 h
  exact offIds_ds l
theorem zip_rows : ∀ A : List (Cell × List Hd), List.zipWith (fun (k : Cell) (v : D) => [D.agg k.row, v]) (A.map (·.1)) (A.map fun p => encHs p.2) = cRows A
  | [] => rfl
  | p :: A => by
    simp only [List.map_cons, List.zipWith_cons_cons, zip_rows A]
    rfl
set_option maxHeartbeats 8000000 in
theorem trace_ok (R : List Row) (hR : smallR R) (hbig : validR R = true → (collectL R).length ≤ 1000000) (Ls : List (List Crk)) (hL : validR R = true → Lps (Sof R) Ls) : PC Tryz.prog 32 [.agg (regRow R)] (.p (.sl (if validR R then Ls.map fun L => [encCells (polyOf L)] else []))) := by
  have c1 := valid_ok R hR
  have hv0 : validR R = validR R := rfl
  generalize hv : validR R = v at c1 hL hbig
  refine pc_of_awp cx (fn := Tryz.f32) (c := _) Tryz.func32 rfl rfl (Nat.le_of_ble_eq_true rfl) ?_
  rw [Tryz.ntmps32]; refine Nav.imp ?_
  refine awp_region cx [] fun K hK => ?_
  simp [push_cast]
  repeat (refine And.intro (by clear hK; intros; first | omega | (simp_all; done) | (simp_all <;> omega)) ?_)
  refine hK _ ?_; clear hK K; refine Nav.imp ?_
  refine awp_region cx [(1, .p (.bool v))] fun K hK => ?_
  simp [push_cast, c1]
  repeat (refine And.intro (by clear hK; intros; first | omega | (simp_all; done) | (simp_all <;> omega)) ?_)
  refine hK _ ?_; clear hK K; refine Nav.imp ?_
  refine awp_cond (b := !v) (by simp [push_cast]) (fun hb => ?_) (fun hb => ?_) <;> (refine Nav.imp ?_)
  · simp at hb
    subst hb
    refine awp_region cx [] fun K hK => ?_
    simp [push_cast]
    repeat (refine And.intro (by clear hK; intros; first | omega | (simp_all; done) | (simp_all <;> omega)) ?_)
    refine hK _ ?_; clear hK K; refine Nav.imp ?_
    simp [push_cast]
  · simp at hb
    subst hb
    have hbig := hbig rfl
    have hL := hL rfl
    have c2 := collect_px R hv hR (by omega)
    refine awp_region cx [(1, .x ⟨[], [.d (.agg (regRow R))], [], [], some 0, [(0, ⟨118, mapM, dr (cRows (addAll [] (collectL R)))⟩)], .hm 0⟩)] fun K hK => ?_
    simp [push_cast, c2]
    repeat (refine And.intro (by clear hK; intros; first | omega | (simp_all; done) | (simp_all <;> omega)) ?_)
    refine hK _ ?_; clear hK K; refine Nav.imp ?_
    refine awp_region cx [] fun K hK => ?_
    simp [push_cast]
    repeat (refine And.intro (by clear hK; intros; first | omega | (simp_all; done) | (simp_all <;> omega)) ?_)
    refine hK _ ?_; clear hK K; refine Nav.imp ?_
    generalize hA : addAll [] (collectL R) = A at *
    have hnk := (collect_map hv).keys
    rw [hA] at hnk
    have h16 : ∀ xs : List Cell, xs.length < (A.map (·.1)).length → (xs.length + 1) * 16 ≤ 140737488355328 := fun xs h => by
      have := (addAll_good (collectL R)).1
      rw [hA] at this
      simp at h; omega
    refine awp_maprange cx [] _ _ _ _ _ _ _ rfl rfl rfl rfl rfl rfl rfl rfl rfl rfl rfl rfl rfl rfl rfl rfl rfl rfl rfl (by decide) rfl rfl (A.map (·.1)) (fun c => .agg c.row) (A.map fun p => encHs p.2) (id := 6) (o := ⟨118, mapM, dr (cRows A)⟩) rfl rfl (Nat.le_of_ble_eq_true rfl) (by rw [zip_rows]) (by simp) (by simp [push_cast]) (fun u v xs => ⟨45, [(15, .lit u), (3, .lit v), (4, .hs 7 0 xs.length)], [(7, some ⟨58, 2, dr (xs.map Cell.row)⟩)], 8⟩) ?_ ?_ ?_ ?_
    · intro u v xs
      refine ⟨⟨fun t => ?_, ?_, ?_⟩, rfl, rfl, by simp [push_cast], rfl⟩
      · simp [push_cast, offId]
        (repeat' split) <;> simp [offId]
      · simp [push_cast, offId]
      · intro x o ho i r hr
        simp [push_cast] at ho
        split at ho
        · simp at ho
          subst ho
          exact offIds_dr _ (List.mem_of_getElem? hr)
        · simp at ho
    · intro u v
      refine weak_of [(7, none)] rfl (by simp [upT, up, upL, push_cast]) (by simp [upH, upR, upL, up, push_cast]) (by simp [namesOk, push_cast]) (by simp [olds])
    · intro u v xs k hk hx K hK
      have h16 := h16 xs hx
      simp [push_cast, entSt]
      refine hK _ ?_
      refine awp_region cx [] fun K hK => ?_
      simp [push_cast, h16]
      repeat (refine And.intro (by clear hK; intros; first | omega | (simp_all; done) | (simp_all <;> omega)) ?_)
      refine hK _ ?_; clear hK K; refine Nav.imp ?_
      refine weak_of [(7, some 13)] rfl (by simp [upT, up, upL, push_cast]) (by simp [upH, upR, upL, up, push_cast]) (by simp [namesOk, push_cast]) (by simp [olds])
    · intro u v xs hxs
      obtain ⟨P, hP1, hP2⟩ := pw_of_lowC (l := xs) (hxs.nodup_iff.2 hnk)
      have hmap := collect_map hv
      rw [hA] at hmap
      have hC := collect_cracks hv
      have hbd : ∀ d ∈ collectL R, -100000 ≤ d.p.x ∧ d.p.x ≤ 100000 ∧ -100000 ≤ d.p.y ∧ d.p.y ≤ 100000 := fun d hd => by
        have := collect_near hv hd; omega
      have hnear : ∀ c ∈ xs, nearC c := fun c hc => by
        obtain ⟨d, hd, rfl⟩ := heads_near hC hmap (hxs.mem_iff.1 hc)
        have := collect_near hv hd
        simp only [nearC]; omega
      have hAl := (addAll_good (collectL R)).1
      rw [hA] at hAl
      have hxl := hxs.length_eq
      rw [List.length_map] at hxl
      have c3 := sortPt_px xs P hP1 hP2 hnear (by omega)
      have hPl := hP1.length_eq
      refine Nav.imp ?_
      refine awp_region cx [(1, .x ⟨[(0, 7)], [.hs 0 0 xs.length, .d (.fn (.func 88) [])], [(0, ⟨58, 2, dr (xs.map Cell.row)⟩)], [(0, 0)], none, [(0, ⟨58, 2, dr (P.map Cell.row)⟩)], .tup []⟩)] fun K hK => ?_
      simp [push_cast, c3]
      repeat (refine And.intro (by clear hK; intros; first | omega | (simp_all; done) | (simp_all <;> omega)) ?_)
      refine hK _ ?_; clear hK K; refine Nav.imp ?_
      rw [← hPl]
      refine awp_freeze 7 (P.map Cell.row) rfl (by simp [push_cast]) fun K hK => ?_
      simp [push_cast, St.fz, fzT, fzH, fzO, fz, fzL, fzR, fzR_dr, fzR_app, fzR_set, fzL_map]
      refine hK _ ?_; clear hK K; refine Nav.imp ?_
      refine awp_region cx [] fun K hK => ?_
      simp [push_cast]
      repeat (refine And.intro (by clear hK; intros; first | omega | (simp_all; done) | (simp_all <;> omega)) ?_)
      refine hK _ ?_; clear hK K; refine Nav.imp ?_
      refine awp_region cx [] fun K hK => ?_
      simp [push_cast]
      repeat (refine And.intro (by clear hK; intros; first | omega | (simp_all; done) | (simp_all <;> omega)) ?_)
      refine hK _ ?_; clear hK K; refine Nav.imp ?_
      have hP63 : P.length ≤ 1000000 := by omega
      refine awp_loop (β := Nat × List (List Crk) × List (Cell × List Hd)) (fun s => ⟨45, [(3, .hm 6), (26, .d (encCells P)), (27, .d (.int .i64 P.length)), (28, .d (.int .i64 s.1)), (6, .hs 7 0 s.2.1.length)], [(6, some ⟨118, mapM, dr (cRows s.2.2)⟩), (7, some ⟨55, 1, dr (s.2.1.map fun L => [encCells (polyOf L)])⟩)], 8⟩)
        (fun s => s.1 ≤ P.length ∧ TInv (Sof R) P s.1 s.2.1 s.2.2) (fun s => P.length - s.1) (0, [], A) ?_ ⟨Nat.zero_le _, TInv.init hmap (hP1.trans hxs)⟩ ?_
      · refine weak_of [(6, some 6), (7, none)] rfl (by simp [upT, up, upL, push_cast]) (by simp [upH, upR, upL, up, push_cast]) (by simp [namesOk, push_cast]) (by simp [olds])
      · rintro ⟨j, Fs, A⟩ ⟨hj, hI⟩
        simp only at hj hI
        have hFl := hI.len
        refine Nav.imp ?_
        refine awp_region cx [] fun K hK => ?_
        simp [push_cast]
        repeat (refine And.intro (by clear hK; intros; first | omega | (simp_all; done) | (simp_all <;> omega)) ?_)
        refine hK _ ?_; clear hK K; refine Nav.imp ?_
        refine awp_cond (b := decide ((j : Int) < P.length)) (by simp [push_cast]) (fun hb => ?_) (fun hb => ?_) <;> (refine Nav.imp ?_)
        · have hlt : j < P.length := by simpa using hb
          obtain ⟨p, hp⟩ := getq hlt
          have e0 := wrap_i64 (n := (j : Int) + 1) (by omega) (by omega)
          have l0 := look_c p A
          refine awp_region cx [] fun K hK => ?_
          simp [push_cast, hp]
          repeat (refine And.intro (by clear hK; intros; first | omega | (simp_all; done) | (simp_all <;> omega)) ?_)
          refine hK _ ?_; clear hK K; refine Nav.imp ?_
          cases hh : headsAt A p with
          | nil =>
            rw [hh] at l0
            have l1 : lookIs .nl false (lookA (.agg [.int .i64 p.x, .int .i64 p.y]) (dr (cRows A))) (encHs []) = True := l0
            refine awp_region cx [(2, .p (encHs []))] fun K hK => ?_
            simp [push_cast, l1]
            repeat (refine And.intro (by clear hK; intros; first | omega | (simp_all; done) | (simp_all <;> omega)) ?_)
            refine hK _ ?_; clear hK K; refine Nav.imp ?_
            refine awp_cond (b := false) (by simp [push_cast]) (fun hb => ?_) (fun hb => ?_) <;> (refine Nav.imp ?_)
            · simp at hb
            · refine awp_region cx [] fun K hK => ?_
              simp [push_cast, e0]
              repeat (refine And.intro (by clear hK; intros; first | omega | (simp_all; done) | (simp_all <;> omega)) ?_)
              refine hK _ ?_; clear hK K; refine Nav.imp ?_
              refine ⟨(j + 1, Fs, A), ⟨hlt, hI.skip hp hh⟩, by simp only; omega, ?_⟩
              refine weak_of [(6, some 6), (7, some 7)] rfl (by simp [upT, up, upL, push_cast]) (by simp [upH, upR, upL, up, push_cast]) (by simp [namesOk, push_cast]) (by simp [olds])
          | cons k hs0 =>
            rw [hh] at l0
            obtain ⟨n, pn, hnl, hr, lc, hI2⟩ := hI.go hC hP2 hp hh
            have c4 := walk_px hC hbd hI.map (fun d hd => hd.1) pn (by omega) hr lc hh
            have l1 : lookIs .nl false (lookA (.agg [.int .i64 p.x, .int .i64 p.y]) (dr (cRows A))) (encHs (k :: hs0)) = True := l0
            generalize orb (suc (Sof R)) n ⟨p, k⟩ = L at *
            unfold walkO at c4
            have h8 : (Fs.length + 1) * 8 ≤ 140737488355328 := by omega
            have h24 : (Fs.length + 1) * 24 ≤ 140737488355328 := by omega
            refine awp_region cx [(2, .p (encHs (k :: hs0)))] fun K hK => ?_
            simp [push_cast, l1]
            repeat (refine And.intro (by clear hK; intros; first | omega | (simp_all; done) | (simp_all <;> omega)) ?_)
            refine hK _ ?_; clear hK K; refine Nav.imp ?_
            refine awp_cond (b := true) (by simp [push_cast]) (fun hb => ?_) (fun hb => ?_) <;> (refine Nav.imp ?_)
            · refine awp_region cx [(3, .x ⟨[(0, 6)], [.hm 0, .d (.agg [.int .i64 p.x, .int .i64 p.y])], [(0, ⟨118, mapM, dr (cRows A)⟩)], [(0, 0)], none, [(0, ⟨118, mapM, dr (cRows (takeAll A L))⟩)], .d (.agg [encCells (polyOf L)])⟩)] fun K hK => ?_
              simp [push_cast, c4, h8, h24]
              repeat (refine And.intro (by clear hK; intros; first | omega | (simp_all; done) | (simp_all <;> omega)) ?_)
              refine hK _ ?_; clear hK K; refine Nav.imp ?_
              refine awp_region cx [] fun K hK => ?_
              simp [push_cast, e0]
              repeat (refine And.intro (by clear hK; intros; first | omega | (simp_all; done) | (simp_all <;> omega)) ?_)
              refine hK _ ?_; clear hK K; refine Nav.imp ?_
              refine ⟨(j + 1, Fs ++ [L], takeAll A L), ⟨hlt, hI2⟩, by simp only; omega, ?_⟩
              refine weak_of [(6, some 6), (7, some 23)] rfl (by simp [upT, up, upL, push_cast]) (by simp [upH, upR, upL, up, push_cast]) (by simp [namesOk, push_cast]) (by simp [olds])
            · simp at hb
        · have hje : P.length ≤ j := by simp at hb; omega
          have := lps_uniq hC (hI.done hje) hL
          rw [← this]
          refine awp_freeze 7 (Fs.map fun L => [encCells (polyOf L)]) rfl (by simp [push_cast]) fun K hK => ?_
          simp [push_cast, St.fz, fzT, fzH, fzO, fz, fzL, fzR, fzR_dr, fzR_app, fzR_set, fzL_map]
          refine hK _ ?_; clear hK K; refine Nav.imp ?_
          refine awp_region cx [] fun K hK => ?_
          simp [push_cast]
          repeat (refine And.intro (by clear hK; intros; first | omega | (simp_all; done) | (simp_all <;> omega)) ?_)
          refine hK _ ?_; clear hK K; refine Nav.imp ?_
          simp [push_cast]
end Go.Proofs.YtdddknniooimmaaGreat

namespace Go.Proofs.YtdddknniooimmaaGreat
open Go.Abs

def bef (a b : Cell) : Bool := decide (a.y < b.y) || (decide (a.y = b.y) && decide (a.x < b.x))
def InsAt (l : List Cell) (i : Nat) (Z : List Cell) (k : Nat) : Prop :=
  ∃ (P : List Cell) (c : Cell) (Q T : List Cell), Z = P ++ c :: (Q ++ T) ∧ P.length = k ∧ P.length + Q.length = i ∧ Z.Perm l ∧ ((P ++ Q).Pairwise fun a b => leY a b = true) ∧ ∀ q ∈ Q, leY c q = true
def UpTo (l : List Cell) (i : Nat) (Z : List Cell) : Prop := Z.Perm l ∧ ((Z.take i).Pairwise fun a b => leY a b = true)

end Go.Proofs.YtdddknniooimmaaGreat
