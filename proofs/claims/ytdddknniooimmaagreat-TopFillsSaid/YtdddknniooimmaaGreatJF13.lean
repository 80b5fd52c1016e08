/-
  Texts of this seat put together: BW12, BD6, BK6, BK7, BE1, BE2, RW0, RW1.
-/
import Derived.Test.YtdddknniooimmaaGreatJF10
import Derived.Test.YtdddknniooimmaaGreatJF12
set_option linter.unusedVariables false
set_option linter.unusedSimpArgs false
set_option maxRecDepth 100000
namespace Go.Proofs.YtdddknniooimmaaGreat
open Go.Abs

def polyR (L : List Crk) : List ze := let T := zfw (zqc .e L) L; T.drop (minK T T.length) ++ T.take (minK T T.length)

structure TR (S : ze -> Bool) (l : List Crk) (i : Nat) (Fs : List (List Crk)) (dn : List Crk) : Prop where
 fam : Fam S Fs
 mem : ∀ c, c ∈ dn ↔ onF Fs c
 pre : ∀ j c, j < i -> l[j]? = some c -> onF Fs c
 len : Fs.length <= i
theorem polyR_eq {S : ze -> Bool} {C : List Crk} (hC : zdg S C) {c : Crk} {n k : Nat} (hc : isC S c = true) (pc : Per (suc S) c n) (lc : ∀ d ∈ orb (suc S) n c, d ≠ c -> zdq c.p d.p) (hk : k < n) : polyR (orb (suc S) n (itn (suc S) k c)) = zay (orb (suc S) n c) := by
 obtain ⟨X, Y, h1, h2, h3, h4⟩ := lp_rot hC hc pc lc hk;have hl : zqc .e (orb (suc S) n (itn (suc S) k c)) = (itn (suc S) (k + (n - 1)) c).h := by
  rw [zjv _ pc.pos, <- zfs]
 unfold polyR;simp only;rw [hl, h1, h2, minK_at h3 h4 _ (by simp) (Nat.le_refl _), List.drop_left, List.take_left]
theorem TR.init (S : ze -> Bool) (l : List Crk) : TR S l 0 [] [] := ⟨⟨by simp, by simp⟩, by simp [onF], by omega, by simp⟩
theorem TR.skip {S : ze -> Bool} {l : List Crk} {i : Nat} {Fs : List (List Crk)} {dn : List Crk} (h : TR S l i Fs dn) {c : Crk} (hc : l[i]? = some c) (hd : c ∈ dn) : TR S l (i + 1) Fs dn := by
 refine ⟨h.fam, h.mem, fun j d hj hg => ?_, by have := h.len; omega⟩;rcases Nat.lt_or_ge j i with hl | hl
 ·exact h.pre j d hl hg
 ·have : j = i := by omega
  subst this;rw [hc] at hg; cases hg;exact (h.mem c).1 hd
theorem TR.go {S : ze -> Bool} {l : List Crk} (hC : zdg S l) {i : Nat} {Fs : List (List Crk)} {dn : List Crk} (h : TR S l i Fs dn) {c : Crk} (hc : l[i]? = some c) (hd : c ∉ dn) {n : Nat} (pn : Per (suc S) c n) :
  ∃ Ms, TR S l (i + 1) Ms (dn ++ orb (suc S) n c) /\ insP (Fs.map zay) (polyR (orb (suc S) n c)) = Ms.map zay /\ polyR (orb (suc S) n c) ≠ [] := by
 have hcC := (hC c).1 (List.mem_of_getElem? hc);obtain ⟨e, n', k, he, pe, hk, _, hce, pc', le⟩ := lp_ex hC hcC;have hn := pn.eq pc';subst hn;have hL : zsh S (orb (suc S) n e) := ⟨e, n, he, pe, rfl, le⟩
 have hP := polyR_eq hC he pe le hk;rw [<- hce] at hP;have hcm : c ∈ orb (suc S) n e := zbt.2 ⟨k, hk, hce⟩;have hsame := pe.orb_mem hcm;have hoff : ∀ x ∈ orb (suc S) n e, ¬ onF Fs x := fun x hx ⟨M, hM, hm⟩ => hd ((h.mem c).2 ⟨M, hM, by rw [<- lp_uniq hL (h.fam.each M hM) hx hm hC]; exact hcm⟩);obtain ⟨Ms, m1, m2, m3⟩ := h.fam.ins hL hoff;have hon : ∀ x, onF Ms x ↔ onF Fs x \/ x ∈ orb (suc S) n c := fun x => by
  unfold onF;constructor
  ·rintro ⟨M, hM, hx⟩;rcases (m3 M).1 hM with rfl | hM
   ·exact .inr ((hsame x).2 hx)
   ·exact .inl ⟨M, hM, hx⟩
  ·rintro (⟨M, hM, hx⟩ | hx)
   ·exact ⟨M, (m3 M).2 (.inr hM), hx⟩
   ·exact ⟨_, (m3 _).2 (.inl rfl), (hsame x).1 hx⟩
 have hlen : Ms.length = Fs.length + 1 := by
  have := congrArg List.length m2;simp only [insP, List.length_append, List.length_cons, List.length_map, List.length_take, List.length_drop] at this;omega
 refine ⟨Ms, ⟨m1, fun x => ?_, fun j d hj hg => ?_, by have := h.len; omega⟩, by rw [hP]; exact m2, ?_⟩
 ·rw [List.mem_append, h.mem, hon]
 ·rw [hon];rcases Nat.lt_or_ge j i with hl | hl
  ·exact .inl (h.pre j d hl hg)
  ·have : j = i := by omega
   subst this;rw [hc] at hg; cases hg;exact .inr (zfh pn.pos)
 ·rw [hP];obtain ⟨_, _, _, _, _, Y, hY⟩ := lp_head hL;rw [hY]; simp
theorem TR.done {S : ze -> Bool} {l : List Crk} (hC : zdg S l) {Fs : List (List Crk)} {dn : List Crk} (h : TR S l l.length Fs dn) : Lps S Fs := by
 refine ⟨h.fam.each, fun c hc => ?_, h.fam.sorted⟩;obtain ⟨j, hj⟩ := List.mem_iff_getElem?.1 ((hC c).2 hc);exact h.pre j c (List.getElem?_eq_some_iff.1 hj).1 hj


def mv (a : ze) : Hd -> Int -> ze
 | .e, k => ⟨a.x + k, a.y⟩
 | .n, k => ⟨a.x, a.y + k⟩
 | .w, k => ⟨a.x - k, a.y⟩
 | .s, k => ⟨a.x, a.y - k⟩
theorem stp_mv (a : ze) (h : Hd) (k : Int) : stp h (mv a h k) = mv a h (k + 1) := by
 cases h <;> simp [stp, mv] <;> omega
theorem stp_one (a : ze) (h : Hd) : stp h a = mv a h 1 := by cases h <;> rfl
def Chn : ze -> List Crk -> ze -> Prop
 | p, [], z => p = z
 | p, d :: t, z => d.p = p /\ Chn d.q t z
theorem orb_chn (S : ze -> Bool) : ∀ (n : Nat) (c : Crk), Chn c.p (orb (suc S) n c) (itn (suc S) n c).p
 | 0, c => rfl
 | n + 1, c => ⟨rfl, orb_chn S n (suc S c)⟩
theorem zvc {S : ze -> Bool} {C : List Crk} (hC : zdg S C) (hn : C.Nodup) {Ls : List (List Crk)} (h : Lps S Ls) : Ls.flatten.Perm C := by
 refine (List.perm_ext_iff_of_nodup ?_ hn).2 fun c => ?_
 ·unfold List.Nodup;rw [List.pairwise_flatten];refine ⟨fun L hL => ?_, List.Pairwise.imp_of_mem (fun {L M} hL hM hlt => ?_) h.sorted⟩
  ·obtain ⟨c, n, hc, pc, rfl, _⟩ := h.each L hL;exact zmo hC.cl hC.inj ((hC c).2 hc) pc.least
  ·intro x hx y hy e;subst e;have := lp_uniq (h.each L hL) (h.each M hM) hx hy hC;subst this;obtain ⟨c, d, h1, h2, h3⟩ := hlt;rw [h1] at h2; cases h2;exact zms _ h3
 ·rw [List.mem_flatten, hC];constructor
  ·rintro ⟨L, hL, hc⟩;obtain ⟨d, n, hd, pd, rfl, _⟩ := h.each L hL;exact znu hd hc
  ·exact h.cover c


def Perp (h k : Hd) : Prop := k = h.l \/ k = h.r
def Hd.vert : Hd -> Bool | .e => false | .n => true | .w => false | .s => true
theorem Perp.vert {h k : Hd} (p : Perp h k) : k.vert = !h.vert := by
 rcases p with rfl | rfl <;> cases h <;> rfl
def zou (h : Hd) : List Crk -> List Crk
 | [] => []
 | d :: t => if d.h = h then zou d.h t else d :: zou d.h t
theorem turnC_p : ∀ (h : Hd) (t : List Crk), (zou h t).map (·.p) = zfw h t
 | h, [] => rfl
 | h, d :: t => by
  simp only [zou, zfw];split
  ·exact turnC_p d.h t
  ·rw [List.map_cons, turnC_p d.h t]
def Hds : Hd -> List Crk -> Prop
 | _, [] => True
 | h, d :: t => (d.h = h \/ Perp h d.h) /\ Hds d.h t
theorem orb_hds (S : ze -> Bool) : ∀ (n : Nat) (c : Crk), Hds c.h (orb (suc S) n (suc S c))
 | 0, c => trivial
 | n + 1, c => by
  refine ⟨?_, orb_hds S n (suc S c)⟩
  show nxH S c.q c.h = c.h \/ Perp c.h (nxH S c.q c.h)
  unfold nxH Perp;split
  ·exact .inr (.inl rfl)
  ·split
   ·exact .inl rfl
   ·exact .inr (.inr rfl)
def Rel (a b : Crk) : Prop := (∃ k : Int, 1 <= k /\ b.p = mv a.p a.h k) /\ Perp a.h b.h
def cAll : List Crk -> Prop
 | a :: b :: t => Rel a b /\ cAll (b :: t)
 | _ => True
theorem cAll_get : ∀ {Q : List Crk}, cAll Q -> ∀ k a b, Q[k]? = some a -> Q[k + 1]? = some b -> Rel a b
 | [], _, k, a, b, h, _ => by simp at h
 | [c], _, k, a, b, _, h => by simp at h
 | c :: d :: t, h, 0, a, b, ha, hb => by simp at ha hb; subst ha; subst hb; exact h.1
 | c :: d :: t, h, k + 1, a, b, ha, hb => cAll_get h.2 k a b (by simpa using ha) (by simpa using hb)
theorem zsv (c : Crk) : ∀ (t : List Crk) (a : Crk) (k : Int), 1 <= k -> Chn (mv a.p a.h k) t c.p -> Hds a.h t -> Perp (zqc a.h t) c.h -> cAll (a :: (zou a.h t ++ [c]))
 | [], a, k, hk, hc, _, hp => by
  simp only [Chn] at hc;exact ⟨⟨⟨k, hk, hc.symm⟩, hp⟩, trivial⟩
 | d :: t, a, k, hk, hc, hh, hp => by
  obtain ⟨h1, hc⟩ := hc;obtain ⟨h2, hh⟩ := hh;by_cases e : d.h = a.h
  ·have hq : d.q = mv a.p a.h (k + 1) := by rw [<- stp_mv, <- h1, <- e]; rfl
   rw [hq] at hc;rw [e] at hh;have hp' : Perp (zqc a.h t) c.h := by rw [<- e]; exact hp
   have ih := zsv c t a (k + 1) (by omega) hc hh hp';simp only [zou, if_pos e];rw [e]; exact ih
  ·have hq : d.q = mv d.p d.h 1 := by rw [<- stp_one]; rfl
   rw [hq] at hc;have ih := zsv c t d 1 (by omega) hc hh hp;simp only [zou, if_neg e, List.cons_append];exact ⟨⟨⟨k, hk, h1⟩, h2.resolve_left e⟩, ih⟩
theorem cyc_getC {P : List Crk} {p : Crk} {k : Nat} (hk : k < P.length + 1) : ((p :: P) ++ [p])[k]? = (p :: P)[k]? /\ ((p :: P) ++ [p])[k + 1]? = (p :: P)[(k + 1) % (p :: P).length]? := by
 refine ⟨List.getElem?_append_left (by simpa using hk), ?_⟩;by_cases h : k + 1 < (p :: P).length
 ·rw [List.getElem?_append_left h, Nat.mod_eq_of_lt h]
 ·have e : k + 1 = (p :: P).length := by simp at h ⊢; omega
  rw [e, Nat.mod_self, List.getElem?_append_right (Nat.le_refl _)];simp
theorem chain_cyc {c : Crk} {K : List Crk} (h : cAll ((c :: K) ++ [c])) {k : Nat} {a b : Crk} (ha : (c :: K)[k]? = some a) (hb : (c :: K)[(k + 1) % (c :: K).length]? = some b) : Rel a b := by
 have hk := (List.getElem?_eq_some_iff.1 ha).1;obtain ⟨h1, h2⟩ := cyc_getC (p := c) (P := K) (k := k) (by simpa using hk);exact cAll_get h k a b (h1.trans ha) (h2.trans hb)
theorem chain_vert {c : Crk} {K : List Crk} (h : cAll ((c :: K) ++ [c])) : ∀ k a, ((c :: K) ++ [c])[k]? = some a -> a.h.vert = (if k % 2 = 0 then c.h.vert else !c.h.vert)
 | 0, a, ha => by simp at ha; subst ha; simp
 | k + 1, a, ha => by
  have hl := (List.getElem?_eq_some_iff.1 ha).1;obtain ⟨b, hb⟩ := zak (l := (c :: K) ++ [c]) (k := k) (by omega);have ih := chain_vert h k b hb;have hr := (cAll_get h k b a hb ha).2.vert;rw [hr, ih];by_cases e : k % 2 = 0
  ·rw [if_pos e, if_neg (by omega)]
  ·rw [if_neg e, if_pos (by omega)]; simp
theorem chain_even {c : Crk} {K : List Crk} (h : cAll ((c :: K) ++ [c])) : (c :: K).length % 2 = 0 /\ 4 <= (c :: K).length := by
 have h1 := chain_vert h (c :: K).length c (by rw [List.getElem?_append_right (Nat.le_refl _)]; simp);have hev : (c :: K).length % 2 = 0 := by
  apply Classical.byContradiction
  intro hn;rw [if_neg hn] at h1;cases hc : c.h.vert <;> rw [hc] at h1 <;> cases h1
 refine ⟨hev, ?_⟩;apply Classical.byContradiction
 intro hlt;have h2 : (c :: K).length = 2 := by simp at hev hlt ⊢; omega
 obtain ⟨b, hb⟩ : ∃ b, K = [b] := List.length_eq_one_iff.1 (by simpa using h2);subst hb;obtain ⟨⟨⟨k, hk, e1⟩, p1⟩, ⟨⟨j, hj, e2⟩, p2⟩, _⟩ := h;obtain ⟨⟨x, y⟩, h⟩ := c;obtain ⟨⟨u, v⟩, g⟩ := b;simp only at *;cases h <;> cases g <;> simp [Perp, Hd.l, Hd.r, mv] at p1 e1 e2 <;> omega

def adC (out : List ze) (c : ze) : List ze := if out.getLast? = some c then out else out ++ [c]
def zhp (out : List ze) (h h' : Hd) (q : ze) : List ze := if h' = h.r then adC out (zae h q) else out
def zwb (out : List ze) (p : ze) (h : Hd) : Nat -> List ze
 | 0 => out
 | k + 1 => adC (zwb out p h k) (zae h (mv p h k))
def dst (a b : ze) : Nat := (b.x - a.x).natAbs + (b.y - a.y).natAbs
def vF : List Crk -> List ze -> List ze
 | a :: b :: t, out => vF (b :: t) (zhp (zwb out a.p a.h (dst a.p b.p)) a.h b.h b.p)
 | _, out => out
def cF : List Crk -> List ze -> List ze
 | x :: y :: t, out => cF (y :: t) (zhp (adC out (zae x.h x.p)) x.h y.h y.p)
 | _, out => out
theorem dst_mv (a : ze) (h : Hd) (k : Nat) : dst a (mv a h k) = k := by
 cases h <;> simp [dst, mv] <;> omega
theorem mv_zero (a : ze) (h : Hd) : mv a h 0 = a := by cases h <;> simp [mv]
theorem vF_cF (c : Crk) : ∀ (t : List Crk) (a : Crk) (k : Nat) (out : List ze), Chn (mv a.p a.h ((k + 1 : Nat) : Int)) t c.p -> vF (a :: (zou a.h t ++ [c])) out = cF (⟨mv a.p a.h (k : Int), a.h⟩ :: (t ++ [c])) (zwb out a.p a.h k)
 | [], a, k, out, hc => by
  simp only [Chn] at hc;simp only [zou, List.nil_append, vF, cF];rw [<- hc, dst_mv];rfl
 | d :: t, a, k, out, hc => by
  obtain ⟨h1, hc⟩ := hc;by_cases e : d.h = a.h
  ·have hq : d.q = mv a.p a.h ((k + 1 + 1 : Nat) : Int) := by
    have : ((k + 1 + 1 : Nat) : Int) = ((k + 1 : Nat) : Int) + 1 := by omega
    rw [this, <- stp_mv, <- h1, <- e]; rfl
   rw [hq] at hc;have ih := vF_cF c t a (k + 1) out hc;simp only [zou, if_pos e];rw [e, ih];simp only [List.cons_append, cF, zhp];rw [if_neg (by rw [e]; exact (Hd.r_ne a.h).symm)];have hd : d = ⟨mv a.p a.h ((k + 1 : Nat) : Int), a.h⟩ := by
    obtain ⟨dp, dh⟩ := d;simp only at h1 e;rw [h1, e]
   rw [<- hd];rfl
  ·have hq : d.q = mv d.p d.h ((0 + 1 : Nat) : Int) := by
    show stp d.h d.p = _
    rw [stp_one]; rfl
   rw [hq] at hc;have ih := fun o => vF_cF c t d 0 o hc;obtain ⟨dp, dh⟩ := d;simp only at h1 e;subst h1;simp only [zou, if_neg e, List.cons_append, vF];rw [ih];simp only [List.cons_append, cF];have h0 : mv (mv a.p a.h ((k + 1 : Nat) : Int)) dh ((0 : Nat) : Int) = mv a.p a.h ((k + 1 : Nat) : Int) := mv_zero ..;rw [h0, dst_mv];rfl
def zvr (out : List ze) : List ze := if 1 < out.length /\ out.head? = out.getLast? then out.dropLast else out
def seqW (L : List Crk) : List ze := match L with
 | c :: t => cF (c :: t ++ [c]) []
 | [] => []
def zcm (L : List Crk) : List ze := zvr (seqW L)
theorem loop_walk {S : ze -> Bool} {C : List Crk} (hC : zdg S C) {L : List Crk} (hL : zsh S L) : ∃ c K, zay L = (c :: K).map (·.p) /\ cAll ((c :: K) ++ [c]) /\ vF ((c :: K) ++ [c]) [] = seqW L := by
 obtain ⟨c, n, hc, pc, rfl, lc⟩ := hL;obtain ⟨h2, h3, h4⟩ := lp_turn hC hc pc lc;obtain ⟨m, rfl⟩ : ∃ m, n = m + 1 := ⟨n - 1, by omega⟩
 have hch := orb_chn S m (suc S c);have hret : itn (suc S) m (suc S c) = c := pc.ret;rw [hret] at hch;have hq : (suc S c).p = mv c.p c.h 1 := by rw [<- stp_one]; rfl
 rw [hq] at hch;refine ⟨c, zou c.h (orb (suc S) m (suc S c)), ?_, ?_, ?_⟩
 ·simp only [orb, zay, List.map_cons, turnC_p]
 ·refine zsv c _ c 1 (by omega) hch (orb_hds S m c) ?_;rw [zjv _ (by omega)];have e1 : itn (suc S) (m - 1) (suc S c) = itn (suc S) (m + 1 - 1) c := by
   rw [show m + 1 - 1 = (m - 1) + 1 by omega]; rfl
  rw [e1];have e2 : suc S (itn (suc S) (m + 1 - 1) c) = c := by
   have := zdk (f := suc S) (m + 1 - 1) c;rw [<- this]; exact pc.ret
  generalize itn (suc S) (m + 1 - 1) c = d at *;have e3 : c.h = nxH S d.q d.h := (congrArg Crk.h e2).symm;unfold nxH at e3;unfold Perp;split at e3
  ·exact .inl e3
  ·split at e3
   ·exfalso
    rw [e3] at h3;rcases h3 with h3 | h3 <;> rcases h4 with h4 | h4 <;> rw [h3] at h4 <;> cases h4
   ·exact .inr e3
 ·have := vF_cF c (orb (suc S) m (suc S c)) c 0 [] hch;rw [List.cons_append, this];have h0 : mv c.p c.h ((0 : Nat) : Int) = c.p := mv_zero ..;rw [h0];rfl

def sg (n : Int) : Int := if 0 < n then 1 else if n < 0 then -1 else 0
theorem sign_ok (n : Int) : PC Tryz.prog 232 [.int .i64 n] (.p (.int .i64 (sg n))) := by
 have hS : sg n = if 0 < n then 1 else if n < 0 then -1 else 0 := rfl
 generalize sg n = s at *;refine pw cx Tryz.func232 Tryz.ntmps232 ?_;refine rg cx ?_;refine rg cx ?_;refine awp_cd (decide (0 < n)) (fun hb => ?_) fun hb => ?_
 ·have hb : 0 < n := by simpa using hb
  rw [if_pos hb] at hS;refine rg cx ?_;simp [push_cast, hS]
 ·have hb : ¬ 0 < n := by simpa using hb
  rw [if_neg hb] at hS;have hn0 := hb;clear hb;refine rg cx ?_;refine awp_cd (decide (n < 0)) (fun hb => ?_) fun hb => ?_
  ·have hb : n < 0 := by simpa using hb
   rw [if_pos hb] at hS;refine rg cx ?_;simp [push_cast, hS]
  ·have hb : ¬ n < 0 := by simpa using hb
   rw [if_neg hb] at hS;refine rg cx ?_;simp [push_cast, hS]
def dirC (a b : ze) : ze := ⟨sg (b.x - a.x), sg (b.y - a.y)⟩
abbrev farC (a : ze) : Prop := (-100000 <= a.x /\ a.x <= 100000) /\ -100000 <= a.y /\ a.y <= 100000
theorem zwg (a b : ze) (ha : farC a) (hb0 : farC b) : PC Tryz.prog 179 [.agg a.row, .agg b.row] (.p (.agg (dirC a b).row)) := by
 have c1 := sign_ok (b.x - a.x);have c2 := sign_ok (b.y - a.y);have w1 := wI (b.x - a.x);have w2 := wI (b.y - a.y);have hD : dirC a b = ⟨sg (b.x - a.x), sg (b.y - a.y)⟩ := rfl;rw [hD];generalize sg (b.x - a.x) = sx at *;generalize sg (b.y - a.y) = sy at *;generalize hu1 : b.x - a.x = u1 at *;generalize hu2 : b.y - a.y = u2 at *;refine pw cx Tryz.func179 Tryz.ntmps179 ?_;refine rg cx ?_;refine rd cx mixed [(5, .p (.int .i64 sx)), (11, .p (.int .i64 sy))] (fun K hK => by simp [push_cast, c1, c2, hu1, hu2, w1, w2]; (repeat refine ob ?_); exact hK) ?_;simp [push_cast]
def vec : Hd -> ze | .e => ⟨1, 0⟩ | .n => ⟨0, 1⟩ | .w => ⟨-1, 0⟩ | .s => ⟨0, -1⟩
theorem dir_vec (a : ze) (h : Hd) (k : Int) (hk : 1 <= k) : dirC a (mv a h k) = vec h := by
 cases h <;> simp only [dirC, mv, vec, sg] <;> congr 1 <;> (repeat' split) <;> omega
theorem rleft_ok (p : ze) (hp : farC p) (h : Hd) : PC Tryz.prog 181 [.agg p.row, .agg (vec h).row] (.p (.agg (zae h p).row)) := by
 have w1 := wI (p.x - 1);have w2 := wI (p.y - 1);cases h
 ·refine pw cx Tryz.func181 Tryz.ntmps181 ?_;refine rx cx [] (fun K hK => by simp [push_cast, vec]; (repeat refine ob ?_); exact hK) ?_;refine rx cx [] (fun K hK => by simp [push_cast, vec]; (repeat refine ob ?_); exact hK) ?_;refine rx cx [] (fun K hK => by simp [push_cast, vec]; (repeat refine ob ?_); exact hK) ?_;refine awp_cn true (by simp [push_cast, vec]) (fun hb => ?_) fun hb => ?_
  ·refine rg cx ?_;simp [push_cast, zae]
  ·simp at hb
 ·refine pw cx Tryz.func181 Tryz.ntmps181 ?_;refine rx cx [] (fun K hK => by simp [push_cast, vec]; (repeat refine ob ?_); exact hK) ?_;refine rx cx [] (fun K hK => by simp [push_cast, vec]; (repeat refine ob ?_); exact hK) ?_;refine rx cx [] (fun K hK => by simp [push_cast, vec]; (repeat refine ob ?_); exact hK) ?_;refine awp_cn false (by simp [push_cast, vec]) (fun hb => ?_) fun hb => ?_
  ·simp at hb
  ·refine rx cx [] (fun K hK => by simp [push_cast, vec]; (repeat refine ob ?_); exact hK) ?_;refine awp_cn true (by simp [push_cast, vec]) (fun hb => ?_) fun hb => ?_
   ·refine rx cx [] (fun K hK => by simp [push_cast, w1]; (repeat refine ob ?_); exact hK) ?_;simp [push_cast, zae]
   ·simp at hb
 ·refine pw cx Tryz.func181 Tryz.ntmps181 ?_;refine rx cx [] (fun K hK => by simp [push_cast, vec]; (repeat refine ob ?_); exact hK) ?_;refine rx cx [] (fun K hK => by simp [push_cast, vec]; (repeat refine ob ?_); exact hK) ?_;refine rx cx [] (fun K hK => by simp [push_cast, vec]; (repeat refine ob ?_); exact hK) ?_;refine awp_cn false (by simp [push_cast, vec]) (fun hb => ?_) fun hb => ?_
  ·simp at hb
  ·refine rx cx [] (fun K hK => by simp [push_cast, vec]; (repeat refine ob ?_); exact hK) ?_;refine awp_cn false (by simp [push_cast, vec]) (fun hb => ?_) fun hb => ?_
   ·simp at hb
   ·refine rx cx [] (fun K hK => by simp [push_cast, vec]; (repeat refine ob ?_); exact hK) ?_;refine awp_cn true (by simp [push_cast, vec]) (fun hb => ?_) fun hb => ?_
    ·refine rx cx [] (fun K hK => by simp [push_cast, w1, w2]; (repeat refine ob ?_); exact hK) ?_;simp [push_cast, zae]
    ·simp at hb
 ·refine pw cx Tryz.func181 Tryz.ntmps181 ?_;refine rx cx [] (fun K hK => by simp [push_cast, vec]; (repeat refine ob ?_); exact hK) ?_;refine rx cx [] (fun K hK => by simp [push_cast, vec]; (repeat refine ob ?_); exact hK) ?_;refine rx cx [] (fun K hK => by simp [push_cast, vec]; (repeat refine ob ?_); exact hK) ?_;refine awp_cn false (by simp [push_cast, vec]) (fun hb => ?_) fun hb => ?_
  ·simp at hb
  ·refine rx cx [] (fun K hK => by simp [push_cast, vec]; (repeat refine ob ?_); exact hK) ?_;refine awp_cn false (by simp [push_cast, vec]) (fun hb => ?_) fun hb => ?_
   ·simp at hb
   ·refine rx cx [] (fun K hK => by simp [push_cast, vec]; (repeat refine ob ?_); exact hK) ?_;refine awp_cn false (by simp [push_cast, vec]) (fun hb => ?_) fun hb => ?_
    ·simp at hb
    ·refine rx cx [] (fun K hK => by simp [push_cast, w2]; (repeat refine ob ?_); exact hK) ?_;simp [push_cast, zae]
set_option maxHeartbeats 4000000 in
theorem radd_px (l : List ze) (c : ze) (hl : l.length <= 1000000000) : PX Tryz.prog 180 [.hs 0 0 l.length, .d (.agg c.row)] [(0, ⟨67, 2, dr (l.map ze.row)⟩)] [] [(1, ⟨67, 2, dr ((adC l c).map ze.row)⟩)] (.hs 1 0 (adC l c).length) := by
 rcases List.eq_nil_or_concat l with rfl | ⟨Q, q, hQ⟩
 ·have hp : adC [] c = [c] := by simp [adC]
  rw [hp];refine zbv cx (fn := Tryz.f180) (c := _) 1 Tryz.func180 rfl rfl (lB rfl) rfl rfl fun Ls => ?_;rw [Tryz.ntmps180]; refine Nav.imp ?_;refine rg cx ?_;refine rd cx mixed [(7, .skip), (8, .skip), (9, .skip), (10, .skip), (11, .skip)] (fun K hK => by simp [push_cast]; (repeat refine ob ?_); exact hK) ?_;refine awp_cd false (fun hb => ?_) fun hb => ?_
  ·simp at hb
  ·refine rg cx ?_;first | refine znr [(1, 19)] ?_ | refine zns [(1, 19)] ?_
   simp [push_cast];try decide
 ·rw [List.concat_eq_append] at hQ;have hlast : l[l.length - 1]? = some q := by rw [hQ]; simp
  have hgl : l.getLast? = some q := by rw [hQ]; simp
  have hp : adC l c = if q = c then l else l ++ [c] := by
   unfold adC;rw [hgl];by_cases e : q = c
   ·rw [if_pos (by rw [e]), if_pos e]
   ·rw [if_neg (fun h => e (by injection h)), if_neg e]
  have hlen : l.length = Q.length + 1 := by rw [hQ]; simp
  have e3 := wI ((l.length : Int) - 1);have e4 : ((l.length : Int) - 1).toNat = Q.length := by omega
  have e5 : (0 : Int) <= (l.length : Int) - 1 := by omega
  have e6 : (l.length : Int) - 1 < (l.length : Int) := by omega
  have e7 : (0 : Int) < (l.length : Int) := by omega
  have e8 : 0 < l.length := by omega
  have hlq : l[Q.length]? = some q := by rw [<- hlast]; congr 1; omega
  have h16b : (l.length + 1) * 16 <= 140737488355328 := by omega
  clear hQ hlast hgl;by_cases e : q = c
  ·rw [if_pos e] at hp;rw [hp];subst e;refine zbv cx (fn := Tryz.f180) (c := _) 1 Tryz.func180 rfl rfl (lB rfl) rfl rfl fun Ls => ?_;rw [Tryz.ntmps180]; refine Nav.imp ?_;refine rg cx ?_;refine rd cx mixed [] (fun K hK => by simp [push_cast, hlq, e3, e4, e5, e6, e7, e8]; (repeat refine ob ?_); exact hK) ?_;refine awp_cn true (by simp [push_cast, e8]) (fun hb => ?_) fun hb => ?_
   ·refine rg cx ?_;first | refine znr [(1, 0)] ?_ | refine zns [(1, 0)] ?_
    simp [push_cast];try decide
   ·simp at hb
  ·rw [if_neg e] at hp;rw [hp];obtain ⟨qx, qy⟩ := q;obtain ⟨x, y⟩ := c;have e9 : ¬ (qx = x /\ qy = y) := fun h => e (by rw [h.1, h.2]);have e10 : ((qx == x) && (qy == y)) = false := by
    cases h : ((qx == x) && (qy == y)) with
    | false => rfl
    | true => simp at h; exact absurd h e9
   refine zbv cx (fn := Tryz.f180) (c := _) 1 Tryz.func180 rfl rfl (lB rfl) rfl rfl fun Ls => ?_;rw [Tryz.ntmps180]; refine Nav.imp ?_;refine rg cx ?_;refine rd cx mixed [] (fun K hK => by simp [push_cast, hlq, e3, e4, e5, e6, e7, e8, e10, e9]; (repeat refine ob ?_); exact hK) ?_;refine awp_cn false (by simp [push_cast, e9, e10, e8]) (fun hb => ?_) fun hb => ?_
   ·simp at hb
   ·refine rx cx [] (fun K hK => by simp [push_cast, h16b]; (repeat refine ob ?_); exact hK) ?_;first | refine znr [(1, 19)] ?_ | refine zns [(1, 19)] ?_
    simp [push_cast];try decide
end Go.Proofs.YtdddknniooimmaaGreat
