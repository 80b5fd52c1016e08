/-
  Texts of this seat put together: RW4, ON4, HZ4, HZ3, HZ5, WJ1, N1, N2.
-/
import Derived.Test.YtdddknniooimmaaGreatJF14
import Derived.Test.YtdddknniooimmaaGreatJF7
import Derived.Test.YtdddknniooimmaaGreatJF8
import Derived.Test.YtdddknniooimmaaGreatJF5
import Derived.Test.YtdddknniooimmaaGreatJF6
import Derived.Test.YtdddknniooimmaaGreatJF11
import Derived.Test.YtdddknniooimmaaGreatJF9
import Derived.Deep.AppendSrc
set_option linter.unusedVariables false
set_option linter.unusedSimpArgs false
set_option maxRecDepth 100000
namespace Go.Proofs.YtdddknniooimmaaGreat
open Go.Abs

def zjh (out : List ze) : Prop := ∀ (j : Nat) (a b : ze), out[j]? = some a -> out[j + 1]? = some b -> nbT a b = true
def stepOk (a b : ze) : Prop := a = b \/ nbT a b = true
theorem adC_mem {out : List ze} {c e : ze} : e ∈ adC out c ↔ e ∈ out \/ e = c := by
 unfold adC;split
 ·rename_i h;have hm : c ∈ out := List.mem_of_getLast? h;constructor
  ·exact .inl
  ·rintro (h | rfl)
   ·exact h
   ·exact hm
 ·simp
theorem adC_last (out : List ze) (c : ze) : (adC out c).getLast? = some c := by
 unfold adC;split
 ·assumption
 ·simp
theorem adC_chain {out : List ze} {c : ze} (h : zjh out) (hs : ∀ e, out.getLast? = some e -> stepOk e c) : zjh (adC out c) := by
 unfold adC;split
 ·exact h
 ·rename_i hne;intro j a b ha hb;by_cases hj : j + 1 < out.length
  ·rw [List.getElem?_append_left (by omega)] at ha;rw [List.getElem?_append_left hj] at hb;exact h j a b ha hb
  ·have hl := (List.getElem?_eq_some_iff.1 hb).1;rw [List.length_append, List.length_singleton] at hl;have e : j + 1 = out.length := by omega
   rw [List.getElem?_append_right (by omega), e, Nat.sub_self] at hb;rw [List.getElem?_append_left (by omega)] at ha;have hbc : c = b := by simpa using hb
   have hgl : out.getLast? = some a := by rw [List.getLast?_eq_getElem?, <- ha]; congr 1; omega
   rcases hs a hgl with h1 | h1
   ·exact absurd (by rw [hgl, h1]) hne
   ·rw [<- hbc]; exact h1
theorem zkx {out : List ze} {c d : ze} (h : out.head? = some d) : (adC out c).head? = some d := by
 unfold adC;split
 ·exact h
 ·cases out with
  | nil => simp at h
  | cons a t => simpa using h
def LkS (S : ze -> Bool) : List Crk -> Prop
 | x :: y :: t => y = suc S x /\ LkS S (y :: t)
 | _ => True
theorem orb_lk (S : ze -> Bool) : ∀ (n : Nat) (c : Crk), LkS S (orb (suc S) n c ++ [itn (suc S) n c])
 | 0, c => trivial
 | 1, c => ⟨rfl, trivial⟩
 | n + 2, c => ⟨rfl, orb_lk S (n + 1) (suc S c)⟩
theorem suc_h (S : ze -> Bool) (x : Crk) : (suc S x).h = x.h.l \/ (suc S x).h = x.h \/ (suc S x).h = x.h.r := by
 show nxH S x.q x.h = _ \/ nxH S x.q x.h = _ \/ nxH S x.q x.h = _
 unfold nxH;split
 ·exact .inl rfl
 ·split
  ·exact .inr (.inl rfl)
  ·exact .inr (.inr rfl)
theorem step_next (S : ze -> Bool) (x : Crk) : (¬ (suc S x).h = x.h.r -> stepOk (zae x.h x.p) (zae (suc S x).h (suc S x).p)) /\ ((suc S x).h = x.h.r -> stepOk (zae x.h x.p) (zae x.h (suc S x).p) /\ stepOk (zae x.h (suc S x).p) (zae (suc S x).h (suc S x).p)) := by
 have hq : (suc S x).p = stp x.h x.p := rfl;have hh := suc_h S x;rw [hq];generalize (suc S x).h = k at *;obtain ⟨⟨a, b⟩, h⟩ := x;simp only at hh;constructor
 ·intro hn;rcases hh with hh | hh | hh
  ·left; rw [hh]; cases h <;> simp [zae, stp, Hd.l]
  ·right; rw [hh]; cases h <;> simp [zae, stp, nbT, zwf] <;> omega
  ·exact absurd hh hn
 ·intro hr;rw [hr];constructor
  ·right; cases h <;> simp [zae, stp, nbT, zwf] <;> omega
  ·right; cases h <;> simp [zae, stp, nbT, zwf, Hd.r] <;> omega
theorem cF_chain (S : ze -> Bool) : ∀ (l : List Crk) (x : Crk) (out : List ze), LkS S (x :: l) -> zjh out -> (∀ e, out.getLast? = some e -> stepOk e (zae x.h x.p)) -> zjh (cF (x :: l) out) /\ (∀ z, (x :: l).getLast? = some z -> ∀ e, (cF (x :: l) out).getLast? = some e -> stepOk e (zae z.h z.p)) /\ (∀ d, out.head? = some d -> (cF (x :: l) out).head? = some d)
 | [], x, out, hk, hc, hs => ⟨hc, fun z hz e he => by simp at hz; subst hz; exact hs e he, fun d h => h⟩
 | y :: t, x, out, hk, hc, hs => by
  obtain ⟨rfl, hk⟩ := hk;have h1 := adC_chain hc hs;have h2 := adC_last out (zae x.h x.p);obtain ⟨n1, n2⟩ := step_next S x;by_cases hr : (suc S x).h = x.h.r
  ·have hT : zhp (adC out (zae x.h x.p)) x.h (suc S x).h (suc S x).p = adC (adC out (zae x.h x.p)) (zae x.h (suc S x).p) := by unfold zhp; rw [if_pos hr]
   have h3 := adC_chain (c := zae x.h (suc S x).p) h1 fun e he => by rw [h2] at he; cases he; exact (n2 hr).1
   have h4 := adC_last (adC out (zae x.h x.p)) (zae x.h (suc S x).p);obtain ⟨i1, i2, i3⟩ := cF_chain S t (suc S x) _ hk h3 fun e he => by rw [h4] at he; cases he; exact (n2 hr).2
   simp only [cF];rw [hT];exact ⟨i1, fun z hz => i2 z (by simpa using hz), fun d hd => i3 d (zkx (zkx hd))⟩
  ·have hT : zhp (adC out (zae x.h x.p)) x.h (suc S x).h (suc S x).p = adC out (zae x.h x.p) := by unfold zhp; rw [if_neg hr]
   obtain ⟨i1, i2, i3⟩ := cF_chain S t (suc S x) _ hk h1 fun e he => by rw [h2] at he; cases he; exact n1 hr
   simp only [cF];rw [hT];exact ⟨i1, fun z hz => i2 z (by simpa using hz), fun d hd => i3 d (zkx hd)⟩
theorem cF_head : ∀ (l : List Crk) (out : List ze) (d : ze), out.head? = some d -> (cF l out).head? = some d
 | [], out, d, h => h
 | [x], out, d, h => h
 | x :: y :: t, out, d, h => by
  simp only [cF];refine cF_head (y :: t) _ d ?_;unfold zhp;split
  ·exact zkx (zkx h)
  ·exact zkx h
theorem cF_mem (S : ze -> Bool) : ∀ (l : List Crk) (x : Crk) (out : List ze) (e : ze), LkS S (x :: l) -> (e ∈ cF (x :: l) out ↔ e ∈ out \/ ∃ y ∈ (x :: l).dropLast, e = zae y.h y.p \/ ((suc S y).h = y.h.r /\ e = zae y.h y.q))
 | [], x, out, e, hk => by simp [cF]
 | y :: t, x, out, e, hk => by
  obtain ⟨rfl, hk⟩ := hk;have ih := cF_mem S t (suc S x) (zhp (adC out (zae x.h x.p)) x.h (suc S x).h (suc S x).p) e hk;simp only [cF];rw [ih];have hd : (x :: suc S x :: t).dropLast = x :: (suc S x :: t).dropLast := rfl;rw [hd];have hT : e ∈ zhp (adC out (zae x.h x.p)) x.h (suc S x).h (suc S x).p ↔ (e ∈ out \/ e = zae x.h x.p) \/ ((suc S x).h = x.h.r /\ e = zae x.h x.q) := by
   unfold zhp;split
   ·rename_i hr;rw [adC_mem, adC_mem];have : (suc S x).p = x.q := rfl;rw [this];simp [hr]
   ·rename_i hr;rw [adC_mem];simp [hr]
  rw [hT];simp only [List.mem_cons, exists_eq_or_imp];constructor
  ·rintro (((h | h) | h) | h)
   ·exact .inl h
   ·exact .inr (.inl (.inl h))
   ·exact .inr (.inl (.inr h))
   ·exact .inr (.inr h)
  ·rintro (h | (h | h) | h)
   ·exact .inl (.inl (.inl h))
   ·exact .inl (.inl (.inr h))
   ·exact .inl (.inr h)
   ·exact .inr h
theorem finF_mem {out : List ze} {e : ze} : e ∈ zvr out ↔ e ∈ out := by
 unfold zvr;split
 ·rename_i h;obtain ⟨h1, h2⟩ := h;constructor
  ·exact fun h => (List.dropLast_sublist _).subset h
  ·intro he;cases out with
   | nil => cases he
   | cons a t =>
    have ht : t ≠ [] := by rintro rfl; simp at h1
    obtain ⟨Q, z, rfl⟩ : ∃ Q z, t = Q ++ [z] := by
     rcases List.eq_nil_or_concat t with h | ⟨Q, z, h⟩
     ·exact absurd h ht
     ·exact ⟨Q, z, by rw [h, List.concat_eq_append]⟩
    have hz : a = z := by
     rw [<- List.cons_append, List.getLast?_concat] at h2;simpa using h2
    subst hz;rw [<- List.cons_append, List.dropLast_concat];rcases List.mem_cons.1 he with rfl | he
    ·simp
    ·rcases List.mem_append.1 he with he | he
     ·simp [he]
     ·simp at he; simp [he]
 ·exact Iff.rfl
theorem zph {S : ze -> Bool} {L : List Crk} (hL : zsh S L) : 1 <= (zcm L).length /\ zjh (zcm L) /\ (∀ a b, (zcm L).getLast? = some a -> (zcm L).head? = some b -> (zcm L).length = 1 \/ nbT a b = true) /\ ∀ e, e ∈ zcm L ↔ ∃ y ∈ L, e = zae y.h y.p \/ ((suc S y).h = y.h.r /\ e = zae y.h y.q) := by
 obtain ⟨c, n, hc, pc, rfl, lc⟩ := hL;obtain ⟨m, rfl⟩ : ∃ m, n = m + 1 := ⟨n - 1, by have := pc.pos; omega⟩
 have hk := orb_lk S (m + 1) c;rw [pc.ret] at hk;have hs : seqW (orb (suc S) (m + 1) c) = cF (c :: (orb (suc S) m (suc S c) ++ [c])) [] := rfl;have hk : LkS S (c :: (orb (suc S) m (suc S c) ++ [c])) := hk;obtain ⟨h1, h2, _⟩ := cF_chain S (orb (suc S) m (suc S c) ++ [c]) c [] hk (fun j a b h => by simp at h) (by simp);have h2 := h2 c (by rw [<- List.cons_append, List.getLast?_concat]);have hm := fun e => cF_mem S (orb (suc S) m (suc S c) ++ [c]) c [] e hk;have hd : (c :: (orb (suc S) m (suc S c) ++ [c])).dropLast = orb (suc S) (m + 1) c := by
  rw [<- List.cons_append, List.dropLast_concat]; rfl
 rw [hd] at hm;have hmem : ∀ e, e ∈ zcm (orb (suc S) (m + 1) c) ↔ ∃ y ∈ orb (suc S) (m + 1) c, e = zae y.h y.p \/ ((suc S y).h = y.h.r /\ e = zae y.h y.q) := fun e => by
  unfold zcm;rw [finF_mem, hs, hm];simp
 have hhead : (seqW (orb (suc S) (m + 1) c)).head? = some (zae c.h c.p) := by
  rw [hs];cases hY : orb (suc S) m (suc S c) ++ [c] with
  | nil => simp at hY
  | cons y t =>
   simp only [cF];refine cF_head _ _ _ ?_;have h0 : (adC [] (zae c.h c.p)).head? = some (zae c.h c.p) := by simp [adC]
   unfold zhp;split
   ·exact zkx h0
   ·exact h0
 rw [<- hs] at h1 h2;have hfin : 1 <= (zcm (orb (suc S) (m + 1) c)).length /\ zjh (zcm (orb (suc S) (m + 1) c)) /\ ∀ a b, (zcm (orb (suc S) (m + 1) c)).getLast? = some a -> (zcm (orb (suc S) (m + 1) c)).head? = some b -> (zcm (orb (suc S) (m + 1) c)).length = 1 \/ nbT a b = true := by
  unfold zcm;generalize seqW (orb (suc S) (m + 1) c) = W at *;have hpos : 1 <= W.length := by
   cases W with
   | nil => simp at hhead
   | cons a t => simp
  unfold zvr;split
  ·rename_i h;obtain ⟨g1, g2⟩ := h;have hW2 : W.dropLast.length = W.length - 1 := List.length_dropLast;have hget : ∀ j, j < W.length - 1 -> W.dropLast[j]? = W[j]? := fun j hj => by
    rw [List.dropLast_eq_take, List.getElem?_take, if_pos hj]
   refine ⟨by omega, fun j a b ha hb => ?_, fun a b ha hb => ?_⟩
   ·have hl := (List.getElem?_eq_some_iff.1 hb).1;rw [hget j (by omega)] at ha;rw [hget (j + 1) (by omega)] at hb;exact h1 j a b ha hb
   ·right
    rw [List.getLast?_eq_getElem?, hW2, hget _ (by omega)] at ha;rw [List.head?_eq_getElem?, hget 0 (by omega)] at hb;rw [List.head?_eq_getElem?] at g2;rw [hb, List.getLast?_eq_getElem?] at g2;exact h1 (W.length - 1 - 1) a b ha (by rw [show W.length - 1 - 1 + 1 = W.length - 1 by omega]; exact g2.symm)
  ·rename_i h;refine ⟨hpos, h1, fun a b ha hb => ?_⟩;by_cases hl : W.length = 1
   ·exact .inl hl
   ·right
    rcases h2 a ha with e | e
    ·exfalso
     refine h ⟨by omega, ?_⟩;rw [ha, hhead, e]
    ·rw [hhead] at hb;cases hb;exact e
 exact ⟨hfin.1, hfin.2.1, hfin.2.2, hmem⟩

def zhe (cs : List ze) (ks : List Bool) : Nat -> List ze
 | 0 => []
 | k + 1 => zhe cs ks k ++ (match cs[k]?, ks[k]? with | some c, some true => [c] | _, _ => [])
theorem keep_off {cs : List ze} {ks : List Bool} {k : Nat} (h : ks[k]? ≠ some true) : zhe cs ks (k + 1) = zhe cs ks k := by
 simp only [zhe];cases cs[k]? with
 | none => simp
 | some c => cases hq : ks[k]? with
  | none => simp
  | some b => cases b with
   | false => simp
   | true => exact absurd hq h
theorem keep_on {cs : List ze} {ks : List Bool} {k : Nat} {c : ze} (hc : cs[k]? = some c) (h : ks[k]? = some true) : zhe cs ks (k + 1) = zhe cs ks k ++ [c] := by
 simp only [zhe, hc, h]
theorem keep_app {cs : List ze} {ks : List Bool} {b : Bool} : ∀ k, k <= ks.length -> zhe cs (ks ++ [b]) k = zhe cs ks k
 | 0, _ => rfl
 | k + 1, h => by
  simp only [zhe];rw [keep_app k (by omega), List.getElem?_append_left (by omega)]
theorem tc_last (role : Int) (o : Option (List ze)) : tc (zdh role o) = clT o := by cases o <;> simp [zdh, clT, tc]
theorem pcS_flat {role : Int} {cs : List ze} {ks : List Bool} (hl : ks.length = cs.length) : ∀ k, k <= cs.length -> tc (pcS role cs ks k).1 ++ clT (pcS role cs ks k).2 = zhe cs ks k
 | 0, _ => rfl
 | k + 1, hk => by
  obtain ⟨c, hc⟩ := zak (show k < cs.length by omega);obtain ⟨b, hb⟩ := zak (show k < ks.length by omega);have ih := pcS_flat (role := role) (cs := cs) (ks := ks) hl k (by omega);cases b with
  | false => rw [pcS_off hb, keep_off (by rw [hb]; simp)]; exact ih
  | true =>
   rw [keep_on hc hb, <- ih];by_cases hn : k = 0 \/ ks[k - 1]? ≠ some true
   ·rw [zup hc hb hn];simp only [zgw, tc_last, clT]
   ·rw [pcS_on hc hb hn];have hn2 : k ≠ 0 /\ ks[k - 1]? = some true := ⟨fun e => hn (.inl e), Classical.byContradiction fun e => hn (.inr e)⟩
    obtain ⟨L, hL⟩ := pcS_some (role := role) (cs := cs) (ks := ks) (k := k) (by omega) hn2.1 hn2.2;simp only [hL, Option.map_some, clT, List.append_assoc]
theorem pcR_flat {role : Int} {cs : List ze} {ks : List Bool} (hl : ks.length = cs.length) : tc (pcR role cs ks) = zhe cs ks cs.length := by
 unfold pcR;rw [zgw, tc_last];exact pcS_flat hl cs.length (Nat.le_refl _)
theorem zgh {t : zm} (h : zap t = true) : (1 <= t.role /\ t.role <= 7) /\ (1 <= t.cells.length /\ t.cells.length <= 65536) /\ ∀ c ∈ t.cells, onG c = true := by
 simp only [zap, zhy, Bool.and_eq_true, decide_eq_true_eq] at h;refine ⟨by omega, by omega, fun c hc => ?_⟩;obtain ⟨j, hj⟩ := List.getElem?_of_mem hc;exact zkk h.1.2 (List.getElem?_eq_some_iff.1 hj).1 hj
theorem valid_nb {t : zm} (h : zap t = true) {j : Nat} {a b : ze} (ha : t.cells[j]? = some a) (hb : t.cells[j + 1]? = some b) : nbT a b = true := by
 simp only [zap, Bool.and_eq_true] at h;have h1 := List.all_eq_true.1 h.1.2 (j + 1) (List.mem_range.2 (List.getElem?_eq_some_iff.1 hb).1);rw [zri hb (by simpa using ha)] at h1;simp at h1;exact h1.2
theorem valid_mk {role : Int} {l : List ze} (hr : 1 <= role /\ role <= 7) (hp : 1 <= l.length) (hl : l.length <= 65536) (hon : ∀ c ∈ l, onG c = true) (hnb : zjh l) : zap ⟨role, false, l⟩ = true := by
 simp only [zap, zhy, zma, chain_ok hon hnb, Bool.and_true, Bool.true_or, Bool.not_false, Bool.and_eq_true, decide_eq_true_eq];omega
theorem chain8_one (c : ze) : zjh [c] := fun j a b ha hb => by
 have := (List.getElem?_eq_some_iff.1 hb).1;simp at this
theorem chain8_app {l : List ze} {c d : ze} (h : zjh l) (hl : l.getLast? = some d) (hn : nbT d c = true) : zjh (l ++ [c]) := by
 intro j a b ha hb;by_cases hj : j + 1 < l.length
 ·rw [List.getElem?_append_left (by omega)] at ha;rw [List.getElem?_append_left hj] at hb;exact h j a b ha hb
 ·have hlen := (List.getElem?_eq_some_iff.1 hb).1;rw [List.length_append, List.length_singleton] at hlen;have e : j + 1 = l.length := by omega
  rw [List.getElem?_append_right (by omega), e, Nat.sub_self] at hb;rw [List.getElem?_append_left (by omega)] at ha;have hbc : c = b := by simpa using hb
  have hgl : l.getLast? = some a := by rw [List.getLast?_eq_getElem?, <- ha]; congr 1; omega
  rw [hgl] at hl;cases hl;rw [<- hbc]; exact hn
theorem pcS_valid {role : Int} {cl : Bool} {cs : List ze} {ks : List Bool} (hl : ks.length = cs.length) (ht : zap ⟨role, cl, cs⟩ = true) : ∀ k, k <= cs.length -> (∀ t ∈ (pcS role cs ks k).1, zap t = true) /\ ∀ L, (pcS role cs ks k).2 = some L -> (1 <= L.length /\ (∀ c ∈ L, onG c = true) /\ zjh L) /\ (k ≠ 0 -> ks[k - 1]? = some true -> L.getLast? = cs[k - 1]?)
 | 0, _ => ⟨by simp [pcS], fun L h => by simp [pcS] at h⟩
 | k + 1, hk => by
  obtain ⟨hr, _, hon⟩ := zgh ht;simp only at hr hon;obtain ⟨c, hc⟩ := zak (show k < cs.length by omega);obtain ⟨b, hb⟩ := zak (show k < ks.length by omega);obtain ⟨h1, h2⟩ := pcS_valid (role := role) (cs := cs) (ks := ks) hl ht k (by omega);have hlen := zuq (role := role) (cs := cs) (ks := ks) k;have hcon := hon c (List.mem_of_getElem? hc);rw [Nat.add_sub_cancel];cases b with
  | false =>
   rw [pcS_off hb];exact ⟨h1, fun L hL => ⟨(h2 L hL).1, fun _ he => by rw [hb] at he; cases he⟩⟩
  | true =>
   have ht65 : cs.length <= 65536 := (zgh ht).2.1.2;by_cases hn : k = 0 \/ ks[k - 1]? ≠ some true
   ·rw [zup hc hb hn];refine ⟨fun t ht' => ?_, fun L hL => ?_⟩
    ·rcases List.mem_append.1 ht' with ht' | ht'
     ·exact h1 t ht'
     ·cases hq : (pcS role cs ks k).2 with
      | none => rw [hq] at ht'; simp [zdh] at ht'
      | some L =>
       rw [hq] at ht';simp only [zdh, List.mem_singleton] at ht';subst ht';obtain ⟨⟨a1, a2, a3⟩, _⟩ := h2 L hq;have := hlen.2 L hq;exact valid_mk hr a1 (by omega) a2 a3
    ·cases hL;refine ⟨⟨by simp, by simpa using hcon, chain8_one c⟩, fun _ _ => ?_⟩;rw [hc]; rfl
   ·rw [pcS_on hc hb hn];have hn2 : k ≠ 0 /\ ks[k - 1]? = some true := ⟨fun e => hn (.inl e), Classical.byContradiction fun e => hn (.inr e)⟩
    refine ⟨h1, fun L hL => ?_⟩;cases hq : (pcS role cs ks k).2 with
    | none => rw [hq] at hL; cases hL
    | some M =>
     rw [hq] at hL;cases hL;obtain ⟨⟨a1, a2, a3⟩, a4⟩ := h2 M hq;have hlast := a4 hn2.1 hn2.2;obtain ⟨d, hd⟩ := zak (show k - 1 < cs.length by omega);rw [hd] at hlast;have hnb : nbT d c = true := valid_nb ht (j := k - 1) hd (by rw [show k - 1 + 1 = k by omega]; exact hc);refine ⟨⟨by simp, fun x hx => ?_, chain8_app a3 hlast hnb⟩, fun _ _ => ?_⟩
     ·rcases List.mem_append.1 hx with hx | hx
      ·exact a2 x hx
      ·rw [List.mem_singleton.1 hx]; exact hcon
     ·rw [hc]; simp
theorem pcR_valid {role : Int} {cl : Bool} {cs : List ze} {ks : List Bool} (hl : ks.length = cs.length) (ht : zap ⟨role, cl, cs⟩ = true) : ∀ t ∈ pcR role cs ks, zap t = true := by
 intro t hm;obtain ⟨hr, hb, _⟩ := zgh ht;obtain ⟨h1, h2⟩ := pcS_valid hl ht cs.length (Nat.le_refl _);have hlen := zuq (role := role) (cs := cs) (ks := ks) cs.length;simp only at hb;rcases List.mem_append.1 hm with hm | hm
 ·exact h1 t hm
 ·cases hq : (pcS role cs ks cs.length).2 with
  | none => rw [hq] at hm; simp [zdh] at hm
  | some L =>
   rw [hq] at hm;simp only [zdh, List.mem_singleton] at hm;subst hm;obtain ⟨⟨a1, a2, a3⟩, _⟩ := h2 L hq;have := hlen.2 L hq;exact valid_mk hr a1 (by omega) a2 a3
theorem seen_put (M : zwl) (c d : ze) : zcl (zgj M c true) d = (decide (d = c) || zcl M d) := by
 unfold zcl;rw [zjw];by_cases h : d = c <;> simp [h]
theorem zsy {cs : List ze} {M : zwl} : ∀ k, k <= cs.length -> (∀ c, zcl (zeb cs M k).1 c = true ↔ zcl M c = true \/ c ∈ cs.take k) /\ (zhe cs (zeb cs M k).2 k).Nodup /\ (∀ c, c ∈ zhe cs (zeb cs M k).2 k ↔ c ∈ cs.take k /\ zcl M c = false) /\ (zeb cs M k).1.length <= M.length + k
 | 0, _ => ⟨fun c => by simp [zeb], by simp [zhe], fun c => by simp [zhe], Nat.le_refl _⟩
 | k + 1, hk => by
  obtain ⟨c, hc⟩ := zak (show k < cs.length by omega);obtain ⟨h1, h2, h3, h4⟩ := zsy (cs := cs) (M := M) k (by omega);have hl := zrd (cs := cs) (M := M) k (by omega);rw [znq hc, zbm hc];generalize zeb cs M k = S at *;obtain ⟨M2, ks⟩ := S;simp only at h1 h2 h3 h4 hl ⊢;have hb : (ks ++ [!zcl M2 c])[k]? = some (!zcl M2 c) := by rw [<- hl]; simp
  refine ⟨fun d => ?_, ?_⟩
  ·rw [seen_put, Bool.or_eq_true, decide_eq_true_eq, h1, List.mem_append, List.mem_singleton];constructor
   ·rintro (h | h | h)
    ·exact .inr (.inr h)
    ·exact .inl h
    ·exact .inr (.inl h)
   ·rintro (h | h | h)
    ·exact .inr (.inl h)
    ·exact .inr (.inr h)
    ·exact .inl h
  have hput : (zgj M2 c true).length <= M2.length + 1 := by
   unfold zgj;split
   ·simp
   ·simp
  cases hs : zcl M2 c with
  | true =>
   rw [hs] at hb;have hm := (h1 c).1 hs;rw [keep_off (by simp only [Bool.not_true] at hb ⊢; rw [hb]; simp), keep_app k (by omega)];refine ⟨h2, fun d => ?_, by omega⟩;rw [h3, List.mem_append, List.mem_singleton];constructor
   ·rintro ⟨g1, g2⟩; exact ⟨.inl g1, g2⟩
   ·rintro ⟨g1 | g1, g2⟩
    ·exact ⟨g1, g2⟩
    ·subst g1;rcases hm with hm | hm
     ·rw [hm] at g2; cases g2
     ·exact ⟨hm, g2⟩
  | false =>
   rw [hs] at hb;have hm : ¬ (zcl M c = true \/ c ∈ cs.take k) := fun h => by have := (h1 c).2 h; rw [hs] at this; cases this
   rw [keep_on hc (by simpa using hb), keep_app k (by omega)];refine ⟨?_, fun d => ?_, by omega⟩
   ·rw [List.nodup_append];refine ⟨h2, by simp, fun a ha b hb' => ?_⟩;rw [List.mem_singleton.1 hb'];rintro rfl;exact hm (.inr ((h3 a).1 ha).1)
   ·rw [List.mem_append, h3, List.mem_append, List.mem_singleton];constructor
    ·rintro (⟨g1, g2⟩ | rfl)
     ·exact ⟨.inl g1, g2⟩
     ·refine ⟨.inr rfl, ?_⟩;cases hq : zcl M d with
      | false => rfl
      | true => exact absurd (.inl hq) hm
    ·rintro ⟨g1 | g1, g2⟩
     ·exact .inl ⟨g1, g2⟩
     ·exact .inr g1
theorem scan_all {cs : List ze} {M : zwl} (hn : cs.Nodup) (hM : ∀ c ∈ cs, zcl M c = false) : ∀ k, k <= cs.length -> (zeb cs M k).2.all id = true
 | 0, _ => rfl
 | k + 1, hk => by
  obtain ⟨c, hc⟩ := zak (show k < cs.length by omega);have h1 := (zsy (cs := cs) (M := M) k (by omega)).1 c;have ih := scan_all hn hM k (by omega);rw [znq hc];have hs : zcl (zeb cs M k).1 c = false := by
   cases hq : zcl (zeb cs M k).1 c with
   | false => rfl
   | true =>
    rcases h1.1 hq with h | h
    ·rw [hM c (List.mem_of_getElem? hc)] at h; cases h
    ·obtain ⟨j, hj⟩ := List.getElem?_of_mem h;have hjk : j < k := by have := (List.getElem?_eq_some_iff.1 hj).1; simp at this; omega
     rw [List.getElem?_take_of_lt hjk] at hj;have hkl : k < cs.length := by omega
     have := (List.getElem?_inj (l := cs) (i := j) (j := k) (by omega) hn).1 (hj.trans hc.symm);omega
  simp [hs, ih]
theorem keep_all {cs : List ze} {ks : List Bool} (hl : ks.length = cs.length) (h : ks.all id = true) : ∀ k, k <= cs.length -> zhe cs ks k = cs.take k
 | 0, _ => by simp [zhe]
 | k + 1, hk => by
  obtain ⟨c, hc⟩ := zak (show k < cs.length by omega);obtain ⟨b, hb⟩ := zak (show k < ks.length by omega);have hbt := List.all_eq_true.1 h b (List.mem_of_getElem? hb);simp only [id] at hbt;subst hbt;rw [keep_on hc hb, keep_all hl h k (by omega), zbm hc]
theorem onceT_facts {t : zm} {ks : List Bool} (hl : ks.length = t.cells.length) (ht : zap t = true) : (∀ u ∈ onceT t ks, zap u = true) /\ tc (onceT t ks) = zhe t.cells ks t.cells.length /\ (onceT t ks).length <= t.cells.length := by
 obtain ⟨ro, cl, cs⟩ := t;have hp := (zgh ht).2.1;simp only at hl hp;unfold onceT;split
 ·rename_i h;refine ⟨by simpa using ht, ?_, by simp; omega⟩;simp only [tc, List.flatMap_cons, List.flatMap_nil, List.append_nil];rw [keep_all hl h cs.length (Nat.le_refl _), List.take_length]
 ·refine ⟨pcR_valid hl ht, pcR_flat hl, ?_⟩;have := zuq (role := ro) (cs := cs) (ks := ks) cs.length;simp only [pcR, List.length_append];omega
theorem zkj (l : List zm) : ∀ k, k <= l.length -> (∀ t ∈ (zck (l.take k)).1, zap t = true) /\ (tc (zck (l.take k)).1).Nodup /\ (∀ c, c ∈ tc (zck (l.take k)).1 ↔ zcl (zck (l.take k)).2 c = true) /\ (∀ c, zcl (zck (l.take k)).2 c = true ↔ c ∈ zcr (l.take k)) /\ (zck (l.take k)).1.length <= (zcr (l.take k)).length /\ (zck (l.take k)).2.length <= (zcr (l.take k)).length
 | 0, _ => ⟨by simp [zck], by simp [zck, tc], fun c => by simp [zck, tc, zcl, zdp], fun c => by simp [zck, zcl, zdp, zcr], by simp [zck], by simp [zck]⟩
 | k + 1, hk => by
  obtain ⟨t, ht⟩ := zak (show k < l.length by omega);obtain ⟨h1, h2, h3, h4, h5, h6⟩ := zkj l k (by omega);rw [ztf ht, ztu ht];generalize zck (l.take k) = S at *;generalize zcr (l.take k) = C at *;obtain ⟨out, M⟩ := S;simp only at h1 h2 h3 h4 h5 h6 ⊢;by_cases hv : zap t = true
  ·rw [if_pos hv, if_pos hv];obtain ⟨s1, s2, s3, s4⟩ := zsy (cs := t.cells) (M := M) t.cells.length (Nat.le_refl _);have hl := zrd (cs := t.cells) (M := M) t.cells.length (Nat.le_refl _);obtain ⟨o1, o2, o3⟩ := onceT_facts hl hv;rw [List.take_length] at s1 s3;simp only;generalize (zeb t.cells M t.cells.length).2 = ks at *;refine ⟨fun u hu => ?_, ?_, fun c => ?_, fun c => ?_, ?_, ?_⟩
   ·rcases List.mem_append.1 hu with hu | hu
    ·exact h1 u hu
    ·exact o1 u hu
   ·rw [zgw, o2, List.nodup_append];refine ⟨h2, s2, fun a ha b hb => ?_⟩;rintro rfl;have g1 := (h3 a).1 ha;have g2 := ((s3 a).1 hb).2;rw [g1] at g2; cases g2
   ·rw [zgw, o2, List.mem_append, h3, s3, s1];constructor
    ·rintro (h | ⟨h, _⟩)
     ·exact .inl h
     ·exact .inr h
    ·rintro (h | h)
     ·exact .inl h
     ·cases hq : zcl M c with
      | true => exact .inl rfl
      | false => exact .inr ⟨h, rfl⟩
   ·rw [s1, h4, List.mem_append]
   ·simp only [List.length_append]; omega
   ·simp only [List.length_append]; omega
  ·rw [if_neg hv, if_neg hv, List.append_nil];exact ⟨h1, h2, h3, h4, h5, h6⟩
theorem once_spec (l : List zm) : (∀ t ∈ (zck l).1, zap t = true) /\ (tc (zck l).1).Nodup /\ ∀ c, c ∈ tc (zck l).1 ↔ c ∈ zcr l := by
 have h := zkj l l.length (Nat.le_refl _);rw [List.take_length] at h;exact ⟨h.1, h.2.1, fun c => (h.2.2.1 c).trans (h.2.2.2.1 c)⟩
theorem zlp {l : List zm} (h : ∀ t ∈ l, zap t = true) : zcr l = tc l := by
 unfold zcr tc;rw [List.filter_eq_self.2 h]
theorem once_same {l : List zm} (hv : ∀ t ∈ l, zap t = true) (hn : (tc l).Nodup) : (zck l).1 = l := by
 have key : ∀ k, k <= l.length -> (zck (l.take k)).1 = l.take k := fun k => by
  induction k with
  | zero => intro _; simp [zck]
  | succ k ih =>
   intro hk;obtain ⟨t, ht⟩ := zak (show k < l.length by omega);have hvt := hv t (List.mem_of_getElem? ht);have hf := (zkj l k (by omega)).2.2.2.1;rw [zlp (fun t ht => hv t (List.mem_of_mem_take ht))] at hf;have hnt : (tc (l.take (k + 1))).Nodup := by
    have e : tc l = tc (l.take (k + 1)) ++ tc (l.drop (k + 1)) := by rw [<- zgw, List.take_append_drop]
    rw [e] at hn;exact (List.nodup_append.1 hn).1
   rw [zbm ht, zgw, List.nodup_append] at hnt;have htc : tc [t] = t.cells := by simp [tc]
   rw [htc] at hnt;have hall := scan_all (cs := t.cells) (M := (zck (l.take k)).2) hnt.2.1 (fun c hc => by
    cases hq : zcl (zck (l.take k)).2 c with
    | false => rfl
    | true => exact absurd rfl (hnt.2.2 c ((hf c).1 hq) c hc)) t.cells.length (Nat.le_refl _)
   rw [ztf ht, if_pos hvt, ih (by omega)];simp only [onceT, hall, if_true, zbm ht]
 have := key l.length (Nat.le_refl _)
 rwa [List.take_length] at this

abbrev zTrk (l : List ze) : zm := ⟨3, false, l⟩
def zNear (L l : List ze) : Bool := match L.getLast?, l[0]? with
 | some a, some b => nbT a b
 | _, _ => false
def zst (S : List zm × Option (List ze)) (l : List ze) : List zm × Option (List ze) := match S.2 with
 | none => (S.1, some l)
 | some L => if zNear L l then (S.1, some (L ++ l)) else (S.1 ++ [zTrk L], some l)
def zF (Z : List (List ze)) : List zm × Option (List ze) := Z.foldl zst ([], none)
def zR (S : List zm × Option (List ze)) : List zm := S.1 ++ zdh 3 S.2
def zsq (w : Row) : List (List ze) := if w.y % 2 = 0 then w.runs.map (zaa w.y) else w.runs.reverse.map fun r => (zaa w.y r).reverse
def zpb (X : List Row) : List (List ze) := X.flatMap zsq
def zigT (X : List Row) : List zm := zR (zF (zpb X))
theorem zF_app (Z : List (List ze)) (l : List ze) : zF (Z ++ [l]) = zst (zF Z) l := by simp [zF]
theorem zF_take {Z : List (List ze)} {k : Nat} {l : List ze} (h : Z[k]? = some l) : zF (Z.take (k + 1)) = zst (zF (Z.take k)) l := by rw [zbm h, zF_app]
theorem zst_tc (S : List zm × Option (List ze)) (l : List ze) : tc (zR (zst S l)) = tc (zR S) ++ l := by
 obtain ⟨P, o⟩ := S;cases o with
 | none => simp [zst, zR, zdh, tc]
 | some L =>
  simp only [zst];split
  ·simp [zR, zdh, tc]
  ·simp [zR, zdh, tc]
def Way (l : List ze) : Prop := l ≠ [] /\ zjh l /\ ∀ c ∈ l, onG c = true
theorem way_app {L l : List ze} (h1 : Way L) (h2 : Way l) (hn : zNear L l = true) : Way (L ++ l) := by
 refine ⟨by simp [h1.1], ?_, fun c hc => (List.mem_append.1 hc).elim (h1.2.2 c) (h2.2.2 c)⟩;intro j a b ha hb;by_cases q1 : j + 1 < L.length
 ·rw [List.getElem?_append_left (by omega)] at ha;rw [List.getElem?_append_left q1] at hb;exact h1.2.1 j a b ha hb
 ·by_cases q2 : j + 1 = L.length
  ·rw [List.getElem?_append_left (by omega)] at ha;rw [List.getElem?_append_right (by omega), q2, Nat.sub_self] at hb;have hl : L.getLast? = some a := by rw [List.getLast?_eq_getElem?, <- ha]; congr 1; omega
   simpa only [zNear, hl, hb] using hn
  ·rw [List.getElem?_append_right (by omega)] at ha;rw [List.getElem?_append_right (by omega), show j + 1 - L.length = (j - L.length) + 1 by omega] at hb;exact h2.2.1 _ a b ha hb
theorem way_valid {l : List ze} (h : Way l) (hl : l.length <= 65536) : zap (zTrk l) = true :=
 valid_mk (by omega) (by have := List.length_pos_iff.2 h.1; omega) hl h.2.2 h.2.1
theorem zF_facts (Z : List (List ze)) (hZ : ∀ l ∈ Z, Way l) (hn : Z.flatten.length <= 65536) : ∀ k, k <= Z.length -> tc (zR (zF (Z.take k))) = (Z.take k).flatten /\ (∀ t ∈ (zF (Z.take k)).1, zap t = true) /\ (∀ L, (zF (Z.take k)).2 = some L -> Way L) /\ (zF (Z.take k)).1.length + (zdh 3 (zF (Z.take k)).2).length <= k /\ ∀ L, (zF (Z.take k)).2 = some L -> L.length <= (Z.take k).flatten.length
 | 0, _ => by simp [zF, zR, zdh, tc]
 | k + 1, hk => by
  obtain ⟨l, hl⟩ := zak (show k < Z.length by omega);obtain ⟨h1, h2, h3, h4, h5⟩ := zF_facts Z hZ hn k (by omega);have hw := hZ l (List.mem_of_getElem? hl);have hfl : (Z.take (k + 1)).flatten = (Z.take k).flatten ++ l := by rw [zbm hl]; simp
  have hle : ((Z.take k).flatten).length + l.length <= 65536 := by
   have : Z.flatten = (Z.take (k + 1)).flatten ++ (Z.drop (k + 1)).flatten := by rw [<- List.flatten_append, List.take_append_drop]
   rw [this, hfl] at hn;simp only [List.length_append] at hn;omega
  rw [zF_take hl, zst_tc, h1, hfl];generalize zF (Z.take k) = S at *;obtain ⟨P, o⟩ := S;simp only at h2 h3 h4 h5;refine ⟨rfl, ?_⟩;cases o with
  | none =>
   simp only [zst];refine ⟨h2, fun L hL => by cases hL; exact hw, ?_, fun L hL => by cases hL; simp⟩;simp [zdh] at h4 ⊢;omega
  | some L =>
   have hwL := h3 L rfl;have hlL := h5 L rfl;simp only [zst];split
   ·rename_i hnr;refine ⟨h2, fun M hM => by cases hM; exact way_app hwL hw hnr, ?_, fun M hM => by cases hM; rw [List.length_append, List.length_append]; omega⟩;simp [zdh] at h4 ⊢;omega
   ·refine ⟨fun t ht => ?_, fun M hM => by cases hM; exact hw, ?_, fun M hM => by cases hM; simp⟩
    ·rcases List.mem_append.1 ht with ht | ht
     ·exact h2 t ht
     ·rw [List.mem_singleton.1 ht]; exact way_valid hwL (by omega)
    ·simp [zdh] at h4 ⊢;omega
theorem zR_valid {Z : List (List ze)} (hZ : ∀ l ∈ Z, Way l) (hn : Z.flatten.length <= 65536) : (∀ t ∈ zR (zF Z), zap t = true) /\ tc (zR (zF Z)) = Z.flatten /\ (zR (zF Z)).length <= Z.length := by
 obtain ⟨h1, h2, h3, h4, h5⟩ := zF_facts Z hZ hn Z.length (Nat.le_refl _);rw [List.take_length] at h1 h2 h3 h4 h5;refine ⟨fun t ht => ?_, h1, by rw [zR, List.length_append]; exact h4⟩;rcases List.mem_append.1 ht with ht | ht
 ·exact h2 t ht
 ·cases hq : (zF Z).2 with
  | none => rw [hq] at ht; simp [zdh] at ht
  | some L =>
   rw [hq] at ht;simp only [zdh, List.mem_singleton] at ht;subst ht;exact way_valid (h3 L hq) (by have := h5 L hq; omega)
theorem run_way {y : Int} {r : Run} (hr : r.a < r.b) (hon : ∀ c ∈ zaa y r, onG c = true) : Way (zaa y r) /\ Way (zaa y r).reverse := by
 have hl := zbr y r;have hne : zaa y r ≠ [] := fun h => by rw [h] at hl; simp at hl; omega
 have key : ∀ j a b, (zaa y r)[j]? = some a -> (zaa y r)[j + 1]? = some b -> a = ⟨r.a + j, y⟩ /\ b = ⟨r.a + (j + 1 : Nat), y⟩ := fun j a b ha hb => by
  have h1 := (List.getElem?_eq_some_iff.1 hb).1;rw [hl] at h1;rw [zgy y r (by omega)] at ha;rw [zgy y r h1] at hb;exact ⟨(Option.some.inj ha).symm, (Option.some.inj hb).symm⟩
 refine ⟨⟨hne, fun j a b ha hb => ?_, hon⟩, by simpa using hne, fun j a b ha hb => ?_, fun c hc => hon c (List.mem_reverse.1 hc)⟩
 ·obtain ⟨rfl, rfl⟩ := key j a b ha hb;simp only [nbT, zwf, beq_iff_eq];omega
 ·have h1 := (List.getElem?_eq_some_iff.1 hb).1;rw [List.length_reverse] at h1;rw [List.getElem?_reverse (by omega)] at ha;rw [List.getElem?_reverse h1] at hb;obtain ⟨rfl, rfl⟩ := key ((zaa y r).length - 1 - (j + 1)) b a hb (by rw [<- ha]; congr 1; omega);simp only [nbT, zwf, beq_iff_eq];omega
theorem zrow_perm (w : Row) : (zsq w).flatten.Perm (zcj w) := by
 unfold zsq zcj;split
 ·rw [<- List.flatMap_def]
 ·have h : ∀ l : List Run, ((l.reverse.map fun r => (zaa w.y r).reverse).flatten).Perm (l.flatMap (zaa w.y)) := fun l => by
   induction l with
   | nil => simp
   | cons r l ih =>
    simp only [List.reverse_cons, List.map_append, List.flatten_append, List.map_cons, List.map_nil, List.flatten_cons, List.flatten_nil, List.append_nil, List.flatMap_cons];exact (List.perm_append_comm).trans ((List.reverse_perm _).append ih)
  exact h w.runs
theorem zall_perm : ∀ X : List Row, (zpb X).flatten.Perm (zk X)
 | [] => by simp [zpb, zk]
 | w :: X => by
  have h1 : (zpb (w :: X)).flatten = (zsq w).flatten ++ (zpb X).flatten := by simp [zpb]
  have h2 : zk (w :: X) = zcj w ++ zk X := by simp [zk]
  rw [h1, h2];exact (zrow_perm w).append (zall_perm X)
theorem zall_way {X : List Row} (hv : zo X = true) : ∀ l ∈ zpb X, Way l := by
 intro l hl;obtain ⟨w, hw, hl⟩ := List.mem_flatMap.1 hl;have hon : ∀ r ∈ w.runs, r.a < r.b /\ ∀ c ∈ zaa w.y r, onG c = true := fun r hr => by
  obtain ⟨i, hi⟩ := List.getElem?_of_mem hw;obtain ⟨j, hj⟩ := List.getElem?_of_mem hr;refine ⟨(zhh (zcq hv hi).2 hj).2.1, fun c hc => zeg hv (List.mem_flatMap.2 ⟨w, hw, List.mem_flatMap.2 ⟨r, hr, hc⟩⟩)⟩
 unfold zsq at hl;split at hl
 ·obtain ⟨r, hr, rfl⟩ := List.mem_map.1 hl;exact (run_way (hon r hr).1 (hon r hr).2).1
 ·obtain ⟨r, hr, rfl⟩ := List.mem_map.1 hl;have hr := List.mem_reverse.1 hr;exact (run_way (hon r hr).1 (hon r hr).2).2
theorem zig_facts {X : List Row} (hv : zo X = true) (hn : (zk X).length <= 65536) : (∀ t ∈ zigT X, zap t = true) /\ (tc (zigT X)).Nodup /\ (∀ c, c ∈ tc (zigT X) ↔ c ∈ zk X) /\ (tc (zigT X)).length = (zk X).length := by
 have hp := zall_perm X;obtain ⟨h1, h2, _⟩ := zR_valid (zall_way hv) (by rw [hp.length_eq]; exact hn);have h2 : tc (zigT X) = (zpb X).flatten := h2;refine ⟨h1, ?_, fun c => ?_, ?_⟩
 ·rw [h2]; exact hp.nodup_iff.2 (zca (zge hv))
 ·rw [h2]; exact hp.mem_iff
 ·rw [h2]; exact hp.length_eq
def off (X : List Row) (k : Nat) : Nat := ((X.take k).flatMap zsq).length
theorem zrow_len (w : Row) : (zsq w).length = w.runs.length := by unfold zsq; split <;> simp
theorem off_zero (X : List Row) : off X 0 = 0 := by simp [off]
theorem off_next {X : List Row} {k : Nat} {w : Row} (hw : X[k]? = some w) : off X (k + 1) = off X k + w.runs.length := by
 unfold off; rw [zdr zsq hw, List.length_append, zrow_len]
theorem off_all (X : List Row) : off X X.length = (zpb X).length := by simp [off, zpb]
theorem off_get {X : List Row} {k j : Nat} {w : Row} {l : List ze} (hw : X[k]? = some w) (hl : (zsq w)[j]? = some l) : (zpb X)[off X k + j]? = some l := by
 unfold zpb off;rw [ztp zsq hw, List.append_assoc, List.getElem?_append_right (by omega), Nat.add_sub_cancel_left, List.getElem?_append_left (List.getElem?_eq_some_iff.1 hl).1];exact hl
theorem zstep_cases {Z : List (List ze)} (hZ : ∀ l ∈ Z, Way l) (hn : Z.flatten.length <= 60000) (hz : Z.length <= 60000) {K : Nat} {l : List ze} (hl : Z[K]? = some l) :
  (zF (Z.take K) = ([], none) /\ zF (Z.take (K + 1)) = ([], some l)) \/ ∃ P L a b, zF (Z.take K) = (P, some L) /\ L.getLast? = some a /\ l[0]? = some b /\ onG a = true /\ onG b = true /\ P.length <= 60000 /\ L.length + l.length <= 60000 /\ ((nbT a b = true /\ zF (Z.take (K + 1)) = (P, some (L ++ l))) \/ (nbT a b = false /\ zF (Z.take (K + 1)) = (P ++ [zTrk L], some l))) := by
 have hK := (List.getElem?_eq_some_iff.1 hl).1;have hw := hZ l (List.mem_of_getElem? hl);obtain ⟨h1, h2, h3, h4, h5⟩ := zF_facts Z hZ (by omega) K (by omega);have hle : ((Z.take K).flatten).length + l.length <= 60000 := by
  have e : Z.flatten = (Z.take (K + 1)).flatten ++ (Z.drop (K + 1)).flatten := by rw [<- List.flatten_append, List.take_append_drop]
  have hfl : (Z.take (K + 1)).flatten = (Z.take K).flatten ++ l := by rw [zbm hl]; simp
  rw [e, hfl] at hn;simp only [List.length_append] at hn;omega
 rw [zF_take hl];cases K with
 | zero => left; simp [zF, zst]
 | succ K =>
  right
  obtain ⟨l0, hl0⟩ := zak (show K < Z.length by omega);have hs : ∃ L, (zF (Z.take (K + 1))).2 = some L := by
   rw [zF_take hl0];unfold zst;split
   ·exact ⟨_, rfl⟩
   ·split <;> exact ⟨_, rfl⟩
  generalize zF (Z.take (K + 1)) = S at *;obtain ⟨P, o⟩ := S;obtain ⟨L, rfl⟩ := hs;have hwL := h3 L rfl;have hlL := h5 L rfl;obtain ⟨a, ha⟩ : ∃ a, L.getLast? = some a := by
   cases hq : L.getLast? with
   | none => exact absurd (List.getLast?_eq_none_iff.1 hq) hwL.1
   | some a => exact ⟨a, rfl⟩
  obtain ⟨b, hb⟩ := zak (show 0 < l.length from List.length_pos_iff.2 hw.1);refine ⟨P, L, a, b, rfl, ha, hb, hwL.2.2 a (List.mem_of_getLast? ha), hw.2.2 b (List.mem_of_getElem? hb), by simp only at h4; omega, by omega, ?_⟩;have e : zNear L l = nbT a b := by simp only [zNear, ha, hb]
  simp only [zst, e];cases hq : nbT a b with
  | true => left; simp
  | false => right; simp

abbrev zfy (n : Nat) : Ob := ⟨97, 1, [[.hs 1 0 n]]⟩
abbrev zls (n : Nat) : List AV := [.d (.int .i64 3), .d (.bool false), .hs 2 0 n]
set_option maxHeartbeats 4000000 in
theorem runA_px (l : List ze) : PX Tryz.prog 72 [.ptr 0 0 0, .hs 2 0 l.length] [(0, zfy 0), (1, ⟨94, 3, []⟩), (2, ⟨67, 2, dr (l.map ze.row)⟩)] [(0, 0), (2, 2)] [(0, zfy 1), (1, ⟨94, 3, [zls l.length]⟩), (2, ⟨67, 2, dr (l.map ze.row)⟩)] (.tup []) := by
 have w1 := wI (-1);refine zbv cx (fn := Tryz.f72) (c := _) 3 Tryz.func72 rfl rfl (lB rfl) rfl rfl fun Ls => ?_;rw [Tryz.ntmps72]; refine Nav.imp ?_;refine rx cx [] (fun K hK => by simp [push_cast, w1]; (repeat refine ob ?_); exact hK) ?_;refine rg cx ?_;refine awp_cd false (fun hb => ?_) fun hb => ?_
 ·simp at hb
 ·refine rg cx ?_;first | refine znr [(0, 0), (1, 18), (2, 2)] ?_ | refine zns [(0, 0), (1, 18), (2, 2)] ?_
  simp [push_cast];try decide
set_option maxHeartbeats 8000000 in
theorem runB_px (P : List zm) (L l : List ze) (a b : ze) (ha : L.getLast? = some a) (hfs : l[0]? = some b) (oa : onG a = true) (og : onG b = true) (hn : nbT a b = true) (hP : P.length <= 100000) (hL : L.length + l.length <= 65536) : PX Tryz.prog 72 [.ptr 0 0 0, .hs 3 0 l.length] [(0, zfy (P.length + 1)), (1, ⟨94, 3, dr (P.map zm.row) ++ [zls L.length]⟩), (2, ⟨67, 2, dr (L.map ze.row)⟩), (3, ⟨67, 2, dr (l.map ze.row)⟩)] [(0, 0), (1, 1)] [(0, zfy (P.length + 1)), (1, ⟨94, 3, dr (P.map zm.row) ++ [zls (L ++ l).length]⟩), (2, ⟨67, 2, dr ((L ++ l).map ze.row)⟩)] (.tup []) := by
 have c1 := hnear_ok oa og;rw [hn] at c1;rw [List.getLast?_eq_getElem?] at ha;have hlp : 0 < L.length := by have := (List.getElem?_eq_some_iff.1 ha).1; omega
 have hl0 : 0 < l.length := (List.getElem?_eq_some_iff.1 hfs).1;have w1 := wI ((P.length : Int));have w2 := wI ((L.length : Int) - 1);have e2 : ((L.length : Int) - 1) = ((L.length - 1 : Nat) : Int) := by omega
 rw [e2] at w2;have hjl : L.length - 1 < L.length := by omega
 have w3 := wI ((L.length : Int) + l.length);have e4 : (L.length : Int) + l.length <= 65536 := by omega
 have h16 : (L.length + l.length) * 16 <= 140737488355328 := by omega
 have hget : (dr (P.map zm.row) ++ [zls L.length])[P.length]? = some (zls L.length) := by
  rw [List.getElem?_append_right (by simp [dr])]; simp [dr]
 have hset : ∀ v, (dr (P.map zm.row) ++ [zls L.length]).set P.length v = dr (P.map zm.row) ++ [v] := fun v => by
  rw [List.set_append_right _ _ (by simp [dr])]; simp [dr]
 simp only [zls] at hget hset;obtain ⟨ax, ay⟩ := a;obtain ⟨bx, bz⟩ := b;simp only [ze.row] at c1;generalize hj : L.length - 1 = j at *;refine zbv cx (fn := Tryz.f72) (c := _) 4 Tryz.func72 rfl rfl (lB rfl) rfl rfl fun Ls => ?_;rw [Tryz.ntmps72]; refine Nav.imp ?_;refine rx cx [] (fun K hK => by simp [push_cast, w1]; (repeat refine ob ?_); exact hK) ?_;refine rg cx ?_;refine awp_cd true (fun hb => ?_) fun hb => ?_
 ·refine rx cx [] (fun K hK => by simp [push_cast, hget]; (repeat refine ob ?_); exact hK) ?_;refine rd cx mixed [(15, .p (.bool true))] (fun K hK => by simp [push_cast, hget, ha, hfs, c1, w2, e2, w3, e4]; (repeat refine ob ?_); exact hK) ?_;refine awp_cd true (fun hb => ?_) fun hb => ?_
  ·refine rx cx [] (fun K hK => by simp [push_cast, hget, hset, h16]; (repeat refine ob ?_); exact hK) ?_;first | refine znr [(0, 0), (1, 1), (2, 51)] ?_ | refine zns [(0, 0), (1, 1), (2, 51)] ?_
   simp [push_cast];try decide
  ·simp at hb
 ·simp at hb
theorem hset_last (P : List zm) (v w : List AV) : (dr (P.map zm.row) ++ [v])[P.length]? = some v /\ (dr (P.map zm.row) ++ [v]).set P.length w = dr (P.map zm.row) ++ [w] := by
 refine ⟨?_, ?_⟩
 ·rw [List.getElem?_append_right (by simp [dr])]; simp [dr]
 ·rw [List.set_append_right _ _ (by simp [dr])]; simp [dr]
set_option maxHeartbeats 8000000 in
theorem runC_px (P : List zm) (L l : List ze) (a b : ze) (ha : L.getLast? = some a) (hfs : l[0]? = some b) (oa : onG a = true) (og : onG b = true) (hn : nbT a b = false) (hP : P.length <= 100000) (hL : L.length + l.length <= 65536) : PX Tryz.prog 72 [.ptr 0 0 0, .hs 3 0 l.length] [(0, zfy (P.length + 1)), (1, ⟨94, 3, dr (P.map zm.row) ++ [zls L.length]⟩), (2, ⟨67, 2, dr (L.map ze.row)⟩), (3, ⟨67, 2, dr (l.map ze.row)⟩)] [(0, 0), (3, 2)] [(0, zfy ((P ++ [zTrk L]).length + 1)), (1, ⟨94, 3, dr ((P ++ [zTrk L]).map zm.row) ++ [zls l.length]⟩), (2, ⟨67, 2, dr (l.map ze.row)⟩)] (.tup []) := by
 have c1 := hnear_ok oa og;rw [hn] at c1;rw [List.getLast?_eq_getElem?] at ha;have hlp : 0 < L.length := by have := (List.getElem?_eq_some_iff.1 ha).1; omega
 have hl0 : 0 < l.length := (List.getElem?_eq_some_iff.1 hfs).1;have w1 := wI ((P.length : Int));have w2 := wI ((L.length : Int) - 1);have e2 : ((L.length : Int) - 1) = ((L.length - 1 : Nat) : Int) := by omega
 rw [e2] at w2;have hjl : L.length - 1 < L.length := by omega
 obtain ⟨hget, _⟩ := hset_last P (zls L.length) [];obtain ⟨A, hA⟩ : ∃ A, A = P ++ [zTrk L] := ⟨_, rfl⟩
 have hfold : dr (P.map zm.row) ++ [[AV.d (.int .i64 3), AV.d (.bool false), AV.d (.sl (L.map ze.row))]] = dr (A.map zm.row) := by rw [hA]; simp [dr, zm.row]
 have hAl : P.length + 1 = A.length := by rw [hA]; simp
 have hA40 : (A.length + 1) * 40 <= 140737488355328 := by omega
 rw [<- hA];simp only [zls] at hget;obtain ⟨ax, ay⟩ := a;obtain ⟨bx, bz⟩ := b;simp only [ze.row] at c1;generalize hj : L.length - 1 = j at *;refine zbv cx (fn := Tryz.f72) (c := _) 4 Tryz.func72 rfl rfl (lB rfl) rfl rfl fun Ls => ?_;rw [Tryz.ntmps72]; refine Nav.imp ?_;refine rx cx [] (fun K hK => by simp [push_cast, w1]; (repeat refine ob ?_); exact hK) ?_;refine rg cx ?_;refine awp_cd true (fun hb => ?_) fun hb => ?_
 ·refine rx cx [] (fun K hK => by simp [push_cast, hget]; (repeat refine ob ?_); exact hK) ?_;refine rd cx mixed [(15, .p (.bool false))] (fun K hK => by simp [push_cast, hget, ha, hfs, c1, w2, e2]; (repeat refine ob ?_); exact hK) ?_;refine awp_cd false (fun hb => ?_) fun hb => ?_
  ·simp at hb
  ·refine zaf 2 (L.map ze.row) rfl (by simp [push_cast, hfold]) fun K hK => ?_;simp [push_cast, St.fz, fzT, fzH, fzO, fz, fzL, fzR, zbc, zat, zas, zaq, hfold];refine nx hK ?_; clear hK K;rw [hAl];clear hA hfold hget;refine rx cx [] (fun K hK => by simp [push_cast, hA40]; (repeat refine ob ?_); exact hK) ?_;first | refine znr [(0, 0), (1, 52), (2, 3)] ?_ | refine zns [(0, 0), (1, 52), (2, 3)] ?_
   simp [push_cast];try decide
 ·simp at hb

theorem zrow_even {w : Row} (h : w.y % 2 = 0) {j : Nat} {r : Run} (hr : w.runs[j]? = some r) : (zsq w)[j]? = some (zaa w.y r) := by
 unfold zsq; rw [if_pos h, List.getElem?_map, hr]; rfl
theorem zrow_odd {w : Row} (h : ¬ w.y % 2 = 0) {j : Nat} {r : Run} (hj : j < w.runs.length) (hr : w.runs[w.runs.length - 1 - j]? = some r) : (zsq w)[j]? = some (zaa w.y r).reverse := by
 unfold zsq; rw [if_neg h, List.getElem?_map, List.getElem?_reverse hj, hr]; rfl
theorem keeps_of {n : Nat} {tm : List (Nat × AV)} {obj : Nat -> Option Ob} (h : ∀ q ∈ tm, match q.2 with
  | .any => True
  | .d _ => True
  | .pin _ _ => n <= q.1
  | .ptr id _ _ => ∃ pn L, find tm pn = some (.pin id L) /\ (obj id).isSome = true
  | _ => False) : Keeps n tm obj := by
 intro x;have hf : ∀ (l : List (Nat × AV)) v, find l x = some v -> (x, v) ∈ l := fun l v => by
  induction l with
  | nil => intro h; simp [find] at h
  | cons q l ih =>
   intro h;obtain ⟨y, u⟩ := q;simp only [find] at h;split at h
   ·rename_i e; cases h; subst e; simp
   ·exact List.mem_cons_of_mem _ (ih h)
 cases hx : find tm x with
 | none => trivial
 | some v =>
  have := h _ (hf tm v hx);cases v <;> exact this
set_option maxHeartbeats 16000000 in
theorem zigzag_ok (X : List Row) (hv : zo X = true) (hn : (zk X).length <= 300) : PC Tryz.prog 23 [.agg (zt X)] (.p (zah (zigT X))) := by
 have hX := zce hv;have c0 := zpj X hX;rw [hv] at c0;have hperm := (zall_perm X).length_eq;have hway := zall_way hv;have hzl : (zpb X).length <= 60000 := by
  have : ∀ Z : List (List ze), (∀ l ∈ Z, Way l) -> Z.length <= Z.flatten.length := fun Z => by
   induction Z with
   | nil => intro _; simp
   | cons l Z ih =>
    intro h;have h1 := ih fun m hm => h m (by simp [hm]);have h2 := List.length_pos_iff.2 (h l (by simp)).1;rw [List.length_cons, List.flatten_cons, List.length_append];omega
  have := this _ hway;omega
 have hcase := fun K l => @zstep_cases (zpb X) hway (by omega) hzl K l;have hoff0 := off_zero X;have hoffN := fun k w => @off_next X k w;have hoffG := fun k j w l => @off_get X k j w l;have hrow : ∀ (k : Nat) (w : Row), X[k]? = some w -> (-4096 <= w.y /\ w.y < 4096) /\ w.runs.length <= 1000000 /\ ∀ (j : Nat) (r : Run), w.runs[j]? = some r -> -4096 <= r.a /\ r.a < r.b /\ r.b <= 4096 := fun k w hw => ⟨(zcq hv hw).1, hX.2 w (List.mem_of_getElem? hw), fun j r hr => zhh (zcq hv hw).2 hr⟩
 have hlen := hX.1;have hzT : zigT X = zR (zF ((zpb X).take (off X X.length))) := by rw [off_all, List.take_length]; rfl
 have hend := (zR_valid hway (by omega)).2.2;have hz0 : zF ((zpb X).take 0) = ([], none) := rfl;rw [hzT];have hend2 : (zR (zF ((zpb X).take (off X X.length)))).length <= 60000 := by rw [off_all, List.take_length]; omega
 generalize off X = OF at *;generalize zpb X = Z at *;generalize hZF : (fun K => zF (Z.take K)) = ZF at *;have hZFe : ∀ K, zF (Z.take K) = ZF K := fun K => congrFun hZF K;simp only [hZFe] at hcase hz0 hend2 ⊢;clear hZF hZFe hzT hend hperm hway hzl hX hv;refine pc_of_awn cx (fn := Tryz.f23) (c := _) Tryz.func23 rfl rfl (lB rfl) fun gM wM => ?_;rw [Tryz.ntmps23]; refine Nav.imp ?_;refine zbd cx [] rfl fun K hK => ?_;simp [push_cast]
 repeat refine ob ?_
 refine hK _ ?_; clear hK K; (try dsimp only); refine Nav.imp ?_;refine zbd cx [(1, .p (.bool true))] rfl fun K hK => ?_;simp [push_cast, c0]
 repeat refine ob ?_
 refine hK _ ?_; clear hK K; (try dsimp only); refine Nav.imp ?_;refine zwj (b := false) (by simp [push_cast]) (fun hb => ?_) (fun hb => ?_) <;> (refine Nav.imp ?_)
 ·simp at hb
 ·refine zbd cx [] rfl fun K hK => ?_;simp [push_cast]
  repeat refine ob ?_
  refine hK _ ?_; clear hK K; (try dsimp only); refine Nav.imp ?_;refine zbd cx [] rfl fun K hK => ?_;simp [push_cast]
  repeat refine ob ?_
  refine hK _ ?_; clear hK K; (try dsimp only); refine Nav.imp ?_;refine awn_loop (β := Nat) (fun k => ⟨53, [(3, .ptr 0 0 0), (15, .d (zu X)), (16, .d (.int .i64 X.length)), (17, .d (.int .i64 k))], [(0, some (zfy ((ZF (OF k)).1.length + (tlT 3 (ZF (OF k)).2).length))), (1, some ⟨94, 3, dr ((ZF (OF k)).1.map zm.row) ++ tlT 3 (ZF (OF k)).2⟩), (2, some ⟨67, 2, dr ((clT (ZF (OF k)).2).map ze.row)⟩)], 3⟩) (fun k => k <= X.length) (fun k => X.length - k) 0 ?_ (Nat.zero_le _) ?_
  ·refine wq [(0, some 5), (1, none), (2, none)] (by simp [upT, upH, upR, upL, up, push_cast, hoff0, hz0, tlT, clT])
  ·intro k hk;refine Nav.imp ?_;refine zbd cx [] rfl fun K hK => ?_;simp [push_cast]
   repeat refine ob ?_
   refine hK _ ?_; clear hK K; (try dsimp only); refine Nav.imp ?_;refine zwj (b := decide ((k : Int) < X.length)) (by simp [push_cast]) (fun hb => ?_) (fun hb => ?_) <;> (refine Nav.imp ?_)
   ·have hlt : k < X.length := by simpa using hb
    obtain ⟨w, hw⟩ := zak hlt;obtain ⟨hwy, hwl, hwr⟩ := hrow k w hw;have hNx := hoffN k w hw;have hG := fun j l => hoffG k j w l hw;have ek := wI ((k : Int) + 1);have cr := hrest_ok w.y (by omega);have hze := @zrow_even w;have hzo := @zrow_odd w;obtain ⟨wy, wr⟩ := w;simp only at hwy hwl hwr hNx cr hze hzo;generalize hO : OF k = O at *;refine zbd cx [] rfl fun K hK => ?_;simp [push_cast, hw]
    repeat refine ob ?_
    refine hK _ ?_; clear hK K; (try dsimp only); refine Nav.imp ?_;refine zbd cx [(2, .p (.int .i64 (wy % 2)))] rfl fun K hK => ?_;simp [push_cast, cr]
    repeat refine ob ?_
    refine hK _ ?_; clear hK K; (try dsimp only); refine Nav.imp ?_;refine zwj (b := wy % 2 == 0) (by simp [push_cast]) (fun hb => ?_) (fun hb => ?_) <;> (refine Nav.imp ?_)
    ·have hev : wy % 2 = 0 := by simpa using hb
     refine zbd cx [] rfl fun K hK => ?_;simp [push_cast]
     repeat refine ob ?_
     refine hK _ ?_; clear hK K; (try dsimp only); refine Nav.imp ?_;refine awn_loop (β := Nat) (fun j => ⟨53, [(5, .ptr 3 0 0), (26, .d (zn wr)), (27, .d (.int .i64 wr.length)), (28, .d (.int .i64 j)), (3, .ptr 0 0 0), (15, .d (zu X)), (16, .d (.int .i64 X.length)), (17, .d (.int .i64 k))], [(0, some (zfy ((ZF (O + j)).1.length + (tlT 3 (ZF (O + j)).2).length))), (1, some ⟨94, 3, dr ((ZF (O + j)).1.map zm.row) ++ tlT 3 (ZF (O + j)).2⟩), (2, some ⟨67, 2, dr ((clT (ZF (O + j)).2).map ze.row)⟩), (3, some ⟨65, 2, [[.d (.int .i64 wy), .d (zn wr)]]⟩)], 4⟩) (fun j => j <= wr.length) (fun j => wr.length - j) 0 ?_ (Nat.zero_le _) ?_
     ·simp only [Nat.add_zero];generalize ZF O = q0;obtain ⟨P0, _ | L0⟩ := q0 <;> simp only [tlT, clT]
      ·refine wk [(0, some 0), (1, some 1), (2, some 2), (3, some 6)]
      ·refine wk [(0, some 0), (1, some 1), (2, some 2), (3, some 6)]
     ·intro j hj;refine Nav.imp ?_;refine zbd cx [] rfl fun K hK => ?_;simp [push_cast]
      repeat refine ob ?_
      refine hK _ ?_; clear hK K; (try dsimp only); refine Nav.imp ?_;refine zwj (b := decide ((j : Int) < wr.length)) (by simp [push_cast]) (fun hb => ?_) (fun hb => ?_) <;> (refine Nav.imp ?_)
      ·have hlj : j < wr.length := by simpa using hb
       obtain ⟨r, hr⟩ := zak hlj;obtain ⟨r1, r2, r3⟩ := hwr j r hr;have cl := hline_ok wy r (by omega);have hZl := hcase (O + j) _ (hG j _ (hze hev hr));have ej := wI ((j : Int) + 1);have eO : O + (j + 1) = O + j + 1 := by omega
       obtain ⟨ra, rb⟩ := r;generalize zaa wy ⟨ra, rb⟩ = l at *;generalize hq1 : ZF (O + j) = q1 at *;generalize hq2 : ZF (O + j + 1) = q2 at *;refine zbd cx [] rfl fun K hK => ?_;simp [push_cast, hr]
       repeat refine ob ?_
       refine hK _ ?_; clear hK K; (try dsimp only); refine Nav.imp ?_;rcases hZl with ⟨rfl, rfl⟩ | ⟨P, L, a, b, rfl, ha, hfs, oa, og, hP, hL, ⟨hnb, e2⟩ | ⟨hnb, e2⟩⟩
       ·have cz := runA_px l;refine zbd cx [(3, .o 67 2 (l.map ze.row)), (4, .x ⟨[(0, 0), (1, 1), (2, 12)], [.ptr 0 0 0, .hs 2 0 l.length], [(0, zfy 0), (1, ⟨94, 3, []⟩), (2, ⟨67, 2, dr (l.map ze.row)⟩)], [(0, 0), (2, 2)], some 1, [(0, zfy 1), (1, ⟨94, 3, [zls l.length]⟩), (2, ⟨67, 2, dr (l.map ze.row)⟩)], .tup []⟩)] rfl fun K hK => ?_;simp [push_cast, cl, cz, tlT, clT]
        repeat refine ob ?_
        refine hK _ ?_; clear hK K; (try dsimp only); refine Nav.imp ?_;refine zbd cx [] rfl fun K hK => ?_;simp [push_cast, ej]
        repeat refine ob ?_
        refine hK _ ?_; clear hK K; (try dsimp only); refine Nav.imp ?_;refine ⟨j + 1, hlj, by omega, ?_⟩;rw [eO, hq2];refine wq [(0, some 0), (1, some 13), (2, some 12), (3, some 3)] (by simp [upT, upH, upR, upL, up, push_cast, tlT, clT])
       ·have cz := runB_px P L l a b ha hfs oa og hnb (by omega) (by omega);obtain ⟨M, hM⟩ : ∃ M, M = L ++ l := ⟨_, rfl⟩
        rw [<- hM] at cz e2;subst e2;refine zbd cx [(3, .o 67 2 (l.map ze.row)), (4, .x ⟨[(0, 0), (1, 1), (2, 2), (3, 12)], [.ptr 0 0 0, .hs 3 0 l.length], [(0, zfy (P.length + 1)), (1, ⟨94, 3, dr (P.map zm.row) ++ [zls L.length]⟩), (2, ⟨67, 2, dr (L.map ze.row)⟩), (3, ⟨67, 2, dr (l.map ze.row)⟩)], [(0, 0), (1, 1)], some 2, [(0, zfy (P.length + 1)), (1, ⟨94, 3, dr (P.map zm.row) ++ [zls M.length]⟩), (2, ⟨67, 2, dr (M.map ze.row)⟩)], .tup []⟩)] rfl fun K hK => ?_;simp [push_cast, cl, cz, tlT, clT]
        repeat refine ob ?_
        refine hK _ ?_; clear hK K; (try dsimp only); refine Nav.imp ?_;refine zbd cx [] rfl fun K hK => ?_;simp [push_cast, ej]
        repeat refine ob ?_
        refine hK _ ?_; clear hK K; (try dsimp only); refine Nav.imp ?_;refine ⟨j + 1, hlj, by omega, ?_⟩;rw [eO, hq2];refine wq [(0, some 0), (1, some 1), (2, some 13), (3, some 3)] (by simp [upT, upH, upR, upL, up, push_cast, tlT, clT])
       ·have cz := runC_px P L l a b ha hfs oa og hnb (by omega) (by omega);obtain ⟨A, hA⟩ : ∃ A, A = P ++ [zTrk L] := ⟨_, rfl⟩
        rw [<- hA] at cz e2;subst e2;refine zbd cx [(3, .o 67 2 (l.map ze.row)), (4, .x ⟨[(0, 0), (1, 1), (2, 2), (3, 12)], [.ptr 0 0 0, .hs 3 0 l.length], [(0, zfy (P.length + 1)), (1, ⟨94, 3, dr (P.map zm.row) ++ [zls L.length]⟩), (2, ⟨67, 2, dr (L.map ze.row)⟩), (3, ⟨67, 2, dr (l.map ze.row)⟩)], [(0, 0), (3, 2)], some 1, [(0, zfy (A.length + 1)), (1, ⟨94, 3, dr (A.map zm.row) ++ [zls l.length]⟩), (2, ⟨67, 2, dr (l.map ze.row)⟩)], .tup []⟩)] rfl fun K hK => ?_;simp [push_cast, cl, cz, tlT, clT]
        repeat refine ob ?_
        refine hK _ ?_; clear hK K; (try dsimp only); refine Nav.imp ?_;refine zbd cx [] rfl fun K hK => ?_;simp [push_cast, ej]
        repeat refine ob ?_
        refine hK _ ?_; clear hK K; (try dsimp only); refine Nav.imp ?_;refine ⟨j + 1, hlj, by omega, ?_⟩;rw [eO, hq2];refine wq [(0, some 0), (1, some 13), (2, some 12), (3, some 3)] (by simp [upT, upH, upR, upL, up, push_cast, tlT, clT])
      ·have hje : j = wr.length := by simp at hb; omega
       subst hje;refine zbd cx [] rfl fun K hK => ?_;simp [push_cast, ek]
       repeat refine ob ?_
       refine hK _ ?_; clear hK K; (try dsimp only); refine Nav.imp ?_;refine ⟨k + 1, hlt, by omega, ?_⟩;rw [hNx];generalize ZF (O + wr.length) = q0;obtain ⟨P0, _ | L0⟩ := q0 <;> simp only [tlT, clT]
       ·refine wk [(0, some 0), (1, some 1), (2, some 2)]
       ·refine wk [(0, some 0), (1, some 1), (2, some 2)]
    ·have hod : ¬ wy % 2 = 0 := by simpa using hb
     have cb := backward_ok wr;refine zbd cx [(2, .p (.fn (.func 131) [.rp [zn wr]]))] rfl fun K hK => ?_;simp [push_cast, cb]
     repeat refine ob ?_
     refine hK _ ?_; clear hK K; (try dsimp only); refine Nav.imp ?_;refine awn_range (caps := [.rp [zn wr]]) (xs := backP wr) rfl (backiter_ok wr hwl) (lB rfl) (lB rfl) 4 [(53, 0), (54, 6)] (by intro q hq; simp at hq; rcases hq with rfl | rfl <;> rfl) (fun Lf => [(5, .ptr 3 0 0), (3, .ptr 0 0 0), (15, .d (zu X)), (16, .d (.int .i64 X.length)), (17, .d (.int .i64 k)), (53, .pin 0 (Lf 0)), (54, .pin 3 (Lf 6))]) (fun j => [(0, some (zfy ((ZF (O + j)).1.length + (tlT 3 (ZF (O + j)).2).length))), (1, some ⟨94, 3, dr ((ZF (O + j)).1.map zm.row) ++ tlT 3 (ZF (O + j)).2⟩), (2, some ⟨67, 2, dr ((clT (ZF (O + j)).2).map ze.row)⟩), (3, some ⟨65, 2, [[.d (.int .i64 wy), .d (zn wr)]]⟩)]) (fun Lf => ?_) (fun Lf => ?_) (fun Lf j x y hx => ?_) fun Lf => ?_
     ·refine keeps_of fun q hq => ?_;simp only [List.mem_cons, List.not_mem_nil, or_false] at hq;rcases hq with rfl | rfl | rfl | rfl | rfl | rfl | rfl
      ·exact ⟨54, _, rfl, rfl⟩
      ·exact ⟨53, _, rfl, rfl⟩
      ·trivial
      ·trivial
      ·trivial
      ·exact Nat.le_refl 53
      ·exact Nat.le_succ 53
     ·simp only [Nat.add_zero];generalize ZF O = q0;obtain ⟨P0, _ | L0⟩ := q0 <;> simp only [tlT, clT]
      ·refine wq [(0, some 0), (1, some 1), (2, some 2), (3, some 6)] (by simp [upT, upH, upR, upL, up, push_cast, zow])
      ·refine wq [(0, some 0), (1, some 1), (2, some 2), (3, some 6)] (by simp [upT, upH, upR, upL, up, push_cast, zow])
     ·have hlj : j < wr.length := by have := (List.getElem?_eq_some_iff.1 hx).1; rwa [back_len] at this
      obtain ⟨r, hr⟩ := zak (l := wr) (k := wr.length - 1 - j) (by omega);rw [back_get hlj hr] at hx;cases hx;obtain ⟨r1, r2, r3⟩ := hwr _ r hr;have cl := hline_ok wy r (by omega);have hl0 : (zaa wy r).length <= 1000000 := by rw [zbr]; omega
      have cv := reverse_px (zaa wy r) hl0;have hZl := hcase (O + j) _ (hG j _ (hzo hod hlj hr));have eO : O + (j + 1) = O + j + 1 := by omega
      have hll : (zaa wy r).length = (zaa wy r).reverse.length := by simp
      obtain ⟨ra, rb⟩ := r;generalize zaa wy ⟨ra, rb⟩ = l0 at *;generalize l0.reverse = l at *;rw [hll] at cv;generalize hq1 : ZF (O + j) = q1 at *;generalize hq2 : ZF (O + j + 1) = q2 at *;rcases hZl with ⟨rfl, rfl⟩ | ⟨P, L, a, b, rfl, ha, hfs, oa, og, hP, hL, ⟨hnb, e2⟩ | ⟨hnb, e2⟩⟩
      ·have cz := runA_px l;refine zda cx [] (fun s' h => by cases h.1) rfl fun K hK => ?_;simp [push_cast, tlT, clT];refine hK _ ⟨rfl, ?_⟩;clear hK K; (try dsimp only);refine awr_block (Q := fun s2 => zeh s2 _) ?_;refine zry ?_;refine zda cx [(3, .o 67 2 (l0.map ze.row))] (fun s' h => by cases h.1) rfl fun K hK => ?_;simp [push_cast, cl, hll, tlT, clT];refine hK _ ?_;clear hK K; (try dsimp only);refine zry ?_;refine zda cx [(1, .x ⟨[(0, 9)], [.hs 0 0 l.length], [(0, ⟨67, 2, dr (l0.map ze.row)⟩)], [(0, 0)], none, [(0, ⟨67, 2, dr (l.map ze.row)⟩)], .tup []⟩)] (fun s' h => by cases h.1) rfl fun K hK => ?_;simp [push_cast, cv, tlT, clT];refine hK _ ?_;clear hK K; (try dsimp only);refine zda cx [(1, .x ⟨[(0, 0), (1, 1), (2, 9)], [.ptr 0 0 0, .hs 2 0 l.length], [(0, zfy 0), (1, ⟨94, 3, []⟩), (2, ⟨67, 2, dr (l.map ze.row)⟩)], [(0, 0), (2, 2)], some 1, [(0, zfy 1), (1, ⟨94, 3, [zls l.length]⟩), (2, ⟨67, 2, dr (l.map ze.row)⟩)], .tup []⟩)] (fun s' h => by cases h.1) rfl fun K hK => ?_;simp [push_cast, cz, tlT, clT];refine hK _ ⟨rfl, ?_⟩;clear hK K; (try dsimp only);refine wq [(0, some 0), (1, some 14), (2, some 9), (3, some 3)] (by simp [upT, upH, upR, upL, up, push_cast, tlT, clT])
      ·have cz := runB_px P L l a b ha hfs oa og hnb (by omega) (by omega);obtain ⟨M, hM⟩ : ∃ M, M = L ++ l := ⟨_, rfl⟩
       rw [<- hM] at cz e2;subst e2;refine zda cx [] (fun s' h => by cases h.1) rfl fun K hK => ?_;simp [push_cast, tlT, clT];refine hK _ ⟨rfl, ?_⟩;clear hK K; (try dsimp only);refine awr_block (Q := fun s2 => zeh s2 _) ?_;refine zry ?_;refine zda cx [(3, .o 67 2 (l0.map ze.row))] (fun s' h => by cases h.1) rfl fun K hK => ?_;simp [push_cast, cl, hll, tlT, clT];refine hK _ ?_;clear hK K; (try dsimp only);refine zry ?_;refine zda cx [(1, .x ⟨[(0, 9)], [.hs 0 0 l.length], [(0, ⟨67, 2, dr (l0.map ze.row)⟩)], [(0, 0)], none, [(0, ⟨67, 2, dr (l.map ze.row)⟩)], .tup []⟩)] (fun s' h => by cases h.1) rfl fun K hK => ?_;simp [push_cast, cv, tlT, clT];refine hK _ ?_;clear hK K; (try dsimp only);refine zda cx [(1, .x ⟨[(0, 0), (1, 1), (2, 2), (3, 9)], [.ptr 0 0 0, .hs 3 0 l.length], [(0, zfy (P.length + 1)), (1, ⟨94, 3, dr (P.map zm.row) ++ [zls L.length]⟩), (2, ⟨67, 2, dr (L.map ze.row)⟩), (3, ⟨67, 2, dr (l.map ze.row)⟩)], [(0, 0), (1, 1)], some 2, [(0, zfy (P.length + 1)), (1, ⟨94, 3, dr (P.map zm.row) ++ [zls M.length]⟩), (2, ⟨67, 2, dr (M.map ze.row)⟩)], .tup []⟩)] (fun s' h => by cases h.1) rfl fun K hK => ?_;simp [push_cast, cz, tlT, clT];refine hK _ ⟨rfl, ?_⟩;clear hK K; (try dsimp only);refine wq [(0, some 0), (1, some 1), (2, some 14), (3, some 3)] (by simp [upT, upH, upR, upL, up, push_cast, tlT, clT])
      ·have cz := runC_px P L l a b ha hfs oa og hnb (by omega) (by omega);obtain ⟨A, hA⟩ : ∃ A, A = P ++ [zTrk L] := ⟨_, rfl⟩
       rw [<- hA] at cz e2;subst e2;refine zda cx [] (fun s' h => by cases h.1) rfl fun K hK => ?_;simp [push_cast, tlT, clT];refine hK _ ⟨rfl, ?_⟩;clear hK K; (try dsimp only);refine awr_block (Q := fun s2 => zeh s2 _) ?_;refine zry ?_;refine zda cx [(3, .o 67 2 (l0.map ze.row))] (fun s' h => by cases h.1) rfl fun K hK => ?_;simp [push_cast, cl, hll, tlT, clT];refine hK _ ?_;clear hK K; (try dsimp only);refine zry ?_;refine zda cx [(1, .x ⟨[(0, 9)], [.hs 0 0 l.length], [(0, ⟨67, 2, dr (l0.map ze.row)⟩)], [(0, 0)], none, [(0, ⟨67, 2, dr (l.map ze.row)⟩)], .tup []⟩)] (fun s' h => by cases h.1) rfl fun K hK => ?_;simp [push_cast, cv, tlT, clT];refine hK _ ?_;clear hK K; (try dsimp only);refine zda cx [(1, .x ⟨[(0, 0), (1, 1), (2, 2), (3, 9)], [.ptr 0 0 0, .hs 3 0 l.length], [(0, zfy (P.length + 1)), (1, ⟨94, 3, dr (P.map zm.row) ++ [zls L.length]⟩), (2, ⟨67, 2, dr (L.map ze.row)⟩), (3, ⟨67, 2, dr (l.map ze.row)⟩)], [(0, 0), (3, 2)], some 1, [(0, zfy (A.length + 1)), (1, ⟨94, 3, dr (A.map zm.row) ++ [zls l.length]⟩), (2, ⟨67, 2, dr (l.map ze.row)⟩)], .tup []⟩)] (fun s' h => by cases h.1) rfl fun K hK => ?_;simp [push_cast, cz, tlT, clT];refine hK _ ⟨rfl, ?_⟩;clear hK K; (try dsimp only);refine wq [(0, some 0), (1, some 14), (2, some 9), (3, some 3)] (by simp [upT, upH, upR, upL, up, push_cast, tlT, clT])
     ·rw [back_len];refine Nav.imp ?_;refine zbd cx [] rfl fun K hK => ?_;simp [push_cast, ek]
      repeat refine ob ?_
      refine hK _ ?_; clear hK K; (try dsimp only); refine Nav.imp ?_;refine ⟨k + 1, hlt, by omega, ?_⟩;rw [hNx];generalize ZF (O + wr.length) = q0;obtain ⟨P0, _ | L0⟩ := q0 <;> simp only [tlT, clT]
      ·refine wk [(0, some 0), (1, some 1), (2, some 2)]
      ·refine wk [(0, some 0), (1, some 1), (2, some 2)]
   ·have hke : k = X.length := by simp at hb; omega
    subst hke;generalize ZF (OF X.length) = q0 at *;obtain ⟨P, _ | L⟩ := q0 <;> simp only [zR, zdh, List.append_nil, tlT, clT] at *
    ·refine zty 1 (P.map zm.row) rfl (by simp [push_cast, tlT, clT]) fun K hK => ?_;simp [push_cast, St.fz, fzT, fzH, fzO, fz, fzL, fzR, zbc, zat, zas, zaq, tlT, clT];refine nx hK ?_; clear hK K;refine zbd cx [] rfl fun K hK => ?_;simp [push_cast]
     repeat refine ob ?_
     refine hK _ ?_; clear hK K; (try dsimp only); refine Nav.imp ?_;simp [push_cast]
    ·obtain ⟨A, hA⟩ : ∃ A, A = P ++ [zTrk L] := ⟨_, rfl⟩
     have hfold : dr (P.map zm.row) ++ [[AV.d (.int .i64 3), AV.d (.bool false), AV.d (.sl (L.map ze.row))]] = dr (A.map zm.row) := by rw [hA]; simp [dr, zm.row]
     have hAl : P.length + 1 = A.length := by rw [hA]; simp
     rw [<- hA];refine zty 2 (L.map ze.row) rfl (by simp [push_cast, hfold]) fun K hK => ?_;simp [push_cast, St.fz, fzT, fzH, fzO, fz, fzL, fzR, zbc, zat, zas, zaq, hfold];refine nx hK ?_; clear hK K;rw [hAl];refine zty 1 (A.map zm.row) rfl (by simp [push_cast, tlT, clT]) fun K hK => ?_;simp [push_cast, St.fz, fzT, fzH, fzO, fz, fzL, fzR, zbc, zat, zas, zaq, tlT, clT];refine nx hK ?_; clear hK K;refine zbd cx [] rfl fun K hK => ?_;simp [push_cast]
     repeat refine ob ?_
     refine hK _ ?_; clear hK K; (try dsimp only); refine Nav.imp ?_;simp [push_cast]
end Go.Proofs.YtdddknniooimmaaGreat

namespace Go.Proofs.YtdddknniooimmaaGreat
open Go.Abs Go.Shelf Go.RowKit Go.Lib Go.Sort

theorem joined_run {P : Program} {t e ty : TypeId} {ti te : TI} (ht : TOk P t ti) (hk : ti.kind = .slice e) (he : TOk P e te) (hpos : 0 < te.size) (hbpos : 0 < te.bytes) {ro : Nat -> Prop} {w : World} (hro : ∀ b, ro b -> b < w.heap.size)
  {ra rb : List (List D)} {pa pb : Option Addr} {ca cb : Nat} (ha : zr ro w (.sl ra) (.slice pa ra.length ca)) (hb : zr ro w (.sl rb) (.slice pb rb.length cb)) (hma : ∀ r ∈ ra, r.length = te.size) (hmb : ∀ r ∈ rb, r.length = te.size)
  (hsz : (ra.length + rb.length) * te.bytes <= 140737488355328) :
  ∃ v w', (Builtin.append_ #[t, t] ty #[.slice pa ra.length ra.length, .slice pb rb.length cb]).run P w = .ok v w' /\ Abs.Below w.heap.size w w' /\ zr (fun b => ro b \/ (w.heap.size <= b /\ b < w'.heap.size)) w' (.sl (ra ++ rb)) v := by
 obtain ⟨i, z, hi, hsize, hby, hz, hzc, hzs, hzo⟩ := he.info;have hu : P.underlying t = some (.slice e) := by have := ht.kind; rw [hk] at this; exact this
 have h63 : ra.length + rb.length <= maxLen := by
  have : ra.length + rb.length <= (ra.length + rb.length) * te.bytes := Nat.le_mul_of_pos_right _ hbpos;simp only [maxLen]; omega
 have hst := zrb (n := 2) hro (show zq ro w [.sl ra, .sl rb] [.slice pa ra.length ca, .slice pb rb.length cb] by simp only [zq]; exact ⟨_, _, rfl, ha, _, _, rfl, hb, rfl⟩) (Nat.le_refl _);have hA := zrc hst.heap (m := te.size) (x := .d (.sl ra)) rfl hma (by simp only [zh]; exact ha);have hB := zrc hst.heap (m := te.size) (x := .d (.sl rb)) rfl hmb (by simp only [zh]; exact hb);by_cases hb0 : rb.length = 0
 ·have hrb := List.eq_nil_of_length_eq_zero hb0;subst hrb;refine ⟨.slice pa ra.length ra.length, w, ?_, ⟨rfl, ⟨rfl, .inr (Nat.le_refl _)⟩, rfl, Nat.le_refl _, fun _ _ => rfl⟩, ?_⟩
  ·cases pa <;> cases pb <;> simp [Builtin.append_, run_underlying hu, sizeOf, typeInfo, hi, Builtin.lenOf, Builtin.firstCells, storeCells, loadCells, loadCellsFrom]
  ·rw [List.append_nil];simp only [zr] at ha ⊢;obtain ⟨a, cap, hv, hc, hm, hr⟩ := ha;cases hv;refine ⟨_, _, rfl, Nat.le_refl _, by omega, ?_⟩;rcases hr with hr | ⟨b, o, m, ha, hb, hr⟩
   ·exact .inl hr
   ·exact .inr ⟨b, o, m, ha, .inl hb, zau.mono (fun b hb => ⟨.inl hb, rfl⟩) rfl o ra hr⟩
 ·obtain ⟨b, o, c, news, hvb, hnl, hnc, hnr⟩ : ∃ b o c flat, (Value.slice pb rb.length cb) = .slice (some ⟨b, o, none⟩) rb.length c /\ flat.length = rb.length * te.size /\ zch w b o flat /\ zfa _ w te.size (dr rb) flat := by
   rcases hB with ⟨h, _⟩ | h
   ·have := congrArg List.length h; simp [dr] at this; rw [this] at hb0; exact absurd rfl hb0
   ·simp only [zrt] at h; exact h
  cases hvb;obtain ⟨zp, hol, hor, hold⟩ : ∃ zp : List Value, zp.length = ra.length * te.size /\ zfa ⟨ro, fun _ => none, fun _ => False⟩ w te.size (dr ra) zp /\ (Builtin.firstCells i.size ra.length (.slice pa ra.length ra.length)).run P w.drew = .ok zp.toArray w.drew := by
   rcases hA with ⟨h, _⟩ | ⟨b', o', c', flat, hv, hl, hc, hr⟩
   ·have h0 : ra = [] := List.eq_nil_of_length_eq_zero (by have := congrArg List.length h; simpa [dr] using this);subst h0;refine ⟨[], by simp, fun i row hi => by simp [dr] at hi, ?_⟩;cases pa <;> simp [Builtin.firstCells, loadCells, loadCellsFrom]
   ·simp only [zrt] at hv hl;cases hv;exact ⟨flat, hl, hr, run_firstCells_some w.drew i.size _ ⟨b', o', none⟩ _ _ flat (by rw [hsize]; exact hl) (fun j u hj => by rw [Addr.add_lit]; exact (hc j u hj).1)⟩
  have hsrc : Src P i.size t (.slice (some ⟨b, o, none⟩) rb.length cb) rb.length news w := Src.ofSlice w hu _ _ _ news (by rw [hsize]; exact hnl) (fun j u hj => by rw [Addr.add_lit]; exact (hnc j u hj).1) fun u hu => by
   obtain ⟨j, hj⟩ := List.getElem?_of_mem hu;exact (hnc j u hj).2
  have hrun := run_append_grow_src (P := P) w t t ty e i z hu hi hz pa ra.length ra.length zp hold _ rb.length news hsrc (by omega) (by simp only [maxLen] at h63; omega) (growslice_fits (by omega) (by rw [hby]; exact hsz));have hge := grownCap_ge w (ra.length + rb.length) ra.length e;have hcm := grownCap_le_maxLen w (ra.length + rb.length) ra.length e h63;generalize grownCap w (ra.length + rb.length) ra.length e = cap at *;refine ⟨_, _, hrun, ⟨rfl, ⟨rfl, .inr (Nat.le_succ _)⟩, rfl, by simp, fun k hk => Go.heap_alloc_old w.drew _ hk⟩, ?_⟩;have hnew := Go.heap_alloc_new w.drew (.cells ((zp ++ news).toArray ++ Builtin.zeroCells z.cells (cap - (ra.length + rb.length))) e);have hcs : ((zp ++ news).toArray ++ Builtin.zeroCells z.cells (cap - (ra.length + rb.length))).size = cap * te.size := by
   simp only [Array.size_append, List.size_toArray, size_zeroCells, hzs, List.length_append, hol, hnl, <- Nat.add_mul]; congr 1; omega
  have hcur : ∀ j u, (zp ++ news)[j]? = some u -> ((zp ++ news).toArray ++ Builtin.zeroCells z.cells (cap - (ra.length + rb.length)))[j]? = some u := fun j u hj => by
   have hlt := (List.getElem?_eq_some_iff.1 hj).1;rw [Array.getElem?_append_left (by simpa using hlt)];simpa using hj
  generalize (zp ++ news).toArray ++ Builtin.zeroCells z.cells (cap - (ra.length + rb.length)) = cur at *;have hrows := hor.append (by rw [zrt]; exact hol) hnr;generalize hW : w.drew.alloc (.cells cur e) = W at *;have hold2 : ∀ k, k < w.heap.size -> W.heap[k]? = w.heap[k]? := fun k hk => by rw [<- hW]; exact Go.heap_alloc_old w.drew _ hk
  have hnew2 : W.heap[w.heap.size]? = some (.cells cur e) := hnew;have hWs : w.heap.size < W.heap.size := (Array.getElem?_eq_some_iff.1 hnew).1;simp only [zr];refine ⟨_, cap, by rw [List.length_append], by rw [List.length_append]; omega, hcm, .inr ⟨w.heap.size, 0, te.size, rfl, .inr ⟨Nat.le_refl _, hWs⟩, zau.of_get fun i r hi => ?_⟩⟩;have hi' : i < ra.length + rb.length := by have := (List.getElem?_eq_some_iff.1 hi).1; simpa using this
  obtain ⟨h1, h2⟩ := hrows i (r.map .d) (by rw [<- dr_append]; simp only [dr, List.getElem?_map, hi]; rfl);obtain ⟨us, hu1, hu2, hu3⟩ := zq.of_cells (ro := fun b => ro b \/ w.heap.size <= b /\ b < W.heap.size) (w := W) (cur := cur) (i := i) (m := te.size) (row := r) (by simpa using h1) (by
   rw [hcs, <- Nat.succ_mul]; exact Nat.mul_le_mul_right _ (by omega)) fun j d hj => by
    obtain ⟨u, q1, q2, q3⟩ := h2 j (.d d) (by rw [List.getElem?_map, hj]; rfl);simp only [zh] at q3;exact ⟨u, hcur _ _ q1, q2, zr.mono (fun b hb => ⟨.inl hb, hold2 b (hro b hb)⟩) d u q3⟩
  refine ⟨us, hu1, hu2, fun j v hj => ?_⟩;obtain ⟨q1, q2⟩ := hu3 j v hj;refine ⟨?_, q2⟩;rw [(zfl.of hnew2).cell, Nat.zero_add];exact q1
theorem wl {P : Program} {ops : Array Oper} {Q : Exit -> Act -> World -> Prop} {o : Oper} {rest : List Oper} {a : Act} {w : World} (hg : o.guard = none) {v : Value} {w' : World} (h : (execOp a.eval o).run P w = .ok (.value v) w') (hr : wpList P ops Q rest (a.put o.dst v) w') : wpList P ops Q (o :: rest) a w := by
 simp only [wpList];rw [if_pos (by simp [Region.wanted, hg])];refine .inl ?_;unfold Oper.wp;rw [h, Oper.upon_value];exact hr
set_option maxHeartbeats 4000000 in
theorem joined_ok (a b : List zm) (h : a.length + b.length <= 1000000) : PC Tryz.prog 68 [zah a, zah b] (.p (zah (a ++ b))) := by
 refine ⟨⟨_, rfl, rfl, rfl⟩, fun ro w vs hro hd => ?_⟩;have hd2 := hd;simp only [zq, zr, List.length_map] at hd2;obtain ⟨_, _, rfl, ⟨pa, ca, rfl, ha1, ha2, ha3⟩, _, _, rfl, ⟨pb, cb, rfl, hb1, hb2, hb3⟩, rfl⟩ := hd2;simp only [zq] at hd;obtain ⟨_, _, hv1, hra, _, _, hv2, hrb, _⟩ := hd;cases hv1;cases hv2;obtain ⟨v, w', hrun, hbl, hrep⟩ := joined_run (ty := 37) (cx.ok 37 _ rfl) rfl (cx.ok 94 _ rfl) (by decide) (by decide) hro (ra := a.map zm.row) (rb := b.map zm.row) (pa := pa) (pb := pb) (ca := ca) (cb := cb) (by simpa using hra) (by simpa using hrb) (by simp) (by simp) (by simp; omega);rw [List.length_map, List.length_map] at hrun;have hA : ∀ t cs, builtin .append #[37, 37] t cs #[.slice pa a.length a.length, .slice pb b.length cb] = (do pure (.value (<- Builtin.append_ #[37, 37] 37 #[.slice pa a.length a.length, .slice pb b.length cb]))) := fun t cs => by
  simp only [builtin]; rfl
 have hrun2 : ∀ t cs, (builtin .append #[37, 37] t cs #[.slice pa a.length a.length, .slice pb b.length cb]).run Tryz.prog w = .ok (.value v) w' := fun t cs => by
  rw [hA]; simp [Sem.run_bind, hrun, Result.andThen]
 go_enter Tryz.func68, Tryz.ntmps68
 generalize hQ : bodyPost Tryz.prog Tryz.f68 _ = Q;refine wp_seq (wp_region_lit ?_);refine wl rfl (v := .slice none 0 0) (w' := w) (by simp [execOp, go_sem]) ?_;refine wp_seq (wp_region_lit ?_);refine wl rfl (v := .slice pa a.length ca) (w' := w) (by simp [execOp, go_sem]) ?_;refine wl rfl (v := .slice pa a.length ca) (w' := w) (by simp [execOp, go_sem]) ?_;refine wl rfl (v := .int .i64 a.length) (w' := w) (by simp [execOp, go_sem]) ?_;refine wl rfl (v := .slice pa a.length ca) (w' := w) (by simp [execOp, go_sem]) ?_;refine wl rfl (v := .int .i64 a.length) (w' := w) (by simp [execOp, go_sem]) ?_;refine wl rfl (v := .slice pa a.length a.length) (w' := w) (by simp [execOp, go_sem]; intro h; omega) ?_;refine wl rfl (v := .slice pb b.length cb) (w' := w) (by simp [execOp, go_sem]) ?_;refine wl rfl (v := v) (w' := w') ?_ ?_
 ·have hm : ∀ x : Act, x.eval (.tmp 10) = .slice pa a.length a.length -> x.eval (.tmp 11) = .slice pb b.length cb -> Array.map x.eval #[.tmp 10, .tmp 11] = #[.slice pa a.length a.length, .slice pb b.length cb] := fun x h1 h2 => by simp [h1, h2]
  simp only [execOp, resolve, pure_bind, invoke, Sem.run_bind];rw [hm _ (by simp [go_sem]) (by simp [go_sem])];simp only [hrun2, Result.andThen_ok, Sem.run_pure]
 refine wl rfl (v := v) (w' := w') (by simp [execOp, go_sem]) ?_;refine wp_ret ?_;rw [<- hQ];refine ⟨rfl, v, by simp [results, Tryz.f68, go_sem], v, rfl, hbl, ?_⟩;rw [<- List.map_append] at hrep;exact hrep
end Go.Proofs.YtdddknniooimmaaGreat

namespace Go.Proofs.YtdddknniooimmaaGreat
open Go.Abs

def nearStep (g : List Run) (M : List (Int × List Run)) (y : Int) : List (Int × List Run) := zgj M y (sweep fU (zhc M y) g)
def NI (P : Int -> Int -> Prop) (M : List (Int × List Run)) : Prop := ∀ y, zfm (zhc M y) /\ (∀ r ∈ zhc M y, -4160 <= r.a /\ r.b <= 4160) /\ ∀ x, inR (zhc M y) x = true ↔ P y x
theorem NI.nil : NI (fun _ _ => False) [] := fun y => ⟨⟨by simp [zhc, zdp], by simp [zhc, zdp]⟩, by simp [zhc, zdp], by simp [zhc, zdp, inR]⟩
theorem NI.congr {P Q : Int -> Int -> Prop} {M : List (Int × List Run)} (h : NI P M) (he : ∀ y x, P y x ↔ Q y x) : NI Q M := fun y => ⟨(h y).1, (h y).2.1, fun x => ((h y).2.2 x).trans (he y x)⟩
theorem NI.step {P : Int -> Int -> Prop} {M : List (Int × List Run)} (h : NI P M) {g : List Run} (hg : zfm g) (hb : ∀ r ∈ g, -4160 <= r.a /\ r.b <= 4160) (z : Int) : NI (fun y x => P y x \/ (y = z /\ inR g x = true)) (nearStep g M z) := by
 intro y;have h1 := h z;have hs := zdt (f := fU) rfl (apart_rv h1.1 h1.2.1) (apart_rv hg hb);unfold nearStep;rw [mget_put];split
 ·rename_i e;subst e;refine ⟨hs.1, zeq hs.1 fun x hx => ?_, fun x => ?_⟩
  ·rw [hs.2] at hx;simp only [fU, Bool.or_eq_true] at hx;rcases hx with hx | hx
   ·obtain ⟨r, hr, h3, h4⟩ := zbe.1 hx; have := h1.2.1 r hr; omega
   ·obtain ⟨r, hr, h3, h4⟩ := zbe.1 hx; have := hb r hr; omega
  ·rw [hs.2];simp only [fU, Bool.or_eq_true, true_and, h1.2.2]
 ·rename_i e;refine ⟨(h y).1, (h y).2.1, fun x => ?_⟩;rw [(h y).2.2];simp [e]
def nearP (R : List Row) (K : Nat) (y x : Int) : Prop := ∃ w ∈ R, w.y - K <= y /\ y <= w.y + K /\ ∃ r ∈ w.runs, r.a - K <= x /\ x < r.b + K

def zqa (F : Row -> List Run) (w : Row) : List Row := if F w = [] then [] else [⟨w.y, F w⟩]
def mapR (F : Row -> List Run) (S : List Row) : List Row := S.flatMap (zqa F)
theorem mapRow_len (F : Row -> List Run) (w : Row) : (zqa F w).length <= 1 := by unfold zqa; split <;> simp
theorem zti {F : Row -> List Run} {w v : Row} (h : v ∈ zqa F w) : v = ⟨w.y, F w⟩ /\ F w ≠ [] := by
 unfold zqa at h;split at h
 ·simp at h
 ·rename_i e; simp at h; exact ⟨h, e⟩
theorem mapR_mem {F : Row -> List Run} {S : List Row} {v : Row} (h : v ∈ mapR F S) : ∃ w ∈ S, v = ⟨w.y, F w⟩ /\ F w ≠ [] := by
 obtain ⟨w, hw, hv⟩ := List.mem_flatMap.1 h;exact ⟨w, hw, zti hv⟩
theorem mapR_len (F : Row -> List Run) : ∀ S : List Row, (mapR F S).length <= S.length := zjp (mapRow_len F)
theorem mapR_take {F : Row -> List Run} {S : List Row} {k : Nat} {w : Row} (h : S[k]? = some w) : mapR F (S.take (k + 1)) = mapR F (S.take k) ++ zqa F w := zdr _ h
theorem flat_pw {α β : Type} {P : α -> α -> Prop} {Q : β -> β -> Prop} {f : α -> List β} (h1 : ∀ a, (f a).length <= 1) (h2 : ∀ a b x y, P a b -> x ∈ f a -> y ∈ f b -> Q x y) : ∀ {l : List α}, l.Pairwise P -> (l.flatMap f).Pairwise Q
 | [], _ => by simp
 | a :: l, h => by
  obtain ⟨ha, hl⟩ := List.pairwise_cons.1 h;rw [List.flatMap_cons];refine List.pairwise_append.2 ⟨?_, flat_pw h1 h2 hl, fun x hx y hy => ?_⟩
  ·have := h1 a
   match h : f a, this with
   | [], _ => simp
   | [x], _ => simp
  ·obtain ⟨b, hb, hy⟩ := List.mem_flatMap.1 hy;exact h2 a b x y (ha b hb) hx hy
theorem mapR_valid {F : Row -> List Run} {S : List Row} (hv : zo S = true) (hF : ∀ w ∈ S, F w ≠ [] -> zel (F w) = true) : zo (mapR F S) = true := by
 obtain ⟨h1, h2⟩ := zht.1 hv;refine zht.2 ⟨fun v hv' => ?_, flat_pw (mapRow_len F) (fun a b x y hab hx hy => ?_) h2⟩
 ·obtain ⟨w, hw, rfl, hne⟩ := mapR_mem hv';exact ⟨(h1 w hw).1, hF w hw hne⟩
 ·rw [(zti hx).1, (zti hy).1]; exact hab
theorem mapR_cells {F : Row -> List Run} {S : List Row} {c : ze} : c ∈ zk (mapR F S) ↔ ∃ w ∈ S, c.y = w.y /\ inR (F w) c.x = true := by
 rw [zbn];constructor
 ·rintro ⟨v, hv, hy, hr⟩;obtain ⟨w, hw, rfl, _⟩ := mapR_mem hv;exact ⟨w, hw, hy, zbe.2 hr⟩
 ·rintro ⟨w, hw, hy, hr⟩;refine ⟨⟨w.y, F w⟩, List.mem_flatMap.2 ⟨w, hw, ?_⟩, hy, zbe.1 hr⟩;unfold zqa;rw [if_neg (by rintro e; rw [e] at hr; simp [inR] at hr)];simp
end Go.Proofs.YtdddknniooimmaaGreat
