/-
  Texts of this seat put together: BW4, BW5, BD3, TP2, BW6, BW14, TP5, BD4.
-/
import Derived.Test.YtdddknniooimmaaGreatJT14
import Derived.Test.YtdddknniooimmaaGreatJT6
import Derived.Test.YtdddknniooimmaaGreatJT13
import Derived.Test.YtdddknniooimmaaGreatJT9
import Derived.Test.YtdddknniooimmaaGreatJT10
set_option linter.unusedVariables false
set_option linter.unusedSimpArgs false
set_option maxRecDepth 100000
set_option linter.unusedSectionVars false
namespace Go.Proofs.YtdddknniooimmaaGreat
open Go.Abs Go.Shelf

def kl (A : List (zf × List Hd)) : KL := A.map fun p => (.agg p.1.row, p.2.map znr)
theorem kl_length (A : List (zf × List Hd)) : (kl A).length = A.length := by simp [kl]
def zfq (A : List (zf × List Hd)) (c : Crk) : List (zf × List Hd) := zcz A c.p (zab A c.p ++ [c.h])
theorem posR_m (p : zf) : ∀ (A : List (zf × List Hd)) (ids : List Nat), ids.length = A.length -> zep (.agg p.row) (zay ids (kl A)) = some (zfk p A)
 | [], ids, h => by
  have : ids = [] := List.eq_nil_of_length_eq_zero h;subst this; rfl
 | a :: A, [], h => by simp at h
 | a :: A, i :: ids, h => by
  have ih := posR_m p A ids (by simpa using h);simp only [kl, zay, List.map_cons, List.zipWith_cons_cons, zep, zfk, zlp] at ih ⊢;by_cases e : p = a.1
  ·simp [e]
  ·simp only [e, decide_false, if_false];rw [ih]; rfl
theorem self_key (p : zf) : eqK (.agg p.row) (.agg p.row) = some true := by rw [zlp]; simp
theorem posR_new (p : zf) (y : AV) : ∀ (rows : List (List AV)), zep (.agg p.row) rows = some none -> zep (.agg p.row) (rows ++ [[.d (.agg p.row), y]]) = some (some rows.length)
 | [], _ => by simp only [List.nil_append, zep, self_key]; rfl
 | r :: rows, h => by
  unfold zep at h;split at h
  ·rename_i k' a;split at h
   ·cases h
   ·rename_i hq;simp only [Option.map_eq_some_iff] at h;obtain ⟨x, hx, hx2⟩ := h;cases x with
    | some x => cases hx2
    | none =>
     rw [List.cons_append];unfold zep;simp only [hq, posR_new p y rows hx];rfl
   ·cases h
  ·cases h
theorem kl_put (A : List (zf × List Hd)) (c : Crk) : (zfk c.p A = none -> kl (zfq A c) = kl A ++ [(.agg c.p.row, [znr c.h])] /\ zab A c.p = []) /\ ∀ j, zfk c.p A = some j -> ∃ hs, A[j]? = some (c.p, hs) /\ zab A c.p = hs /\ kl (zfq A c) = (kl A).set j (.agg c.p.row, hs.map znr ++ [znr c.h]) := by
 have hg := zdw (a := c.p) A;unfold zfq zcz;refine ⟨fun h => ?_, fun j h => ?_⟩
 ·rw [h] at hg;simp only at hg;have hh : zab A c.p = [] := by simp [zab, hg]
  rw [h, hh];exact ⟨by simp [kl], rfl⟩
 ·rw [h] at hg;simp only at hg;obtain ⟨b, h1, h2⟩ := hg;have hh : zab A c.p = b := by simp [zab, h2]
  refine ⟨b, h1, hh, ?_⟩;rw [h, hh];simp [kl, List.map_set]
theorem mrows_app {ids : List Nat} {A : KL} (h : ids.length = A.length) (x : Nat) (p : D × List (List D)) : zay (ids ++ [x]) (A ++ [p]) = zay ids A ++ [[.d p.1, .hs x 0 p.2.length]] := by
 unfold zay;rw [List.zipWith_append h];rfl
theorem mrows_set {A : KL} (j x : Nat) (p : D × List (List D)) : ∀ {ids : List Nat} , ids.length = A.length -> zay (ids.set j x) (A.set j p) = (zay ids A).set j [.d p.1, .hs x 0 p.2.length] := by
 induction A generalizing j with
 | nil => intro ids h; simp [zay]
 | cons a A ih =>
  intro ids h;cases ids with
  | nil => simp at h
  | cons i ids =>
   cases j with
   | zero => simp [zay]
   | succ j =>
    have := ih j (ids := ids) (by simpa using h);simp only [zay, List.set_cons_succ, List.zipWith_cons_cons] at this ⊢;rw [this]
theorem idsN_set_nd {n i z : Nat} (hz : z < 1000000 \/ 1000000 + n <= z) : ((zak n).set i z).Nodup := by
 rw [List.Nodup, List.pairwise_iff_getElem];intro a b ha hb hab;simp only [List.length_set, zr] at ha hb;have g : ∀ k (hk : k < n), (zak n)[k]'(by rw [zr]; exact hk) = 1000000 + k := fun k hk => by
  have := zhq hk;rw [List.getElem?_eq_getElem (by rw [zr]; exact hk)] at this;exact Option.some.inj this
 rw [List.getElem_set, List.getElem_set, g a ha, g b hb];split <;> split <;> omega
set_option maxHeartbeats 8000000 in
theorem add_px (A : List (zf × List Hd)) (c : Crk) (hA : A.length <= 100000000) (hne : ∀ a ∈ A, a.2 ≠ [] /\ a.2.length <= 100000000) :
  PX Tryz.prog 138 [.hm 0, .d (.agg c.p.row), .d (.int .i64 c.h.int)] (zil 118 178 1 (kl A)) [(0, 0)] (zil 118 178 1 (kl (zfq A c))) (.tup []) := by
 obtain ⟨p1, p2⟩ := kl_put A c;have hkl := kl_length A;refine px_of_awp_map cx (fn := Tryz.f138) (c := _) Tryz.func138 rfl rfl (lB rfl) (by rw [hkl]; omega) fun Ls => ?_;rw [Tryz.ntmps138]; refine Nav.imp ?_;refine rg cx ?_;cases hp : zfk c.p A with
 | none =>
  obtain ⟨q1, q2⟩ := p1 hp;have hpos := posR_m c.p A (zak (kl A).length) (by rw [zr, hkl]);rw [hp] at hpos;refine zok cx [] [_, _, _, _] _ _ _ _ _ rfl (T := 118) (S := 121) (kt := 58) (et := 121) (e := 178) rfl rfl rfl rfl rfl rfl rfl rfl rfl rfl rfl rfl rfl rfl rfl rfl rfl rfl (by decide) rfl rfl rfl rfl rfl rfl rfl rfl (by decide) (by decide)
   ⟨14, [(6, .hm 0), (7, .d (.agg c.p.row)), (10, .hs 1 0 1), (14, .pin 0 (Ls 0))], (0, some ⟨118, mapM, zay (zak (kl A).length) (kl A)⟩) :: [(1, some ⟨178, 1, [[.d (.int .i64 c.h.int)]]⟩)] ++ dyn 178 1 0 (SA (kl A)), 1000000000000⟩
   (id := 0) (r := none) (rows1 := zay (zak (kl A).length) (kl A) ++ [[.d (.agg c.p.row), .nl]]) (rows3 := zay (zak (kl A).length) (kl A) ++ [[.d (.agg c.p.row), .hs 1000000000000 0 1]]) (r1 := []) (r2 := [[.d (.int .i64 c.h.int)]]) (wr := []) (p1 := True) rfl rfl ?_ rfl (.inl rfl) ?_ ?_ rfl trivial rfl ?_ ?_ ?_ ?_ ?_ ?_ ?_
  ·rfl
  ·show zhg (.agg c.p.row) (zay (zak (kl A).length) (kl A)) = some none
   unfold zhg; rw [hpos]
  ·show zlw (.agg c.p.row) .nl (zay (zak (kl A).length) (kl A)) = _
   unfold zlw; rw [hpos]
  ·show 0 + 1 <= 1
   omega
  ·show (0 + 1) * 8 <= _
   omega
  ·show zlw (.agg c.p.row) (.hs 1000000000000 0 1) _ = _
   unfold zlw;rw [posR_new _ _ _ hpos];simp
  ·simp [zcm, zbj]
  ·exact ⟨Nat.le_of_ble_eq_true rfl, Nat.le_of_ble_eq_true rfl, Nat.le_of_ble_eq_true rfl, Nat.le_of_ble_eq_true rfl⟩
  ·intro K hK;simp [push_cast];refine hK _ ?_;refine zbz [(0, some 0), (1, some 1000000000004)] (zak (kl A).length) [(1, some ⟨178, 1, [[.d (.int .i64 c.h.int)]]⟩)] 0 0 rfl rfl rfl (by rw [hkl]; omega) (zr _) rfl ?_ rfl ?_ ?_ ?_ ?_ (zaw _) ?_ ?_
   ·simp [upT, up, upL, push_cast, zw, zaa]
   ·simp [push_cast, zac]
   ·simp [upH, upR, upL, up, push_cast, zw, zac, zaa]
   ·simp [zg, push_cast]
   ·simp [zq]
   ·intro x hx;have h1 := zbb.1 hx;simp [zq]; omega
   ·intro q x p hx hp';obtain ⟨hq, rfl⟩ := zas hx;have : ((SA (kl A))[q]?).map (fun r => some (⟨178, 1, dr r⟩ : Ob)) = some (some ⟨178, 1, dr p.2⟩) := by simp [SA, hp']
    simp [push_cast, zau, this];rw [if_neg (by omega), if_neg (by omega), if_neg (by omega)];rfl
  ·refine rx_map (ns := zak (kl A).length ++ [1000000000000]) (.inr rfl) ⟨[], rfl, fun ρ => by simp [zen, rn, rnL, zhp]⟩ ?_ ?_ rfl ?_ ?_ ?_ ?_
   ·show some _ = some _
    rw [q1, mrows_app (zr _)];rfl
   ·rw [q1]; simp [zr]
   ·rw [List.nodup_append];refine ⟨zaw _, by simp, fun a ha b hb => ?_⟩;have := zbb.1 ha;simp at hb; omega
   ·intro h0;rcases List.mem_append.1 h0 with h0 | h0
    ·have := zbb.1 h0; omega
    ·simp at h0
   ·intro q x p hx hp';rw [q1] at hp';by_cases hq : q < (kl A).length
    ·rw [List.getElem?_append_left (by rw [zr]; exact hq)] at hx;rw [List.getElem?_append_left hq] at hp';obtain ⟨_, rfl⟩ := zas hx;have : ((SA (kl A))[q]?).map (fun r => some (⟨178, 1, dr r⟩ : Ob)) = some (some ⟨178, 1, dr p.2⟩) := by simp [SA, hp']
     simp [push_cast, zau, this, zdi]
     repeat rw [if_neg (by omega)]
     rfl
    ·have hql : q = (kl A).length := by have := (List.getElem?_eq_some_iff.1 hp').1; simp at this; omega
     subst hql;rw [List.getElem?_append_right (by rw [zr]; exact Nat.le_refl _), zr] at hx;rw [List.getElem?_append_right (Nat.le_refl _)] at hp';simp at hx hp';subst hx; subst hp';simp [push_cast, zdi]
   ·rfl
 | some j =>
  obtain ⟨hs, hAj, hh, q1⟩ := p2 j hp;have hpos := posR_m c.p A (zak (kl A).length) (by rw [zr, hkl]);rw [hp] at hpos;have hjl : j < (kl A).length := by rw [hkl]; exact (List.getElem?_eq_some_iff.1 hAj).1
  obtain ⟨hn1, hn2⟩ := hne _ (List.mem_of_getElem? hAj);simp only at hn1 hn2;obtain ⟨n', hn'⟩ : ∃ n', hs.length = n' + 1 := ⟨hs.length - 1, by have := List.length_pos_iff.2 hn1; omega⟩
  have hkj : (kl A)[j]? = some (.agg c.p.row, hs.map znr) := by simp [kl, hAj]
  have hrow : (zay (zak (kl A).length) (kl A))[j]? = some [.d (.agg c.p.row), .hs (1000000 + j) 0 (n' + 1)] := by
   rw [mrows_get (zhq hjl) hkj]; simp [hn']
  have hself : (zay (zak (kl A).length) (kl A)).set j [.d (.agg c.p.row), .hs (1000000 + j) 0 (n' + 1)] = zay (zak (kl A).length) (kl A) := by
   refine List.ext_getElem? fun q => ?_;rw [List.getElem?_set];split
   ·rename_i e;subst e;rw [if_pos (List.getElem?_eq_some_iff.1 hrow).1, hrow]
   ·rfl
  have hSj : ((SA (kl A))[j]?).map (fun r => some (⟨178, 1, dr r⟩ : Ob)) = some (some ⟨178, 1, dr (hs.map znr)⟩) := by simp [SA, hkj]
  refine zok cx [] [_, _, _, _] _ _ _ _ _ rfl (T := 118) (S := 121) (kt := 58) (et := 121) (e := 178) rfl rfl rfl rfl rfl rfl rfl rfl rfl rfl rfl rfl rfl rfl rfl rfl rfl rfl (by decide) rfl rfl rfl rfl rfl rfl rfl rfl (by decide) (by decide)
   ⟨14, [(6, .hm 0), (7, .d (.agg c.p.row)), (10, .hs 1 0 1), (14, .pin 0 (Ls 0))], (0, some ⟨118, mapM, zay (zak (kl A).length) (kl A)⟩) :: [(1, some ⟨178, 1, [[.d (.int .i64 c.h.int)]]⟩)] ++ dyn 178 1 0 (SA (kl A)), 1000000000000⟩
   (id := 0) (r := some (.hs (1000000 + j) 0 (n' + 1))) (rows1 := zay (zak (kl A).length) (kl A)) (rows3 := (zay (zak (kl A).length) (kl A)).set j [.d (.agg c.p.row), .hs 1000000000000 0 (n' + 1 + 1)]) (r1 := dr (hs.map znr)) (r2 := [[.d (.int .i64 c.h.int)]]) (wr := [(1000000 + j, none)]) (p1 := n' + 1 <= (dr (hs.map znr)).length) rfl rfl ?_ rfl (.inr ⟨_, _, rfl⟩) ?_ ?_ ?_ ?_ rfl ?_ ?_ ?_ ?_ ?_ ?_ ?_
  ·rfl
  ·show zhg (.agg c.p.row) (zay (zak (kl A).length) (kl A)) = _
   unfold zhg; rw [hpos];simp only [hrow]
  ·show zlw (.agg c.p.row) (.hs (1000000 + j) 0 (n' + 1)) (zay (zak (kl A).length) (kl A)) = _
   unfold zlw; rw [hpos];simp only [hself]
  ·show zed _ _ _ (.hs (1000000 + j) 0 (n' + 1)) = _
   simp only [zed];have ho : zbj (St.obj ⟨14, [(6, .hm 0), (7, .d (.agg c.p.row)), (10, .hs 1 0 1), (14, .pin 0 (Ls 0))], (0, some ⟨118, mapM, zay (zak (kl A).length) (kl A)⟩) :: [(1, some ⟨178, 1, [[.d (.int .i64 c.h.int)]]⟩)] ++ dyn 178 1 0 (SA (kl A)), 1000000000000⟩) 0 (some ⟨118, mapM, zay (zak (kl A).length) (kl A)⟩) (1000000 + j) = some ⟨178, 1, dr (hs.map znr)⟩ := by
    simp [push_cast, zau, hSj, zbj]
    repeat rw [if_neg (by omega)]
    rfl
   rw [ho];simp only [Option.bind_some];rw [if_pos (by simp)];have : (dr (hs.map znr)).take (n' + 1) = dr (hs.map znr) := List.take_of_length_le (by simp [dr, hn']);rw [this]
  ·simp [dr, hn']
  ·show 0 + 1 <= 1
   omega
  ·show ((dr (hs.map znr)).length + 1) * 8 <= _
   simp [dr]; omega
  ·show zlw (.agg c.p.row) (.hs 1000000000000 0 ((dr (hs.map znr)).length + 1)) _ = _
   unfold zlw;rw [hpos];simp [dr, hn']
  ·simp [zcm, zbj];omega
  ·exact ⟨Nat.le_of_ble_eq_true rfl, Nat.le_of_ble_eq_true rfl, Nat.le_of_ble_eq_true rfl, Nat.le_of_ble_eq_true rfl⟩
  ·intro K hK;simp [push_cast];refine hK _ ?_;refine zbz [(0, some 0), (1, some 1000000000004)] (zak (kl A).length) [(1, some ⟨178, 1, [[.d (.int .i64 c.h.int)]]⟩)] 0 0 rfl rfl rfl (by rw [hkl]; omega) (zr _) rfl ?_ rfl ?_ ?_ ?_ ?_ (zaw _) ?_ ?_
   ·simp [upT, up, upL, push_cast, zw, zaa]
   ·simp [push_cast, zac]
   ·simp [upH, upR, upL, up, push_cast, zw, zac, zaa]
   ·simp [zg, push_cast]
   ·simp [zq]
   ·intro x hx;have h1 := zbb.1 hx;simp [zq]; omega
   ·intro q x p hx hp';obtain ⟨hq, rfl⟩ := zas hx;have : ((SA (kl A))[q]?).map (fun r => some (⟨178, 1, dr r⟩ : Ob)) = some (some ⟨178, 1, dr p.2⟩) := by simp [SA, hp']
    simp [push_cast, zau, this];rw [if_neg (by omega), if_neg (by omega), if_neg (by omega)];rfl
  ·refine rx_map (ns := (zak (kl A).length).set j 1000000000000) (.inr rfl) ⟨[], rfl, fun ρ => by simp [zen, rn, rnL, zhp]⟩ ?_ ?_ rfl ?_ ?_ ?_ ?_
   ·show some _ = some _
    rw [q1, mrows_set _ _ _ (zr _)];simp [hn']
   ·rw [q1]; simp [zr]
   ·exact idsN_set_nd (by omega)
   ·intro h0;rcases List.mem_or_eq_of_mem_set h0 with h0 | h0
    ·have := zbb.1 h0; omega
    ·simp at h0
   ·intro q x p hx hp';rw [q1] at hp';by_cases hq : j = q
    ·subst hq;rw [List.getElem?_set_self (by rw [zr]; exact hjl)] at hx;rw [List.getElem?_set_self hjl] at hp';cases hx; cases hp';simp [push_cast, zdi]
    ·rw [List.getElem?_set_ne hq] at hx hp';obtain ⟨_, rfl⟩ := zas hx;have : ((SA (kl A))[q]?).map (fun r => some (⟨178, 1, dr r⟩ : Ob)) = some (some ⟨178, 1, dr p.2⟩) := by simp [SA, hp']
     simp [push_cast, zau, this, zdi]
     repeat rw [if_neg (by omega)]
     rfl
   ·rfl

theorem zef {e m : Nat} {A : KL} {q : Nat} {p : D × List (List D)} (h : A[q]? = some p) : ((SA A)[q]?).map (fun r => some (⟨e, m, dr r⟩ : Ob)) = some (some ⟨e, m, dr p.2⟩) := by simp [SA, h]
def ztg (y : Int) (r : Run) : List Crk := (List.range (r.b - r.a).toNat).map fun k : Nat => ⟨⟨r.a + k, y⟩, .e⟩
def zqs (y : Int) (r : Run) : List Crk := (List.range (r.b - r.a).toNat).map fun k : Nat => ⟨⟨r.a + k + 1, y + 1⟩, .w⟩
def vRun (y : Int) (r : Run) : List Crk := [⟨⟨r.b, y⟩, .n⟩, ⟨⟨r.a, y + 1⟩, .s⟩]
def zfj (R : List Row) (w : Row) : List Crk := (sweep fD w.runs (zy R (w.y - 1))).flatMap (ztg w.y) ++ ((sweep fD w.runs (zy R (w.y + 1))).flatMap (zqs w.y) ++ w.runs.flatMap (vRun w.y))
def zae (R : List Row) : List Crk := R.flatMap (zfj R)
def addAll (A : List (zf × List Hd)) (l : List Crk) : List (zf × List Hd) := l.foldl zfq A
def Acc (full : List Crk) (A : List (zf × List Hd)) (rest : List Crk) : Prop := ∃ pre, A = addAll [] pre /\ full = pre ++ rest
theorem Acc.next {full : List Crk} {A : List (zf × List Hd)} {c : Crk} {rest : List Crk} (h : Acc full A (c :: rest)) : Acc full (zfq A c) rest := by
 obtain ⟨pre, rfl, rfl⟩ := h;exact ⟨pre ++ [c], by simp [addAll], by simp⟩
theorem putL_lenB {α β : Type} [DecidableEq α] (l : List (α × β)) (a : α) (b : β) : (zcz l a b).length <= l.length + 1 := by
 unfold zcz;cases zfk a l <;> simp
theorem putL_mem {α β : Type} [DecidableEq α] {l : List (α × β)} {a : α} {b : β} {x : α × β} (h : x ∈ zcz l a b) : x ∈ l \/ x = (a, b) := by
 unfold zcz at h;cases hp : zfk a l with
 | none => rw [hp] at h; simpa using h
 | some j => rw [hp] at h; exact List.mem_or_eq_of_mem_set h
theorem headsAt_len {A : List (zf × List Hd)} {n : Nat} (h : ∀ a ∈ A, a.2 ≠ [] /\ a.2.length <= n) (p : zf) : (zab A p).length <= n := by
 unfold zab;cases hg : zan A p with
 | none => simp
 | some hs =>
  have hp := zdw (a := p) A;cases hq : zfk p A with
  | none => rw [hq] at hp; rw [hp] at hg; cases hg
  | some j =>
   rw [hq] at hp;obtain ⟨b, h5, h6⟩ := hp;rw [h6] at hg; cases hg;exact (h _ (List.mem_of_getElem? h5)).2
theorem addAll_len : ∀ (l : List Crk) (A : List (zf × List Hd)) (n : Nat), (∀ a ∈ A, a.2 ≠ [] /\ a.2.length <= n) -> (addAll A l).length <= A.length + l.length /\ ∀ a ∈ addAll A l, a.2 ≠ [] /\ a.2.length <= n + l.length
 | [], A, n, h => ⟨by simp [addAll], h⟩
 | c :: l, A, n, h => by
  have h1 : ∀ a ∈ zfq A c, a.2 ≠ [] /\ a.2.length <= n + 1 := fun a ha => by
   rcases putL_mem ha with ha | rfl
   ·have := h a ha; exact ⟨this.1, by omega⟩
   ·have := headsAt_len h c.p;exact ⟨by simp, by simp; omega⟩
  obtain ⟨h2, h3⟩ := addAll_len l (zfq A c) (n + 1) h1;have h4 : (zfq A c).length <= A.length + 1 := putL_lenB _ _ _;have e : addAll A (c :: l) = addAll (zfq A c) l := rfl;rw [e];simp only [List.length_cons];refine ⟨by omega, fun a ha => ?_⟩;obtain ⟨h5, h6⟩ := h3 a ha;exact ⟨h5, by omega⟩
theorem zsh (l : List Crk) : (addAll [] l).length <= l.length /\ ∀ a ∈ addAll [] l, a.2 ≠ [] /\ a.2.length <= l.length := by
 have := addAll_len l [] 0 (by simp);simpa using this
theorem Acc.good {full : List Crk} {A : List (zf × List Hd)} {rest : List Crk} (h : Acc full A rest) (hf : full.length <= 10000000) : A.length <= 100000000 /\ (kl A).length <= 100000000 /\ ∀ a ∈ A, a.2 ≠ [] /\ a.2.length <= 100000000 := by
 obtain ⟨pre, rfl, rfl⟩ := h;obtain ⟨h1, h2⟩ := zsh pre;simp at hf;refine ⟨by omega, by rw [kl_length]; omega, fun a ha => ?_⟩;obtain ⟨h3, h4⟩ := h2 a ha;exact ⟨h3, by omega⟩
theorem eRun_drop (y : Int) (r : Run) {j : Nat} (hj : j < (r.b - r.a).toNat) : (ztg y r).drop j = ⟨⟨r.a + j, y⟩, .e⟩ :: (ztg y r).drop (j + 1) := zob (by simp [ztg, hj])
theorem wRun_drop (y : Int) (r : Run) {j : Nat} (hj : j < (r.b - r.a).toNat) : (zqs y r).drop j = ⟨⟨r.a + j + 1, y + 1⟩, .w⟩ :: (zqs y r).drop (j + 1) := zob (by simp [zqs, hj])
theorem eRun_end (y : Int) (r : Run) {j : Nat} (hj : (r.b - r.a).toNat <= j) : (ztg y r).drop j = [] := List.drop_eq_nil_iff.2 (by simpa [ztg] using hj)
theorem wRun_end (y : Int) (r : Run) {j : Nat} (hj : (r.b - r.a).toNat <= j) : (zqs y r).drop j = [] := List.drop_eq_nil_iff.2 (by simpa [zqs] using hj)

theorem around_ok (R : List Row) (i : Nat) (w : Row) (hv : zo R = true) (hR : zbw R) (hw : R[i]? = some w) : PC Tryz.prog 54 [.agg (zp R), .int .i64 i] (.p (.tup [zm (zy R (w.y - 1)), zm (zy R (w.y + 1))])) := by
 have hl := hR.1;have hi := (List.getElem?_eq_some_iff.1 hw).1;have hwb := zdv hv hw;have b1 : ∀ p, 0 < i -> R[i - 1]? = some p -> p.y = w.y - 1 -> zy R (w.y - 1) = p.runs := fun p h0 hp e => by rw [<- e]; exact zfp hv (List.mem_of_getElem? hp)
 have b2 : (i = 0 \/ ∃ p, R[i - 1]? = some p /\ p.y ≠ w.y - 1) -> zy R (w.y - 1) = [] := fun h => by
  refine zih fun v hm e => ?_;obtain ⟨k, hk⟩ := List.mem_iff_getElem?.1 hm;have pw := ziw hv;have lt : ∀ a b (x y : Row), R[a]? = some x -> R[b]? = some y -> a < b -> x.y < y.y := fun a b x y hx hy hab => by
   obtain ⟨h1, rfl⟩ := List.getElem?_eq_some_iff.1 hx;obtain ⟨h2, rfl⟩ := List.getElem?_eq_some_iff.1 hy;exact List.pairwise_iff_getElem.1 pw a b h1 h2 hab
  have hki : k < i := by
   rcases Nat.lt_trichotomy k i with h | h | h
   ·exact h
   ·subst h; rw [hw] at hk; cases hk; omega
   ·have := lt i k w v hw hk h; omega
  rcases h with rfl | ⟨p, hp, hne⟩
  ·omega
  ·rcases Nat.lt_trichotomy k (i - 1) with h | h | h
   ·have h1 := lt k (i - 1) v p hk hp h;have h2 := lt (i - 1) i p w hp hw (by omega);omega
   ·subst h; rw [hp] at hk; cases hk; exact hne e
   ·omega
 have a1 : ∀ p, R[i + 1]? = some p -> p.y = w.y + 1 -> zy R (w.y + 1) = p.runs := fun p hp e => by rw [<- e]; exact zfp hv (List.mem_of_getElem? hp)
 have a2 : (R.length <= i + 1 \/ ∃ p, R[i + 1]? = some p /\ p.y ≠ w.y + 1) -> zy R (w.y + 1) = [] := fun h => by
  refine zih fun v hm e => ?_;obtain ⟨k, hk⟩ := List.mem_iff_getElem?.1 hm;have hkl := (List.getElem?_eq_some_iff.1 hk).1;have pw := ziw hv;have lt : ∀ a b (x y : Row), R[a]? = some x -> R[b]? = some y -> a < b -> x.y < y.y := fun a b x y hx hy hab => by
   obtain ⟨h1, rfl⟩ := List.getElem?_eq_some_iff.1 hx;obtain ⟨h2, rfl⟩ := List.getElem?_eq_some_iff.1 hy;exact List.pairwise_iff_getElem.1 pw a b h1 h2 hab
  have hki : i < k := by
   rcases Nat.lt_trichotomy k i with h | h | h
   ·have := lt k i v w hk hw h; omega
   ·subst h; rw [hw] at hk; cases hk; omega
   ·exact h
  rcases h with h | ⟨p, hp, hne⟩
  ·omega
  ·rcases Nat.lt_trichotomy k (i + 1) with h | h | h
   ·omega
   ·subst h; rw [hp] at hk; cases hk; exact hne e
   ·have h1 := lt (i + 1) k p v hp hk h;have h2 := lt i (i + 1) w p hw hp (by omega);omega
 have hwy := hwb.1;generalize zy R (w.y - 1) = B at *;generalize zy R (w.y + 1) = U at *;have e1 := wI (w.y - 1);have e2 := wI (w.y + 1);have e3 := wI ((i : Int) + 1);have e4 := wI ((i : Int) - 1);have i1 : ∀ (x : Row), R[i]? = some x -> (zz R) = zz R := fun _ _ => rfl;obtain ⟨y, rs⟩ := w;simp only at *;refine pw cx Tryz.func54 Tryz.ntmps54 ?_;refine rg cx ?_;refine rx cx [] (fun K hK => by simp [push_cast, hw]; (repeat refine ob ?_); exact hK) ?_;by_cases h0 : 0 < i
 ·obtain ⟨p, hp⟩ : ∃ p, R[i - 1]? = some p := zap (by omega);have g0 : ((0 : Int) < i) := by omega
  have g1 : (((i : Int) - 1).toNat) = i - 1 := by omega
  have g3 : (0 : Int) <= (i : Int) - 1 := by omega
  have g4 : (i : Int) - 1 < R.length := by omega
  by_cases e : p.y = y - 1
  ·have hB := b1 p h0 hp e;obtain ⟨py, pr⟩ := p;simp only at e hB;subst e;subst hB;refine rx cx [] (fun K hK => by simp [push_cast, hp, e1, e4, g1, g3, g4, g0]; (repeat refine ob ?_); exact hK) ?_;refine awp_cn true (by simp [push_cast, g0, h0]) (fun hb => ?_) fun hb => ?_
   ·refine rx cx [] (fun K hK => by simp [push_cast, hp, e4, g1, g3, g4]; (repeat refine ob ?_); exact hK) ?_;by_cases hlt : i + 1 < R.length
    ·obtain ⟨q, hq⟩ : ∃ q, R[i + 1]? = some q := zap hlt;have g2 : ((i : Int) + 1 < R.length) := by omega
     by_cases e : q.y = y + 1
     ·have hB2 := a1 q hq e;obtain ⟨qy, qr⟩ := q;simp only at e hB2;subst e;subst hB2;refine rx cx [] (fun K hK => by simp [push_cast, hq, e3, e2, g2]; (repeat refine ob ?_); exact hK) ?_;refine awp_cn true (by simp [push_cast, g2]) (fun hb => ?_) fun hb => ?_
      ·refine rx cx [] (fun K hK => by simp [push_cast, hq, e3]; (repeat refine ob ?_); exact hK) ?_;refine rg cx ?_;simp [push_cast]
      ·simp at hb
     ·have hB2 := a2 (.inr ⟨q, hq, e⟩);obtain ⟨qy, qr⟩ := q;simp only at e;subst hB2;refine rx cx [] (fun K hK => by simp [push_cast, hq, e3, e2, g2]; (repeat refine ob ?_); exact hK) ?_;refine awp_cn false (by simp [push_cast, g2, e]) (fun hb => ?_) fun hb => ?_
      ·simp at hb
      ·refine rg cx ?_;simp [push_cast]
    ·have hB2 := a2 (.inl (by omega));subst hB2;have g2 : ¬ ((i : Int) + 1 < R.length) := by omega
     refine rx cx [(7, .skip), (8, .skip), (9, .skip), (10, .skip), (11, .skip), (12, .skip), (13, .skip), (14, .skip), (15, .skip), (16, .skip)] (fun K hK => by simp [push_cast, e3, g2]; (repeat refine ob ?_); exact hK) ?_;refine awp_cn false (by simp [push_cast, g2]) (fun hb => ?_) fun hb => ?_
     ·simp at hb
     ·refine rg cx ?_;simp [push_cast]
   ·simp at hb
  ·have hB := b2 (.inr ⟨p, hp, e⟩);obtain ⟨py, pr⟩ := p;simp only at e;subst hB;refine rx cx [] (fun K hK => by simp [push_cast, hp, e1, e4, g1, g3, g4, g0]; (repeat refine ob ?_); exact hK) ?_;refine awp_cn false (by simp [push_cast, g0, h0, e]) (fun hb => ?_) fun hb => ?_
   ·simp at hb
   ·by_cases hlt : i + 1 < R.length
    ·obtain ⟨q, hq⟩ : ∃ q, R[i + 1]? = some q := zap hlt;have g2 : ((i : Int) + 1 < R.length) := by omega
     by_cases e : q.y = y + 1
     ·have hB2 := a1 q hq e;obtain ⟨qy, qr⟩ := q;simp only at e hB2;subst e;subst hB2;refine rx cx [] (fun K hK => by simp [push_cast, hq, e3, e2, g2]; (repeat refine ob ?_); exact hK) ?_;refine awp_cn true (by simp [push_cast, g2]) (fun hb => ?_) fun hb => ?_
      ·refine rx cx [] (fun K hK => by simp [push_cast, hq, e3]; (repeat refine ob ?_); exact hK) ?_;refine rg cx ?_;simp [push_cast]
      ·simp at hb
     ·have hB2 := a2 (.inr ⟨q, hq, e⟩);obtain ⟨qy, qr⟩ := q;simp only at e;subst hB2;refine rx cx [] (fun K hK => by simp [push_cast, hq, e3, e2, g2]; (repeat refine ob ?_); exact hK) ?_;refine awp_cn false (by simp [push_cast, g2, e]) (fun hb => ?_) fun hb => ?_
      ·simp at hb
      ·refine rg cx ?_;simp [push_cast]
    ·have hB2 := a2 (.inl (by omega));subst hB2;have g2 : ¬ ((i : Int) + 1 < R.length) := by omega
     refine rx cx [(7, .skip), (8, .skip), (9, .skip), (10, .skip), (11, .skip), (12, .skip), (13, .skip), (14, .skip), (15, .skip), (16, .skip)] (fun K hK => by simp [push_cast, e3, g2]; (repeat refine ob ?_); exact hK) ?_;refine awp_cn false (by simp [push_cast, g2]) (fun hb => ?_) fun hb => ?_
     ·simp at hb
     ·refine rg cx ?_;simp [push_cast]
 ·have hi0 : i = 0 := by omega
  have hB := b2 (.inl hi0);subst hB;subst hi0;have e3 : IntKind.wrap .i64 (1 : Int) = 1 := wrap_i64 (by omega) (by omega);simp only [Nat.zero_add] at a1 a2;refine rx cx [(3, .skip), (4, .skip), (5, .skip), (6, .skip), (7, .skip), (8, .skip), (9, .skip), (10, .skip), (11, .skip), (12, .skip)] (fun K hK => by simp [push_cast]; (repeat refine ob ?_); exact hK) ?_;refine awp_cd false (fun hb => ?_) fun hb => ?_
  ·simp at hb
  ·by_cases hlt : 1 < R.length
   ·obtain ⟨q, hq⟩ : ∃ q, R[1]? = some q := zap hlt;have g2 : ((1 : Int) < R.length) := by omega
    by_cases e : q.y = y + 1
    ·have hB2 := a1 q hq e;obtain ⟨qy, qr⟩ := q;simp only at e hB2;subst e;subst hB2;refine rx cx [] (fun K hK => by simp [push_cast, hq, e3, e2, g2]; (repeat refine ob ?_); exact hK) ?_;refine awp_cn true (by simp [push_cast, g2]) (fun hb => ?_) fun hb => ?_
     ·refine rx cx [] (fun K hK => by simp [push_cast, hq, e3]; (repeat refine ob ?_); exact hK) ?_;refine rg cx ?_;simp [push_cast]
     ·simp at hb
    ·have hB2 := a2 (.inr ⟨q, hq, e⟩);obtain ⟨qy, qr⟩ := q;simp only at e;subst hB2;refine rx cx [] (fun K hK => by simp [push_cast, hq, e3, e2, g2]; (repeat refine ob ?_); exact hK) ?_;refine awp_cn false (by simp [push_cast, g2, e]) (fun hb => ?_) fun hb => ?_
     ·simp at hb
     ·refine rg cx ?_;simp [push_cast]
   ·have hB2 := a2 (.inl (by omega));subst hB2;have g2 : ¬ ((1 : Int) < R.length) := by omega
    refine rx cx [(7, .skip), (8, .skip), (9, .skip), (10, .skip), (11, .skip), (12, .skip), (13, .skip), (14, .skip), (15, .skip), (16, .skip)] (fun K hK => by simp [push_cast, e3, g2]; (repeat refine ob ?_); exact hK) ?_;refine awp_cn false (by simp [push_cast, g2]) (fun hb => ?_) fun hb => ?_
    ·simp at hb
    ·refine rg cx ?_;simp [push_cast]
end Go.Proofs.YtdddknniooimmaaGreat

namespace Go.Proofs.YtdddknniooimmaaGreat
open Go.Abs

def Sof (R : List Row) (c : zf) : Bool := inR (zy R c.y) c.x
theorem znn {y : Int} {r : Run} (hr : r.a < r.b) {c : Crk} : c ∈ ztg y r ↔ c.h = .e /\ c.p.y = y /\ r.a <= c.p.x /\ c.p.x < r.b := by
 unfold ztg;simp only [List.mem_map, List.mem_range];obtain ⟨⟨u, v⟩, h⟩ := c;simp only [Crk.mk.injEq, zf.mk.injEq];constructor
 ·rintro ⟨k, h1, ⟨rfl, rfl⟩, rfl⟩; refine ⟨rfl, rfl, ?_, ?_⟩ <;> omega
 ·rintro ⟨rfl, rfl, h1, h2⟩; exact ⟨(u - r.a).toNat, by omega, ⟨by omega, rfl⟩, rfl⟩
theorem znm {y : Int} {r : Run} (hr : r.a < r.b) {c : Crk} : c ∈ zqs y r ↔ c.h = .w /\ c.p.y = y + 1 /\ r.a <= c.p.x - 1 /\ c.p.x - 1 < r.b := by
 unfold zqs;simp only [List.mem_map, List.mem_range];obtain ⟨⟨u, v⟩, h⟩ := c;simp only [Crk.mk.injEq, zf.mk.injEq];constructor
 ·rintro ⟨k, h1, ⟨rfl, rfl⟩, rfl⟩; refine ⟨rfl, rfl, ?_, ?_⟩ <;> omega
 ·rintro ⟨rfl, rfl, h1, h2⟩; exact ⟨(u - 1 - r.a).toNat, by omega, ⟨by omega, rfl⟩, rfl⟩
theorem zrl {y : Int} {r : Run} {c : Crk} : c ∈ vRun y r ↔ (c.h = .n /\ c.p.y = y /\ c.p.x = r.b) \/ (c.h = .s /\ c.p.y = y + 1 /\ c.p.x = r.a) := by
 obtain ⟨⟨u, v⟩, h⟩ := c;simp only [vRun, List.mem_cons, List.not_mem_nil, or_false, Crk.mk.injEq, zf.mk.injEq];constructor
 ·rintro (⟨⟨rfl, rfl⟩, rfl⟩ | ⟨⟨rfl, rfl⟩, rfl⟩) <;> simp
 ·rintro (⟨rfl, rfl, rfl⟩ | ⟨rfl, rfl, rfl⟩) <;> simp
theorem apart_right {l : List Run} (h : zfn l) (x : Int) : (inR l (x - 1) = true /\ inR l x = false) ↔ ∃ r ∈ l, r.b = x := by
 constructor
 ·rintro ⟨h1, h2⟩;obtain ⟨r, hr, h3, h4⟩ := zai.1 h1;refine ⟨r, hr, ?_⟩;have : ¬ (r.a <= x /\ x < r.b) := fun k => by rw [zai.2 ⟨r, hr, k⟩] at h2; cases h2
  omega
 ·rintro ⟨r, hr, rfl⟩;have hr1 := h.1 r hr;refine ⟨zai.2 ⟨r, hr, by omega, by omega⟩, ?_⟩;rw [Bool.eq_false_iff];intro k;obtain ⟨p, hp, h3, h4⟩ := zai.1 k;obtain ⟨i, hi⟩ := List.mem_iff_getElem?.1 hr;obtain ⟨j, hj⟩ := List.mem_iff_getElem?.1 hp;have pw := fun a b (x y : Run) (hx : l[a]? = some x) (hy : l[b]? = some y) (hab : a < b) => (by
   obtain ⟨h1, rfl⟩ := List.getElem?_eq_some_iff.1 hx;obtain ⟨h2, rfl⟩ := List.getElem?_eq_some_iff.1 hy;exact List.pairwise_iff_getElem.1 h.2 a b h1 h2 hab : x.b < y.a)
  rcases Nat.lt_trichotomy i j with e | e | e
  ·have := pw i j r p hi hj e; omega
  ·subst e; rw [hi] at hj; cases hj; omega
  ·have := pw j i p r hj hi e; omega
theorem apart_left {l : List Run} (h : zfn l) (x : Int) : (inR l x = true /\ inR l (x - 1) = false) ↔ ∃ r ∈ l, r.a = x := by
 constructor
 ·rintro ⟨h1, h2⟩;obtain ⟨r, hr, h3, h4⟩ := zai.1 h1;refine ⟨r, hr, ?_⟩;have : ¬ (r.a <= x - 1 /\ x - 1 < r.b) := fun k => by rw [zai.2 ⟨r, hr, k⟩] at h2; cases h2
  omega
 ·rintro ⟨r, hr, rfl⟩;have hr1 := h.1 r hr;refine ⟨zai.2 ⟨r, hr, by omega, by omega⟩, ?_⟩;rw [Bool.eq_false_iff];intro k;obtain ⟨p, hp, h3, h4⟩ := zai.1 k;obtain ⟨i, hi⟩ := List.mem_iff_getElem?.1 hr;obtain ⟨j, hj⟩ := List.mem_iff_getElem?.1 hp;have pw := fun a b (x y : Run) (hx : l[a]? = some x) (hy : l[b]? = some y) (hab : a < b) => (by
   obtain ⟨h1, rfl⟩ := List.getElem?_eq_some_iff.1 hx;obtain ⟨h2, rfl⟩ := List.getElem?_eq_some_iff.1 hy;exact List.pairwise_iff_getElem.1 h.2 a b h1 h2 hab : x.b < y.a)
  rcases Nat.lt_trichotomy i j with e | e | e
  ·have := pw i j r p hi hj e; omega
  ·subst e; rw [hi] at hj; cases hj; omega
  ·have := pw j i p r hj hi e; omega
theorem rowOf_ap {R : List Row} (hv : zo R = true) (y : Int) : zfn (zy R y) := by
 rcases zdn hv y with ⟨w, hw, _, e⟩ | ⟨_, e⟩
 ·rw [e]; exact (zfd.1 (zbs hv hw).2).2.1
 ·rw [e]; exact ⟨by simp, by simp⟩
theorem zkv {R : List Row} (hv : zo R = true) (y z : Int) : zfn (sweep fD (zy R y) (zy R z)) /\ ∀ x, inR (sweep fD (zy R y) (zy R z)) x = (inR (zy R y) x && !inR (zy R z) x) := by
 obtain ⟨h1, h2⟩ := zda (f := fD) rfl (zdb hv y) (zdb hv z);exact ⟨h1, fun x => by rw [h2]; rfl⟩
theorem zee {R : List Row} (hv : zo R = true) (c : Crk) : c ∈ zae R ↔ isC (Sof R) c = true := by
 obtain ⟨⟨x, y⟩, h⟩ := c;have inrow : ∀ {w : Row} {z t : Int}, w ∈ R -> w.y = z -> inR (zy R z) t = inR w.runs t := fun {w z t} hw e => by rw [<- e, zfp hv hw]
 have has : ∀ {z t : Int}, inR (zy R z) t = true -> ∃ w ∈ R, w.y = z /\ zy R z = w.runs := fun {z t} h => by
  rcases zdn hv z with h1 | ⟨_, h1⟩
  ·exact h1
  ·rw [h1] at h; simp [inR] at h
 have key : ∀ w ∈ R, (⟨⟨x, y⟩, h⟩ : Crk) ∈ zfj R w ↔ (h = .e /\ y = w.y /\ inR (zy R w.y) x = true /\ inR (zy R (w.y - 1)) x = false) \/ (h = .w /\ y = w.y + 1 /\ inR (zy R w.y) (x - 1) = true /\ inR (zy R (w.y + 1)) (x - 1) = false) \/ (h = .n /\ y = w.y /\ inR (zy R w.y) (x - 1) = true /\ inR (zy R w.y) x = false) \/ (h = .s /\ y = w.y + 1 /\ inR (zy R w.y) x = true /\ inR (zy R w.y) (x - 1) = false) := by
  intro w hw;unfold zfj;rw [<- zfp hv hw];obtain ⟨a1, a2⟩ := zkv hv w.y (w.y - 1);obtain ⟨b1, b2⟩ := zkv hv w.y (w.y + 1);have ap := rowOf_ap hv w.y;have e1 := a2 x;have e2 := b2 (x - 1);have e3 := apart_right ap x;have e4 := apart_left ap x;simp only [List.mem_append, List.mem_flatMap];generalize sweep fD (zy R w.y) (zy R (w.y - 1)) = L1 at *;generalize sweep fD (zy R w.y) (zy R (w.y + 1)) = L2 at *;have f1 : (∃ r ∈ L1, (⟨⟨x, y⟩, h⟩ : Crk) ∈ ztg w.y r) ↔ h = .e /\ y = w.y /\ inR L1 x = true := by
   rw [zai];constructor
   ·rintro ⟨r, hr, hm⟩;obtain ⟨q1, q2, q3, q4⟩ := (znn (a1.1 r hr)).1 hm;exact ⟨q1, q2, r, hr, q3, q4⟩
   ·rintro ⟨q1, q2, r, hr, q3, q4⟩;exact ⟨r, hr, (znn (a1.1 r hr)).2 ⟨q1, q2, q3, q4⟩⟩
  have f2 : (∃ r ∈ L2, (⟨⟨x, y⟩, h⟩ : Crk) ∈ zqs w.y r) ↔ h = .w /\ y = w.y + 1 /\ inR L2 (x - 1) = true := by
   rw [zai];constructor
   ·rintro ⟨r, hr, hm⟩;obtain ⟨q1, q2, q3, q4⟩ := (znm (b1.1 r hr)).1 hm;exact ⟨q1, q2, r, hr, q3, q4⟩
   ·rintro ⟨q1, q2, r, hr, q3, q4⟩;exact ⟨r, hr, (znm (b1.1 r hr)).2 ⟨q1, q2, q3, q4⟩⟩
  have f3 : (∃ r ∈ zy R w.y, (⟨⟨x, y⟩, h⟩ : Crk) ∈ vRun w.y r) ↔ (h = .n /\ y = w.y /\ ∃ r ∈ zy R w.y, r.b = x) \/ (h = .s /\ y = w.y + 1 /\ ∃ r ∈ zy R w.y, r.a = x) := by
   simp only [zrl];constructor
   ·rintro ⟨r, hr, ⟨q1, q2, q3⟩ | ⟨q1, q2, q3⟩⟩
    ·exact .inl ⟨q1, q2, r, hr, q3.symm⟩
    ·exact .inr ⟨q1, q2, r, hr, q3.symm⟩
   ·rintro (⟨q1, q2, r, hr, q3⟩ | ⟨q1, q2, r, hr, q3⟩)
    ·exact ⟨r, hr, .inl ⟨q1, q2, q3.symm⟩⟩
    ·exact ⟨r, hr, .inr ⟨q1, q2, q3.symm⟩⟩
  rw [f1, f2, f3, <- e3, <- e4, e1, e2];simp only [Bool.and_eq_true, Bool.not_eq_true']
 unfold zae;simp only [List.mem_flatMap];have k2 : (∃ w ∈ R, (⟨⟨x, y⟩, h⟩ : Crk) ∈ zfj R w) ↔ (h = .e /\ inR (zy R y) x = true /\ inR (zy R (y - 1)) x = false) \/ (h = .w /\ inR (zy R (y - 1)) (x - 1) = true /\ inR (zy R y) (x - 1) = false) \/ (h = .n /\ inR (zy R y) (x - 1) = true /\ inR (zy R y) x = false) \/ (h = .s /\ inR (zy R (y - 1)) x = true /\ inR (zy R (y - 1)) (x - 1) = false) := by
  constructor
  ·rintro ⟨w, hw, hm⟩;rcases (key w hw).1 hm with ⟨q1, rfl, q3, q4⟩ | ⟨q1, rfl, q3, q4⟩ | ⟨q1, rfl, q3, q4⟩ | ⟨q1, rfl, q3, q4⟩
   ·exact .inl ⟨q1, q3, q4⟩
   ·refine .inr (.inl ⟨q1, ?_, q4⟩); rw [show w.y + 1 - 1 = w.y by omega]; exact q3
   ·exact .inr (.inr (.inl ⟨q1, q3, q4⟩))
   ·refine .inr (.inr (.inr ⟨q1, ?_⟩)); rw [show w.y + 1 - 1 = w.y by omega]; exact ⟨q3, q4⟩
  ·rintro (⟨q1, q3, q4⟩ | ⟨q1, q3, q4⟩ | ⟨q1, q3, q4⟩ | ⟨q1, q3, q4⟩)
   ·obtain ⟨w, hw, e, _⟩ := has q3;subst e;exact ⟨w, hw, (key w hw).2 (.inl ⟨q1, rfl, q3, q4⟩)⟩
   ·obtain ⟨w, hw, e, _⟩ := has q3;have e : y = w.y + 1 := by omega
    subst e;rw [show w.y + 1 - 1 = w.y by omega] at q3;exact ⟨w, hw, (key w hw).2 (.inr (.inl ⟨q1, rfl, q3, q4⟩))⟩
   ·obtain ⟨w, hw, e, _⟩ := has q3;subst e;exact ⟨w, hw, (key w hw).2 (.inr (.inr (.inl ⟨q1, rfl, q3, q4⟩)))⟩
   ·obtain ⟨w, hw, e, _⟩ := has q3;have e : y = w.y + 1 := by omega
    subst e;rw [show w.y + 1 - 1 = w.y by omega] at q3 q4;exact ⟨w, hw, (key w hw).2 (.inr (.inr (.inr ⟨q1, rfl, q3, q4⟩)))⟩
 rw [k2];cases h <;> simp [isC, lcell, rcell, Sof]
theorem zsc {R : List Row} (hv : zo R = true) : zhb (Sof R) (zae R) := zee hv

theorem run_nodup {f : Nat -> Crk} (hf : ∀ i j, f i = f j -> i = j) (n : Nat) : ((List.range n).map f).Nodup := by
 unfold List.Nodup;rw [List.pairwise_map];exact List.nodup_range.imp fun {a b} h e => h (hf _ _ e)
theorem rowCr_nodup {R : List Row} (hv : zo R = true) {w : Row} (hw : w ∈ R) : (zfj R w).Nodup := by
 unfold zfj;rw [<- zfp hv hw];obtain ⟨a1, _⟩ := zkv hv w.y (w.y - 1);obtain ⟨b1, _⟩ := zkv hv w.y (w.y + 1);have ap := rowOf_ap hv w.y;generalize sweep fD (zy R w.y) (zy R (w.y - 1)) = L1 at *;generalize sweep fD (zy R w.y) (zy R (w.y + 1)) = L2 at *;have hE : ∀ c ∈ L1.flatMap (ztg w.y), c.h = .e := fun c hc => by
  obtain ⟨r, hr, hm⟩ := List.mem_flatMap.1 hc;exact ((znn (a1.1 r hr)).1 hm).1
 have hW : ∀ c ∈ L2.flatMap (zqs w.y), c.h = .w := fun c hc => by
  obtain ⟨r, hr, hm⟩ := List.mem_flatMap.1 hc;exact ((znm (b1.1 r hr)).1 hm).1
 have hV : ∀ c ∈ (zy R w.y).flatMap (vRun w.y), c.h = .n \/ c.h = .s := fun c hc => by
  obtain ⟨r, hr, hm⟩ := List.mem_flatMap.1 hc;rcases zrl.1 hm with h | h
  ·exact .inl h.1
  ·exact .inr h.1
 rw [List.nodup_append, List.nodup_append];refine ⟨?_, ⟨?_, ?_, fun a ha b hb e => ?_⟩, fun a ha b hb e => ?_⟩
 ·unfold List.Nodup;rw [List.pairwise_flatMap];refine ⟨fun r hr => run_nodup (fun i j e => by simp at e; omega) _, List.Pairwise.imp_of_mem (fun {r p} hr hp h => ?_) a1.2⟩;intro x hx y hy e;obtain ⟨_, _, _, k1⟩ := (znn (a1.1 r hr)).1 hx;obtain ⟨_, _, k2, _⟩ := (znn (a1.1 p hp)).1 hy;rw [e] at k1; omega
 ·unfold List.Nodup;rw [List.pairwise_flatMap];refine ⟨fun r hr => run_nodup (fun i j e => by simp at e; omega) _, List.Pairwise.imp_of_mem (fun {r p} hr hp h => ?_) b1.2⟩;intro x hx y hy e;obtain ⟨_, _, _, k1⟩ := (znm (b1.1 r hr)).1 hx;obtain ⟨_, _, k2, _⟩ := (znm (b1.1 p hp)).1 hy;rw [e] at k1; omega
 ·unfold List.Nodup;rw [List.pairwise_flatMap];refine ⟨fun r hr => by simp [vRun], List.Pairwise.imp_of_mem (fun {r p} hr hp h => ?_) ap.2⟩;intro x hx y hy e;have l1 := ap.1 r hr;have l2 := ap.1 p hp;rw [e] at hx;rcases zrl.1 hx with ⟨k1, _, k2⟩ | ⟨k1, _, k2⟩ <;> rcases zrl.1 hy with ⟨k3, _, k4⟩ | ⟨k3, _, k4⟩
  ·omega
  ·rw [k1] at k3; cases k3
  ·rw [k1] at k3; cases k3
  ·omega
 ·have h1 := hW a ha;have h2 := hV b hb;rw [e] at h1; rw [h1] at h2; simp at h2
 ·have h1 := hE a ha;rw [e] at h1;rcases List.mem_append.1 hb with hb | hb
  ·have h2 := hW b hb; rw [h1] at h2; cases h2
  ·have h2 := hV b hb; rw [h1] at h2; simp at h2
theorem rowCr_y {R : List Row} (hv : zo R = true) {w : Row} (hw : w ∈ R) {c : Crk} (hc : c ∈ zfj R w) : c.p.y = (match c.h with | .e => w.y | .n => w.y | .w => w.y + 1 | .s => w.y + 1) := by
 unfold zfj at hc;rw [<- zfp hv hw] at hc;obtain ⟨a1, _⟩ := zkv hv w.y (w.y - 1);obtain ⟨b1, _⟩ := zkv hv w.y (w.y + 1);simp only [List.mem_append, List.mem_flatMap] at hc;rcases hc with ⟨r, hr, h⟩ | ⟨r, hr, h⟩ | ⟨r, hr, h⟩
 ·obtain ⟨h1, h2, _⟩ := (znn (a1.1 r hr)).1 h; rw [h1]; exact h2
 ·obtain ⟨h1, h2, _⟩ := (znm (b1.1 r hr)).1 h; rw [h1]; exact h2
 ·rcases zrl.1 h with ⟨h1, h2, _⟩ | ⟨h1, h2, _⟩ <;> rw [h1] <;> exact h2
theorem zjb {R : List Row} (hv : zo R = true) : (zae R).Nodup := by
 unfold zae List.Nodup;rw [List.pairwise_flatMap];refine ⟨fun w hw => rowCr_nodup hv hw, List.Pairwise.imp_of_mem (fun {w v} hw hv' h => ?_) (ziw hv)⟩;intro x hx y hy e;have h1 := rowCr_y hv hw hx;have h2 := rowCr_y hv hv' hy;rw [<- e] at h2;rw [h1] at h2;cases hh : x.h <;> simp only [hh] at h2 <;> omega
theorem zws {R : List Row} (hv : zo R = true) {c : Crk} (hc : c ∈ zae R) : (-4096 <= c.p.x /\ c.p.x <= 4096) /\ -4096 <= c.p.y /\ c.p.y <= 4096 := by
 have h := (zee hv c).1 hc;simp only [isC, Bool.and_eq_true] at h;obtain ⟨⟨x, y⟩, k⟩ := c;have h1 := zrb hv h.1;cases k <;> simp only [lcell] at h1 ⊢ <;> omega
def crks (c : zf) : List Crk := [⟨c, .e⟩, ⟨⟨c.x + 1, c.y⟩, .n⟩, ⟨⟨c.x + 1, c.y + 1⟩, .w⟩, ⟨⟨c.x, c.y + 1⟩, .s⟩]
theorem mem_crks {c : Crk} {d : zf} : c ∈ crks d ↔ lcell c.h c.p = d := by
 obtain ⟨⟨x, y⟩, k⟩ := c;obtain ⟨u, v⟩ := d;cases k <;> simp [crks, lcell] <;> omega
theorem flat4_len : ∀ (l : List zf), (l.flatMap crks).length = 4 * l.length
 | [] => rfl
 | c :: l => by rw [List.flatMap_cons, List.length_append, flat4_len l]; simp [crks]; omega
theorem collect_len {R : List Row} (hv : zo R = true) : (zae R).length <= 4 * (zl R).length := by
 rw [<- flat4_len];refine zmt (zjb hv) fun c hc => ?_;have h := (zee hv c).1 hc;simp only [isC, Bool.and_eq_true] at h;exact List.mem_flatMap.2 ⟨_, (znf hv _).2 h.1, mem_crks.2 rfl⟩

theorem zej.nil : zej [] fun _ => False := ⟨by simp, by simp [zan], by simp [zan]⟩
theorem zej.add {A : List (zf × List Hd)} {rem : Crk -> Prop} (h : zej A rem) {c : Crk} (hc : ¬ rem c) : zej (zfq A c) fun d => rem d \/ d = c := by
 unfold zfq;refine ⟨keys_put h.keys _ _, fun p hs hp => ?_, fun p k => ?_⟩
 ·rw [zdc] at hp;split at hp
  ·cases hp;refine ⟨by simp, ?_⟩;have hn : (zab A c.p).Nodup := by
    unfold zab;cases hg : zan A c.p with
    | none => exact List.nodup_nil
    | some hs => exact (h.some _ _ hg).2
   rw [List.nodup_append];refine ⟨hn, by simp, fun a ha b hb e => ?_⟩;simp at hb; subst hb; subst e;exact hc ((h.heads _ _).1 ha)
  ·exact h.some _ _ hp
 ·rw [zdc];by_cases e : p = c.p
  ·subst e;rw [if_pos rfl];simp only [Option.some.injEq, exists_eq_left', List.mem_append, List.mem_singleton, h.heads];constructor
   ·rintro (h1 | h1)
    ·exact .inl h1
    ·right; exact congrArg Crk.h h1
   ·rintro (h1 | h1)
    ·exact .inl h1
    ·right; rw [h1]
  ·rw [if_neg e, <- h.mem];constructor
   ·rintro (h1 | h1)
    ·exact h1
    ·exact absurd (congrArg Crk.p h1) e
   ·exact .inl
theorem zej.addAll : ∀ {l : List Crk} {A : List (zf × List Hd)} {rem : Crk -> Prop}, zej A rem -> l.Nodup -> (∀ c ∈ l, ¬ rem c) -> zej (addAll A l) fun d => rem d \/ d ∈ l
 | [], A, rem, h, _, _ => h.congr fun c => by simp
 | c :: l, A, rem, h, hn, hl => by
  obtain ⟨h1, h2⟩ := List.nodup_cons.1 hn;have := zej.addAll (h.add (hl c (by simp))) h2 fun d hd k => by
   rcases k with k | k
   ·exact hl d (by simp [hd]) k
   ·exact h1 (k ▸ hd)
  exact this.congr fun d => by simp [or_assoc]
theorem collect_map {R : List Row} (hv : zo R = true) : zej (addAll [] (zae R)) fun c => isC (Sof R) c = true :=
 (zej.nil.addAll (zjb hv) (by simp)).congr fun c => by simp [zee hv]

theorem zjc {R : List Row} (hv : zo R = true) (c : zf) : Sof R c = true ↔ c ∈ zl R := (znf hv c).symm
theorem crk_adj (c : Crk) : zao false (lcell c.h c.p) (rcell c.h c.p) = true := by
 obtain ⟨⟨x, y⟩, h⟩ := c;have key : ∀ a b : zf, (a.x = b.x /\ (b.y = a.y + 1 \/ b.y = a.y - 1)) \/ (a.y = b.y /\ (b.x = a.x + 1 \/ b.x = a.x - 1)) -> zao false a b = true := fun a b h => by
  simp [zao]; omega
 cases h
 ·exact key ⟨x, y⟩ ⟨x, y - 1⟩ (by simp)
 ·exact key ⟨x - 1, y⟩ ⟨x, y⟩ (by simp)
 ·exact key ⟨x - 1, y - 1⟩ ⟨x - 1, y⟩ (by simp)
 ·exact key ⟨x, y - 1⟩ ⟨x - 1, y - 1⟩ (by simp)
theorem flat_perm {L : List (List Row)} {C : List Crk} (hn : (L.flatMap zae).Nodup) (hC : C.Nodup) (h : ∀ c, c ∈ C ↔ ∃ P ∈ L, c ∈ zae P) : (L.map fun P => (zae P).length).sum = C.length := by
 have hp : (L.flatMap zae).Perm C := (List.perm_ext_iff_of_nodup hn hC).2 fun c => by rw [List.mem_flatMap, h]
 rw [<- hp.length_eq, List.length_flatMap]
theorem parts_len {R : List Row} (hv : zo R = true) : ((zaz R).map fun P => (zae P).length).sum = (zae R).length := by
 have hsub : ∀ P ∈ zaz R, ∃ i g, (zaz R)[i]? = some P /\ (zeb (zl R) (zao false))[i]? = some g /\ zo P = true /\ zl P = g := fun P hP => by
  obtain ⟨i, hi⟩ := List.mem_iff_getElem?.1 hP;obtain ⟨g, hg, _, h1, h2⟩ := zwr hv hi;exact ⟨i, g, hi, hg, h1, h2⟩
 have hin : ∀ {g : List zf}, g ∈ zeb (zl R) (zao false) -> ∀ c ∈ g, c ∈ zl R := fun {g} hg c hc => by
  obtain ⟨_, _, _, rfl, _⟩ := zvy hg;exact (zfr.1 hc).1
 refine flat_perm ?_ (zjb hv) fun c => ?_
 ·unfold List.Nodup;rw [List.pairwise_flatMap];refine ⟨fun P hP => ?_, ?_⟩
  ·obtain ⟨_, _, _, _, h1, _⟩ := hsub P hP;exact zjb h1
  ·rw [List.pairwise_iff_getElem];intro i j hi hj hij x hx y hy e;subst e;obtain ⟨g, hg, _, v1, m1⟩ := zwr hv (List.getElem?_eq_getElem hi);obtain ⟨g', hg', _, v2, m2⟩ := zwr hv (List.getElem?_eq_getElem hj);have l1 := (zee v1 x).1 hx;have l2 := (zee v2 x).1 hy;simp only [isC, Bool.and_eq_true] at l1 l2;have k1 := (zjc v1 _).1 l1.1;have k2 := (zjc v2 _).1 l2.1;rw [m1] at k1;rw [m2] at k2;exact zpk adjS hg hg' (by omega) k1 k2 (.refl (hin (List.mem_of_getElem? hg) _ k1))
 ·rw [zee hv];simp only [isC, Bool.and_eq_true, Bool.not_eq_true'];constructor
  ·rintro ⟨h1, h2⟩;have hl := (zjc hv _).1 h1;obtain ⟨g, hg, hm⟩ := zue (adj := zao false) hl;obtain ⟨i, hi⟩ := List.mem_iff_getElem?.1 hg;have hcl : cellsOf R = zl R := by unfold cellsOf; rw [if_pos hv]
   have hci : (zaz R)[i]? = some (ofR g) := by unfold zaz; rw [hcl, List.getElem?_map, hi]; rfl
   obtain ⟨g', hg', _, v1, m1⟩ := zwr hv hci;rw [hi] at hg';cases hg';refine ⟨_, List.mem_of_getElem? hci, (zee v1 c).2 ?_⟩;simp only [isC, Bool.and_eq_true, Bool.not_eq_true'];refine ⟨(zjc v1 _).2 (by rw [m1]; exact hm), ?_⟩;cases hr : Sof (ofR g) (rcell c.h c.p) with
   | false => rfl
   | true =>
    have := (zjc v1 _).1 hr;rw [m1] at this;have := (zjc hv _).2 (hin hg _ this);rw [this] at h2; cases h2
  ·rintro ⟨P, hP, hc⟩;obtain ⟨i, g, hi, hg, v1, m1⟩ := hsub P hP;have hc := (zee v1 c).1 hc;simp only [isC, Bool.and_eq_true, Bool.not_eq_true'] at hc;have k1 := (zjc v1 _).1 hc.1;rw [m1] at k1;have hl := hin (List.mem_of_getElem? hg) _ k1;refine ⟨(zjc hv _).2 hl, ?_⟩;cases hr : Sof R (rcell c.h c.p) with
   | false => rfl
   | true =>
    have hrm := (zjc hv _).1 hr;obtain ⟨g', hg', hm'⟩ := zue (adj := zao false) hrm;obtain ⟨j, hj⟩ := List.mem_iff_getElem?.1 hg';by_cases e : i = j
    ·subst e;rw [hg] at hj;cases hj;have := (zjc v1 _).2 (by rw [m1]; exact hm');rw [this] at hc;exact absurd hc.2 (by simp)
    ·exact absurd (.step (.refl hl) hrm (crk_adj c)) (zpk adjS hg hj e k1 hm')
end Go.Proofs.YtdddknniooimmaaGreat

namespace Go.Proofs.YtdddknniooimmaaGreat
open Go.Abs Go.Shelf

theorem zvo {n : Nat} {tm : List (Nat × AV)} {nxt : Nat} {e m : Nat} {H : List (Nat × Option Ob)} {S : List (List (List D))} (h : (H.all fun x => Nat.blt x.1 1000000) = true) : ∀ j, (⟨n, tm, H ++ dyn e m 0 S, nxt⟩ : St).obj (1000000 + j) = (S[j]?).map fun r => (⟨e, m, dr r⟩ : Ob) := by
 intro j;simp only [St.obj];rw [zw, zky h (by omega), Option.none_or, zau];cases S[j]? <;> rfl
theorem mdata_kl (A : List (zf × List Hd)) : mdata (kl A) = zfa A := by simp [mdata, kl, zmo]
theorem runs_bd {l : List Run} (h : zfm l = true) : ∀ r ∈ l, -4096 <= r.a /\ r.a < r.b /\ r.b <= 4096 := fun r hr => by
 obtain ⟨_, ha, hb⟩ := zfd.1 h;have := hb r hr;exact ⟨this.1, ha.1 r hr, this.2⟩
theorem sub_in {l b : List Run} (h : zfm l = true) (hb : zal b = true) : zfn (sweep fD l b) /\ ∀ r ∈ sweep fD l b, -4096 <= r.a /\ r.b <= 4096 := by
 obtain ⟨h1, h2⟩ := zda (f := fD) rfl (zfc h) hb;refine ⟨h1, zfi h1 fun y hy => ?_⟩;rw [h2] at hy;simp only [fD, Bool.and_eq_true] at hy;obtain ⟨r, hr, h3, h4⟩ := zai.1 hy.1;have := runs_bd h r hr;omega
theorem sub_bd {l b : List Run} (h : zfm l = true) (hb : zal b = true) : ∀ r ∈ sweep fD l b, -4096 <= r.a /\ r.a < r.b /\ r.b <= 4096 := fun r hr => by
 obtain ⟨h1, h2⟩ := sub_in h hb;have := h2 r hr;exact ⟨this.1, h1.1 r hr, this.2⟩
theorem sub_len {l b : List Run} (h : zfm l = true) (hb : zal b = true) : (sweep fD l b).length <= 1000000 := by
 obtain ⟨h1, h2⟩ := sub_in h hb;have := zte h1 h2;omega
theorem zoy {R : List Row} (hR : zbw R) (y : Int) : (zy R y).length <= 1000000 := by
 unfold zy;cases hf : R.find? (fun w => decide (w.y = y)) with
 | none => simp
 | some w => exact hR.2 w (List.mem_of_find?_eq_some hf)
set_option maxHeartbeats 64000000 in
theorem collect_px (R : List Row) (hv : zo R = true) (hR : zbw R) (hbig : (zae R).length <= 10000000) : PX Tryz.prog 86 [.d (.agg (zp R))] [] [] [(0, ⟨118, mapM, dr (zfa (addAll [] (zae R)))⟩)] (.hm 0) := by
 have hl := hR.1;obtain ⟨full, hfull⟩ : ∃ full, full = zae R := ⟨_, rfl⟩
 rw [<- hfull] at hbig ⊢;have hrow : ∀ i w, R[i]? = some w -> (R.drop i).flatMap (zfj R) = zfj R w ++ (R.drop (i + 1)).flatMap (zfj R) := fun i w h => by rw [zob h, List.flatMap_cons]
 have hk0 : (kl []).length <= 100000000 := by simp [kl]
 refine zeo cx (fn := Tryz.f86) (c := _) 0 Tryz.func86 rfl rfl (lB rfl) rfl rfl fun Ls => ?_;rw [Tryz.ntmps86]; refine Nav.imp ?_;iterate 3 refine rg cx ?_
 refine zu (β := Nat × List (zf × List Hd)) (fun s => ⟨106, [(1, .ptr 0 0 0), (3, .hm 1), (18, .d (zz R)), (19, .d (.int .i64 R.length)), (20, .d (.int .i64 s.1))], (1, some ⟨118, mapM, zay (zak (kl (s.2)).length) (kl (s.2))⟩) :: [(0, some ⟨24, 1, [[.d (zz R)]]⟩)] ++ dyn 178 1 0 (SA (kl (s.2))), 1000000000000⟩) (fun s => s.1 <= R.length /\ Acc full s.2 ((R.drop s.1).flatMap (zfj R))) (fun s => R.length - s.1) (0, []) ?_ ⟨Nat.zero_le _, ⟨[], rfl, by simp [hfull, zae]⟩⟩ ?_
 ·refine zbz (A := kl []) [(0, some 0), (1, some 2)] (zak (kl []).length) [(0, some ⟨24, 1, [[.d (zz R)]]⟩)] 1 2 rfl rfl rfl (by omega) (zr _) rfl ?_ rfl ?_ ?_ ?_ ?_ (zaw _) ?_ ?_
  ·simp [upT, up, upL, push_cast, zw, zaa]
  ·simp [push_cast, zac, zay, kl, zak]
  ·simp [upH, upR, upL, up, push_cast, zw, zac, zaa]
  ·simp [zg, push_cast]
  ·simp [zq]
  ·intro x hx; simp [kl, zak] at hx
  ·intro q x p hx hp1; simp [kl] at hp1
 ·rintro ⟨i, A⟩ ⟨hi, hacc⟩;simp only at hi hacc;have ga := hacc.good hbig;refine Nav.imp ?_;refine rg cx ?_;refine awp_cd (decide ((i : Int) < R.length)) (fun hb => ?_) fun hb => ?_
  ·have hlt : i < R.length := by simpa using hb
   obtain ⟨w, hw⟩ := zap hlt;have c1 := around_ok R i w hv hR hw;have e0 := wI ((i : Int) + 1);obtain ⟨hy, hfw⟩ := zdv hv hw;have hB := zdb hv (w.y - 1);have hU := zdb hv (w.y + 1);have hBl : (zy R (w.y - 1)).length <= 1000000 := zoy hR _;have hUl : (zy R (w.y + 1)).length <= 1000000 := zoy hR _;have hwl := hR.2 w (List.mem_of_getElem? hw);have c2 := zma w.runs _ hwl hBl (zfc hfw) hB;have c3 := zma w.runs _ hwl hUl (zfc hfw) hU;have hL1 := sub_bd hfw hB;have hL2 := sub_bd hfw hU;have hrs := runs_bd hfw;have hR1 := zfj R w;rw [hrow i w hw] at hacc;generalize hT3 : (R.drop (i + 1)).flatMap (zfj R) = T3 at hacc;unfold zfj at hacc;simp only [List.append_assoc] at hacc;have hLl1 := sub_len hfw hB;have hLl2 := sub_len hfw hU;clear hrow;obtain ⟨y, rs⟩ := w;simp only at *;generalize zy R (y - 1) = B at *;generalize zy R (y + 1) = U at *;generalize sweep fD rs B = L1 at *;generalize sweep fD rs U = L2 at *;refine rx cx [] (fun K hK => by simp [push_cast, hw]; (repeat refine ob ?_); exact hK) ?_;refine rx cx [(2, .p (.tup [zm B, zm U]))] (fun K hK => by simp [push_cast, c1]; (repeat refine ob ?_); exact hK) ?_;refine rx cx [(3, .p (zm L1))] (fun K hK => by simp [push_cast, c2]; (repeat refine ob ?_); exact hK) ?_;have hL := hL1;generalize hT : L2.flatMap (zqs y) ++ (rs.flatMap (vRun y) ++ T3) = T at hacc;refine zu (β := Nat × List (zf × List Hd)) (fun s => ⟨106, [(1, .ptr 0 0 0), (3, .hm 1), (18, .d (zz R)), (19, .d (.int .i64 R.length)), (20, .d (.int .i64 i)), (5, .ptr 2 0 0), (7, .d (zm U)), (34, .d (zm L1)), (35, .d (.int .i64 L1.length)), (36, .d (.int .i64 s.1))], (1, some ⟨118, mapM, zay (zak (kl (s.2)).length) (kl (s.2))⟩) :: [(0, some ⟨24, 1, [[.d (zz R)]]⟩), (2, some ⟨65, 2, [[.d (.int .i64 y), .d (zm rs)]]⟩)] ++ dyn 178 1 0 (SA (kl (s.2))), 1000000000000⟩) (fun s => s.1 <= L1.length /\ Acc full s.2 ((L1.drop s.1).flatMap (ztg y) ++ T)) (fun s => L1.length - s.1) (0, A) ?_ ⟨Nat.zero_le _, by simpa using hacc⟩ ?_
   ·refine zbz (A := kl (A)) [(0, some 0), (1, some 1), (2, some 1000000000004)] (zak (kl (A)).length) [(0, some ⟨24, 1, [[.d (zz R)]]⟩), (2, some ⟨65, 2, [[.d (.int .i64 y), .d (zm rs)]]⟩)] 1 1 rfl rfl rfl (by have := ga.2.1; omega) (zr _) rfl ?_ rfl ?_ ?_ ?_ ?_ (zaw _) ?_ ?_
    ·simp [upT, up, upL, push_cast, zw, zaa]
    ·simp [push_cast, zac]
    ·simp [upH, upR, upL, up, push_cast, zw, zac, zaa]
    ·simp [zg, push_cast]
    ·simp [zq]
    ·intro x hx; have h1 := zbb.1 hx; have := ga.2.1; simp [zq]; omega
    ·intro q x p hx hp1; obtain ⟨hq, rfl⟩ := zas hx; have := ga.2.1;have hz := fun (e m : Nat) => zef (e := e) (m := m) hp1;simp [push_cast, zau, hz]
     repeat rw [if_neg (by omega)]
     try rfl
   ·rintro ⟨k, A⟩ ⟨hk, hacc⟩;simp only at hk hacc;have gk := hacc.good hbig;refine Nav.imp ?_;refine rg cx ?_;refine awp_cd (decide ((k : Int) < L1.length)) (fun hb => ?_) fun hb => ?_
    ·have hlt : k < L1.length := by simpa using hb
     obtain ⟨r, hr⟩ := zap hlt;have hrb := hL r (List.mem_of_getElem? hr);have e0 := wI ((k : Int) + 1);rw [zob hr, List.flatMap_cons, List.append_assoc] at hacc;refine rx cx [] (fun K hK => by simp [push_cast, hr]; (repeat refine ob ?_); exact hK) ?_;refine rg cx ?_;generalize hT1 : (L1.drop (k + 1)).flatMap (ztg y) ++ T = T1 at hacc;refine zu (β := Nat × List (zf × List Hd)) (fun s => ⟨106, [(1, .ptr 0 0 0), (3, .hm 1), (18, .d (zz R)), (19, .d (.int .i64 R.length)), (20, .d (.int .i64 i)), (5, .ptr 2 0 0), (7, .d (zm U)), (34, .d (zm L1)), (35, .d (.int .i64 L1.length)), (36, .d (.int .i64 k)), (9, .ptr 3 0 0), (10, .d (.int .i64 (r.a + s.1)))], (1, some ⟨118, mapM, zay (zak (kl (s.2)).length) (kl (s.2))⟩) :: [(0, some ⟨24, 1, [[.d (zz R)]]⟩), (2, some ⟨65, 2, [[.d (.int .i64 y), .d (zm rs)]]⟩), (3, some ⟨85, 2, [[.d (.int .i64 r.a), .d (.int .i64 r.b)]]⟩)] ++ dyn 178 1 0 (SA (kl (s.2))), 1000000000000⟩) (fun s => s.1 <= (r.b - r.a).toNat /\ Acc full s.2 ((ztg y r).drop s.1 ++ T1)) (fun s => (r.b - r.a).toNat - s.1) (0, A) ?_ ⟨Nat.zero_le _, by simpa using hacc⟩ ?_
     ·simp only [Int.natCast_zero, Int.add_zero];refine zbz (A := kl (A)) [(0, some 0), (1, some 1), (2, some 2), (3, some 1000000000003)] (zak (kl (A)).length) [(0, some ⟨24, 1, [[.d (zz R)]]⟩), (2, some ⟨65, 2, [[.d (.int .i64 y), .d (zm rs)]]⟩), (3, some ⟨85, 2, [[.d (.int .i64 r.a), .d (.int .i64 r.b)]]⟩)] 1 1 rfl rfl rfl (by have := gk.2.1; omega) (zr _) rfl ?_ rfl ?_ ?_ ?_ ?_ (zaw _) ?_ ?_
      ·simp [upT, up, upL, push_cast, zw, zaa]
      ·simp [push_cast, zac]
      ·simp [upH, upR, upL, up, push_cast, zw, zac, zaa]
      ·simp [zg, push_cast]
      ·simp [zq]
      ·intro x hx; have h1 := zbb.1 hx; have := gk.2.1; simp [zq]; omega
      ·intro q x p hx hp1; obtain ⟨hq, rfl⟩ := zas hx; have := gk.2.1;have hz := fun (e m : Nat) => zef (e := e) (m := m) hp1;simp [push_cast, zau, hz]
       repeat rw [if_neg (by omega)]
       try rfl
     ·rintro ⟨j, A⟩ ⟨hj, hacc⟩;simp only at hj hacc;have gj := hacc.good hbig;refine Nav.imp ?_;refine rg cx ?_;refine awp_cd (decide (r.a + (j : Int) < r.b)) (fun hb => ?_) fun hb => ?_
      ·have hjl : j < (r.b - r.a).toNat := by simp at hb; omega
       rw [eRun_drop y r hjl, List.cons_append] at hacc;have hacc2 := hacc.next;have gjn := (hacc2.good hbig).2.1;have e1 := wI (r.a + (j : Int) + 1)

       refine zhx cx [] [_, _, _, _, _] _ rfl rfl rfl rfl ⟨106, [(48, .hm 1), (52, .d (.agg (⟨⟨r.a + (j : Int), y⟩, .e⟩ : Crk).p.row)), (1, .ptr 0 0 0), (3, .hm 1), (18, .d (zz R)), (19, .d (.int .i64 R.length)), (20, .d (.int .i64 i)), (5, .ptr 2 0 0), (7, .d (zm U)), (34, .d (zm L1)), (35, .d (.int .i64 L1.length)), (36, .d (.int .i64 k)), (9, .ptr 3 0 0), (10, .d (.int .i64 (r.a + j)))], (1, some ⟨118, mapM, zay (zak (kl (A)).length) (kl (A))⟩) :: [(0, some ⟨24, 1, [[.d (zz R)]]⟩), (2, some ⟨65, 2, [[.d (.int .i64 y), .d (zm rs)]]⟩), (3, some ⟨85, 2, [[.d (.int .i64 r.a), .d (.int .i64 r.b)]]⟩)] ++ dyn 178 1 0 (SA (kl (A))), 1000000000000⟩ 138 [] rfl [.hm 0, .d (.agg (⟨⟨r.a + (j : Int), y⟩, .e⟩ : Crk).p.row), .d (.int .i64 0)] (kl (A)) (kl (zfq (A) (⟨⟨r.a + (j : Int), y⟩, .e⟩ : Crk))) 1 rfl (by decide) (zvo rfl) (Nat.le_refl _) (add_px (A) (⟨⟨r.a + (j : Int), y⟩, .e⟩ : Crk) gj.1 gj.2.2) (by have := gj.2.1; omega) (by have := gjn; omega) (by simp [zen, rn, push_cast]) (lB rfl) [(0, some 0), (1, some 1), (2, some 2), (3, some 3)] [(1, .ptr 0 0 0), (3, .hm 1), (18, .d (zz R)), (19, .d (.int .i64 R.length)), (20, .d (.int .i64 i)), (5, .ptr 2 0 0), (7, .d (zm U)), (34, .d (zm L1)), (35, .d (.int .i64 L1.length)), (36, .d (.int .i64 k)), (9, .ptr 3 0 0), (10, .d (.int .i64 (r.a + j)))] [(0, some ⟨24, 1, [[.d (zz R)]]⟩), (2, some ⟨65, 2, [[.d (.int .i64 y), .d (zm rs)]]⟩), (3, some ⟨85, 2, [[.d (.int .i64 r.a), .d (.int .i64 r.b)]]⟩)] rfl rfl rfl rfl (by intro k hk h; simp only [find] at h; (repeat' split at h) <;> simp_all) rfl ?_ ?_ ?_ ?_ ?_ ?_
       ·simp [upT, up, upL, push_cast, zw, zaa]
       ·simp [upH, upR, upL, up, push_cast, zw, zac, zaa]
       ·simp [zg, push_cast]
       ·simp [zq]
       ·intro K hK;simp [push_cast];refine hK _ ?_;refine zbz (A := kl (A)) [(0, some 0), (1, some 1), (2, some 2), (3, some 3)] (zak (kl (A)).length) [(0, some ⟨24, 1, [[.d (zz R)]]⟩), (2, some ⟨65, 2, [[.d (.int .i64 y), .d (zm rs)]]⟩), (3, some ⟨85, 2, [[.d (.int .i64 r.a), .d (.int .i64 r.b)]]⟩)] 1 1 rfl rfl rfl (by have := gj.2.1; omega) (zr _) rfl ?_ rfl ?_ ?_ ?_ ?_ (zaw _) ?_ ?_
        ·simp [upT, up, upL, push_cast, zw, zaa]
        ·simp [push_cast, zac]
        ·simp [upH, upR, upL, up, push_cast, zw, zac, zaa]
        ·simp [zg, push_cast]
        ·simp [zq]
        ·intro x hx; have h1 := zbb.1 hx; have := gj.2.1; simp [zq]; omega
        ·intro q x p hx hp1; obtain ⟨hq, rfl⟩ := zas hx; have := gj.2.1;have hz := fun (e m : Nat) => zef (e := e) (m := m) hp1;simp [push_cast, zau, hz]
         repeat rw [if_neg (by omega)]
         try rfl
       ·refine Nav.imp ?_;refine rx cx [] (fun K hK => by simp [push_cast, e1]; (repeat refine ob ?_); exact hK) ?_;refine ⟨(j + 1, zfq A (⟨⟨r.a + (j : Int), y⟩, .e⟩ : Crk)), ⟨hjl, hacc2⟩, by simp only; omega, ?_⟩;have e2 : r.a + ((j + 1 : Nat) : Int) = r.a + (j : Int) + 1 := by omega
        simp only [e2];refine zbz (A := kl (zfq A (⟨⟨r.a + (j : Int), y⟩, .e⟩ : Crk))) [(0, some 0), (1, some 1), (2, some 2), (3, some 3)] (zak (kl (zfq A (⟨⟨r.a + (j : Int), y⟩, .e⟩ : Crk))).length) [(0, some ⟨24, 1, [[.d (zz R)]]⟩), (2, some ⟨65, 2, [[.d (.int .i64 y), .d (zm rs)]]⟩), (3, some ⟨85, 2, [[.d (.int .i64 r.a), .d (.int .i64 r.b)]]⟩)] 1 1 rfl rfl rfl (by have := gjn; omega) (zr _) rfl ?_ rfl ?_ ?_ ?_ ?_ (zaw _) ?_ ?_
        ·simp [upT, up, upL, push_cast, zw, zaa]
        ·simp [push_cast, zac]
        ·simp [upH, upR, upL, up, push_cast, zw, zac, zaa]
        ·simp [zg, push_cast]
        ·simp [zq]
        ·intro x hx; have h1 := zbb.1 hx; have := gjn; simp [zq]; omega
        ·intro q x p hx hp1; obtain ⟨hq, rfl⟩ := zas hx; have := gjn;have hz := fun (e m : Nat) => zef (e := e) (m := m) hp1;simp [push_cast, zau, hz]
         repeat rw [if_neg (by omega)]
         try rfl
      ·have hje : (r.b - r.a).toNat <= j := by simp at hb; omega
       rw [eRun_end y r hje, List.nil_append, <- hT1] at hacc;refine rx cx [] (fun K hK => by simp [push_cast, e0]; (repeat refine ob ?_); exact hK) ?_;refine ⟨(k + 1, A), ⟨hlt, hacc⟩, by simp only; omega, ?_⟩;refine zbz (A := kl (A)) [(0, some 0), (1, some 1), (2, some 2)] (zak (kl (A)).length) [(0, some ⟨24, 1, [[.d (zz R)]]⟩), (2, some ⟨65, 2, [[.d (.int .i64 y), .d (zm rs)]]⟩)] 1 1 rfl rfl rfl (by have := gj.2.1; omega) (zr _) rfl ?_ rfl ?_ ?_ ?_ ?_ (zaw _) ?_ ?_
       ·simp [upT, up, upL, push_cast, zw, zaa]
       ·simp [push_cast, zac]
       ·simp [upH, upR, upL, up, push_cast, zw, zac, zaa]
       ·simp [zg, push_cast]
       ·simp [zq]
       ·intro x hx; have h1 := zbb.1 hx; have := gj.2.1; simp [zq]; omega
       ·intro q x p hx hp1; obtain ⟨hq, rfl⟩ := zas hx; have := gj.2.1;have hz := fun (e m : Nat) => zef (e := e) (m := m) hp1;simp [push_cast, zau, hz]
        repeat rw [if_neg (by omega)]
        try rfl
    ·have hke : k = L1.length := by simp at hb; omega
     subst hke;rw [List.drop_length, List.flatMap_nil, List.nil_append] at hacc;rw [<- hT] at hacc;have ga := hacc.good hbig;have hL := hL2;clear hT;generalize hT : rs.flatMap (vRun y) ++ T3 = T at hacc;refine rx cx [(3, .p (zm L2))] (fun K hK => by simp [push_cast, c3]; (repeat refine ob ?_); exact hK) ?_;refine zu (β := Nat × List (zf × List Hd)) (fun s => ⟨106, [(1, .ptr 0 0 0), (3, .hm 1), (18, .d (zz R)), (19, .d (.int .i64 R.length)), (20, .d (.int .i64 i)), (5, .ptr 2 0 0), (58, .d (zm L2)), (59, .d (.int .i64 L2.length)), (60, .d (.int .i64 s.1))], (1, some ⟨118, mapM, zay (zak (kl (s.2)).length) (kl (s.2))⟩) :: [(0, some ⟨24, 1, [[.d (zz R)]]⟩), (2, some ⟨65, 2, [[.d (.int .i64 y), .d (zm rs)]]⟩)] ++ dyn 178 1 0 (SA (kl (s.2))), 1000000000000⟩) (fun s => s.1 <= L2.length /\ Acc full s.2 ((L2.drop s.1).flatMap (zqs y) ++ T)) (fun s => L2.length - s.1) (0, A) ?_ ⟨Nat.zero_le _, by simpa using hacc⟩ ?_
     ·refine zbz (A := kl (A)) [(0, some 0), (1, some 1), (2, some 2)] (zak (kl (A)).length) [(0, some ⟨24, 1, [[.d (zz R)]]⟩), (2, some ⟨65, 2, [[.d (.int .i64 y), .d (zm rs)]]⟩)] 1 1 rfl rfl rfl (by have := ga.2.1; omega) (zr _) rfl ?_ rfl ?_ ?_ ?_ ?_ (zaw _) ?_ ?_
      ·simp [upT, up, upL, push_cast, zw, zaa]
      ·simp [push_cast, zac]
      ·simp [upH, upR, upL, up, push_cast, zw, zac, zaa]
      ·simp [zg, push_cast]
      ·simp [zq]
      ·intro x hx; have h1 := zbb.1 hx; have := ga.2.1; simp [zq]; omega
      ·intro q x p hx hp1; obtain ⟨hq, rfl⟩ := zas hx; have := ga.2.1;have hz := fun (e m : Nat) => zef (e := e) (m := m) hp1;simp [push_cast, zau, hz]
       repeat rw [if_neg (by omega)]
       try rfl
     ·rintro ⟨k, A⟩ ⟨hk, hacc⟩;simp only at hk hacc;have gk := hacc.good hbig;refine Nav.imp ?_;refine rg cx ?_;refine awp_cd (decide ((k : Int) < L2.length)) (fun hb => ?_) fun hb => ?_
      ·have hlt : k < L2.length := by simpa using hb
       obtain ⟨r, hr⟩ := zap hlt;have hrb := hL r (List.mem_of_getElem? hr);have e0 := wI ((k : Int) + 1);rw [zob hr, List.flatMap_cons, List.append_assoc] at hacc;refine rx cx [] (fun K hK => by simp [push_cast, hr]; (repeat refine ob ?_); exact hK) ?_;refine rg cx ?_;generalize hT1 : (L2.drop (k + 1)).flatMap (zqs y) ++ T = T1 at hacc;refine zu (β := Nat × List (zf × List Hd)) (fun s => ⟨106, [(1, .ptr 0 0 0), (3, .hm 1), (18, .d (zz R)), (19, .d (.int .i64 R.length)), (20, .d (.int .i64 i)), (5, .ptr 2 0 0), (58, .d (zm L2)), (59, .d (.int .i64 L2.length)), (60, .d (.int .i64 k)), (12, .ptr 3 0 0), (13, .d (.int .i64 (r.a + s.1)))], (1, some ⟨118, mapM, zay (zak (kl (s.2)).length) (kl (s.2))⟩) :: [(0, some ⟨24, 1, [[.d (zz R)]]⟩), (2, some ⟨65, 2, [[.d (.int .i64 y), .d (zm rs)]]⟩), (3, some ⟨85, 2, [[.d (.int .i64 r.a), .d (.int .i64 r.b)]]⟩)] ++ dyn 178 1 0 (SA (kl (s.2))), 1000000000000⟩) (fun s => s.1 <= (r.b - r.a).toNat /\ Acc full s.2 ((zqs y r).drop s.1 ++ T1)) (fun s => (r.b - r.a).toNat - s.1) (0, A) ?_ ⟨Nat.zero_le _, by simpa using hacc⟩ ?_
       ·simp only [Int.natCast_zero, Int.add_zero];refine zbz (A := kl (A)) [(0, some 0), (1, some 1), (2, some 2), (3, some 1000000000003)] (zak (kl (A)).length) [(0, some ⟨24, 1, [[.d (zz R)]]⟩), (2, some ⟨65, 2, [[.d (.int .i64 y), .d (zm rs)]]⟩), (3, some ⟨85, 2, [[.d (.int .i64 r.a), .d (.int .i64 r.b)]]⟩)] 1 1 rfl rfl rfl (by have := gk.2.1; omega) (zr _) rfl ?_ rfl ?_ ?_ ?_ ?_ (zaw _) ?_ ?_
        ·simp [upT, up, upL, push_cast, zw, zaa]
        ·simp [push_cast, zac]
        ·simp [upH, upR, upL, up, push_cast, zw, zac, zaa]
        ·simp [zg, push_cast]
        ·simp [zq]
        ·intro x hx; have h1 := zbb.1 hx; have := gk.2.1; simp [zq]; omega
        ·intro q x p hx hp1; obtain ⟨hq, rfl⟩ := zas hx; have := gk.2.1;have hz := fun (e m : Nat) => zef (e := e) (m := m) hp1;simp [push_cast, zau, hz]
         repeat rw [if_neg (by omega)]
         try rfl
       ·rintro ⟨j, A⟩ ⟨hj, hacc⟩;simp only at hj hacc;have gj := hacc.good hbig;refine Nav.imp ?_;refine rg cx ?_;refine awp_cd (decide (r.a + (j : Int) < r.b)) (fun hb => ?_) fun hb => ?_
        ·have hjl : j < (r.b - r.a).toNat := by simp at hb; omega
         rw [wRun_drop y r hjl, List.cons_append] at hacc;have hacc2 := hacc.next;have gjn := (hacc2.good hbig).2.1;have e1 := wI (r.a + (j : Int) + 1);have e3 := wI (y + 1);refine zhx cx [] [_, _, _, _, _, _, _] _ rfl rfl rfl rfl ⟨106, [(72, .hm 1), (78, .d (.agg (⟨⟨r.a + (j : Int) + 1, y + 1⟩, .w⟩ : Crk).p.row)), (1, .ptr 0 0 0), (3, .hm 1), (18, .d (zz R)), (19, .d (.int .i64 R.length)), (20, .d (.int .i64 i)), (5, .ptr 2 0 0), (58, .d (zm L2)), (59, .d (.int .i64 L2.length)), (60, .d (.int .i64 k)), (12, .ptr 3 0 0), (13, .d (.int .i64 (r.a + j)))], (1, some ⟨118, mapM, zay (zak (kl (A)).length) (kl (A))⟩) :: [(0, some ⟨24, 1, [[.d (zz R)]]⟩), (2, some ⟨65, 2, [[.d (.int .i64 y), .d (zm rs)]]⟩), (3, some ⟨85, 2, [[.d (.int .i64 r.a), .d (.int .i64 r.b)]]⟩)] ++ dyn 178 1 0 (SA (kl (A))), 1000000000000⟩ 138 [] rfl [.hm 0, .d (.agg (⟨⟨r.a + (j : Int) + 1, y + 1⟩, .w⟩ : Crk).p.row), .d (.int .i64 2)] (kl (A)) (kl (zfq (A) (⟨⟨r.a + (j : Int) + 1, y + 1⟩, .w⟩ : Crk))) 1 rfl (by decide) (zvo rfl) (Nat.le_refl _) (add_px (A) (⟨⟨r.a + (j : Int) + 1, y + 1⟩, .w⟩ : Crk) gj.1 gj.2.2) (by have := gj.2.1; omega) (by have := gjn; omega) (by simp [zen, rn, push_cast]) (lB rfl) [(0, some 0), (1, some 1), (2, some 2), (3, some 3)] [(1, .ptr 0 0 0), (3, .hm 1), (18, .d (zz R)), (19, .d (.int .i64 R.length)), (20, .d (.int .i64 i)), (5, .ptr 2 0 0), (58, .d (zm L2)), (59, .d (.int .i64 L2.length)), (60, .d (.int .i64 k)), (12, .ptr 3 0 0), (13, .d (.int .i64 (r.a + j)))] [(0, some ⟨24, 1, [[.d (zz R)]]⟩), (2, some ⟨65, 2, [[.d (.int .i64 y), .d (zm rs)]]⟩), (3, some ⟨85, 2, [[.d (.int .i64 r.a), .d (.int .i64 r.b)]]⟩)] rfl rfl rfl rfl (by intro k hk h; simp only [find] at h; (repeat' split at h) <;> simp_all) rfl ?_ ?_ ?_ ?_ ?_ ?_
         ·simp [upT, up, upL, push_cast, zw, zaa]
         ·simp [upH, upR, upL, up, push_cast, zw, zac, zaa]
         ·simp [zg, push_cast]
         ·simp [zq]
         ·intro K hK;simp [push_cast, e1, e3];refine hK _ ?_;refine zbz (A := kl (A)) [(0, some 0), (1, some 1), (2, some 2), (3, some 3)] (zak (kl (A)).length) [(0, some ⟨24, 1, [[.d (zz R)]]⟩), (2, some ⟨65, 2, [[.d (.int .i64 y), .d (zm rs)]]⟩), (3, some ⟨85, 2, [[.d (.int .i64 r.a), .d (.int .i64 r.b)]]⟩)] 1 1 rfl rfl rfl (by have := gj.2.1; omega) (zr _) rfl ?_ rfl ?_ ?_ ?_ ?_ (zaw _) ?_ ?_
          ·simp [upT, up, upL, push_cast, zw, zaa]
          ·simp [push_cast, zac]
          ·simp [upH, upR, upL, up, push_cast, zw, zac, zaa]
          ·simp [zg, push_cast]
          ·simp [zq]
          ·intro x hx; have h1 := zbb.1 hx; have := gj.2.1; simp [zq]; omega
          ·intro q x p hx hp1; obtain ⟨hq, rfl⟩ := zas hx; have := gj.2.1;have hz := fun (e m : Nat) => zef (e := e) (m := m) hp1;simp [push_cast, zau, hz]
           repeat rw [if_neg (by omega)]
           try rfl
         ·refine Nav.imp ?_;refine rx cx [] (fun K hK => by simp [push_cast, e1]; (repeat refine ob ?_); exact hK) ?_;refine ⟨(j + 1, zfq A (⟨⟨r.a + (j : Int) + 1, y + 1⟩, .w⟩ : Crk)), ⟨hjl, hacc2⟩, by simp only; omega, ?_⟩;have e2 : r.a + ((j + 1 : Nat) : Int) = r.a + (j : Int) + 1 := by omega
          simp only [e2];refine zbz (A := kl (zfq A (⟨⟨r.a + (j : Int) + 1, y + 1⟩, .w⟩ : Crk))) [(0, some 0), (1, some 1), (2, some 2), (3, some 3)] (zak (kl (zfq A (⟨⟨r.a + (j : Int) + 1, y + 1⟩, .w⟩ : Crk))).length) [(0, some ⟨24, 1, [[.d (zz R)]]⟩), (2, some ⟨65, 2, [[.d (.int .i64 y), .d (zm rs)]]⟩), (3, some ⟨85, 2, [[.d (.int .i64 r.a), .d (.int .i64 r.b)]]⟩)] 1 1 rfl rfl rfl (by have := gjn; omega) (zr _) rfl ?_ rfl ?_ ?_ ?_ ?_ (zaw _) ?_ ?_
          ·simp [upT, up, upL, push_cast, zw, zaa]
          ·simp [push_cast, zac]
          ·simp [upH, upR, upL, up, push_cast, zw, zac, zaa]
          ·simp [zg, push_cast]
          ·simp [zq]
          ·intro x hx; have h1 := zbb.1 hx; have := gjn; simp [zq]; omega
          ·intro q x p hx hp1; obtain ⟨hq, rfl⟩ := zas hx; have := gjn;have hz := fun (e m : Nat) => zef (e := e) (m := m) hp1;simp [push_cast, zau, hz]
           repeat rw [if_neg (by omega)]
           try rfl
        ·have hje : (r.b - r.a).toNat <= j := by simp at hb; omega
         rw [wRun_end y r hje, List.nil_append, <- hT1] at hacc;refine rx cx [] (fun K hK => by simp [push_cast, e0]; (repeat refine ob ?_); exact hK) ?_;refine ⟨(k + 1, A), ⟨hlt, hacc⟩, by simp only; omega, ?_⟩;refine zbz (A := kl (A)) [(0, some 0), (1, some 1), (2, some 2)] (zak (kl (A)).length) [(0, some ⟨24, 1, [[.d (zz R)]]⟩), (2, some ⟨65, 2, [[.d (.int .i64 y), .d (zm rs)]]⟩)] 1 1 rfl rfl rfl (by have := gj.2.1; omega) (zr _) rfl ?_ rfl ?_ ?_ ?_ ?_ (zaw _) ?_ ?_
         ·simp [upT, up, upL, push_cast, zw, zaa]
         ·simp [push_cast, zac]
         ·simp [upH, upR, upL, up, push_cast, zw, zac, zaa]
         ·simp [zg, push_cast]
         ·simp [zq]
         ·intro x hx; have h1 := zbb.1 hx; have := gj.2.1; simp [zq]; omega
         ·intro q x p hx hp1; obtain ⟨hq, rfl⟩ := zas hx; have := gj.2.1;have hz := fun (e m : Nat) => zef (e := e) (m := m) hp1;simp [push_cast, zau, hz]
          repeat rw [if_neg (by omega)]
          try rfl
      ·have hke : k = L2.length := by simp at hb; omega
       subst hke;rw [List.drop_length, List.flatMap_nil, List.nil_append] at hacc;rw [<- hT] at hacc;have ga := hacc.good hbig;clear hT;obtain ⟨T, hT⟩ : ∃ T, T = T3 := ⟨_, rfl⟩
       rw [<- hT] at hacc;refine rg cx ?_;refine zu (β := Nat × List (zf × List Hd)) (fun s => ⟨106, [(1, .ptr 0 0 0), (3, .hm 1), (18, .d (zz R)), (19, .d (.int .i64 R.length)), (20, .d (.int .i64 i)), (5, .ptr 2 0 0), (82, .d (zm rs)), (83, .d (.int .i64 rs.length)), (84, .d (.int .i64 s.1))], (1, some ⟨118, mapM, zay (zak (kl (s.2)).length) (kl (s.2))⟩) :: [(0, some ⟨24, 1, [[.d (zz R)]]⟩), (2, some ⟨65, 2, [[.d (.int .i64 y), .d (zm rs)]]⟩)] ++ dyn 178 1 0 (SA (kl (s.2))), 1000000000000⟩) (fun s => s.1 <= rs.length /\ Acc full s.2 ((rs.drop s.1).flatMap (vRun y) ++ T)) (fun s => rs.length - s.1) (0, A) ?_ ⟨Nat.zero_le _, by simpa using hacc⟩ ?_
       ·refine zbz (A := kl (A)) [(0, some 0), (1, some 1), (2, some 2)] (zak (kl (A)).length) [(0, some ⟨24, 1, [[.d (zz R)]]⟩), (2, some ⟨65, 2, [[.d (.int .i64 y), .d (zm rs)]]⟩)] 1 1 rfl rfl rfl (by have := ga.2.1; omega) (zr _) rfl ?_ rfl ?_ ?_ ?_ ?_ (zaw _) ?_ ?_
        ·simp [upT, up, upL, push_cast, zw, zaa]
        ·simp [push_cast, zac]
        ·simp [upH, upR, upL, up, push_cast, zw, zac, zaa]
        ·simp [zg, push_cast]
        ·simp [zq]
        ·intro x hx; have h1 := zbb.1 hx; have := ga.2.1; simp [zq]; omega
        ·intro q x p hx hp1; obtain ⟨hq, rfl⟩ := zas hx; have := ga.2.1;have hz := fun (e m : Nat) => zef (e := e) (m := m) hp1;simp [push_cast, zau, hz]
         repeat rw [if_neg (by omega)]
         try rfl
       ·rintro ⟨k, A⟩ ⟨hk, hacc⟩;simp only at hk hacc;have gk := hacc.good hbig;refine Nav.imp ?_;refine rg cx ?_;refine awp_cd (decide ((k : Int) < rs.length)) (fun hb => ?_) fun hb => ?_
        ·have hlt : k < rs.length := by simpa using hb
         obtain ⟨r, hr⟩ := zap hlt;have hrb := hrs r (List.mem_of_getElem? hr);have e0 := wI ((k : Int) + 1);have e3 := wI (y + 1);rw [zob hr, List.flatMap_cons, List.append_assoc] at hacc;have hacc2 : Acc full (zfq A (⟨⟨r.b, y⟩, .n⟩ : Crk)) ((⟨⟨r.a, y + 1⟩, .s⟩ : Crk) :: ((rs.drop (k + 1)).flatMap (vRun y) ++ T)) := hacc.next;have g2 := hacc2.good hbig;have gkn := g2.2.1;have hacc3 := hacc2.next;have g2n := (hacc3.good hbig).2.1;refine rx cx [] (fun K hK => by simp [push_cast, hr]; (repeat refine ob ?_); exact hK) ?_;refine zbf (s' := ⟨106, [(1, .ptr 0 0 0), (3, .hm 1), (18, .d (zz R)), (19, .d (.int .i64 R.length)), (20, .d (.int .i64 i)), (5, .ptr 2 0 0), (82, .d (zm rs)), (83, .d (.int .i64 rs.length)), (84, .d (.int .i64 k)), (15, .ptr 3 0 0)], (1, some ⟨118, mapM, zay (zak (kl (A)).length) (kl (A))⟩) :: [(0, some ⟨24, 1, [[.d (zz R)]]⟩), (2, some ⟨65, 2, [[.d (.int .i64 y), .d (zm rs)]]⟩), (3, some ⟨85, 2, [[.d (.int .i64 r.a), .d (.int .i64 r.b)]]⟩)] ++ dyn 178 1 0 (SA (kl (A))), 1000000000000⟩) ?_ ?_
         ·refine zbz (A := kl (A)) [(0, some 0), (1, some 1), (2, some 2), (3, some 1000000000003)] (zak (kl (A)).length) [(0, some ⟨24, 1, [[.d (zz R)]]⟩), (2, some ⟨65, 2, [[.d (.int .i64 y), .d (zm rs)]]⟩), (3, some ⟨85, 2, [[.d (.int .i64 r.a), .d (.int .i64 r.b)]]⟩)] 1 1 rfl rfl rfl (by have := gk.2.1; omega) (zr _) rfl ?_ rfl ?_ ?_ ?_ ?_ (zaw _) ?_ ?_
          ·simp [upT, up, upL, push_cast, zw, zaa]
          ·simp [push_cast, zac]
          ·simp [upH, upR, upL, up, push_cast, zw, zac, zaa]
          ·simp [zg, push_cast]
          ·simp [zq]
          ·intro x hx; have h1 := zbb.1 hx; have := gk.2.1; simp [zq]; omega
          ·intro q x p hx hp1; obtain ⟨hq, rfl⟩ := zas hx; have := gk.2.1;have hz := fun (e m : Nat) => zef (e := e) (m := m) hp1;simp [push_cast, zau, hz]
           repeat rw [if_neg (by omega)]
           try rfl
         ·refine zhx cx [] [_, _, _, _, _, _] _ rfl rfl rfl rfl ⟨106, [(88, .hm 1), (93, .d (.agg (⟨⟨r.b, y⟩, .n⟩ : Crk).p.row)), (1, .ptr 0 0 0), (3, .hm 1), (18, .d (zz R)), (19, .d (.int .i64 R.length)), (20, .d (.int .i64 i)), (5, .ptr 2 0 0), (82, .d (zm rs)), (83, .d (.int .i64 rs.length)), (84, .d (.int .i64 k)), (15, .ptr 3 0 0)], (1, some ⟨118, mapM, zay (zak (kl (A)).length) (kl (A))⟩) :: [(0, some ⟨24, 1, [[.d (zz R)]]⟩), (2, some ⟨65, 2, [[.d (.int .i64 y), .d (zm rs)]]⟩), (3, some ⟨85, 2, [[.d (.int .i64 r.a), .d (.int .i64 r.b)]]⟩)] ++ dyn 178 1 0 (SA (kl (A))), 1000000000000⟩ 138 [] rfl [.hm 0, .d (.agg (⟨⟨r.b, y⟩, .n⟩ : Crk).p.row), .d (.int .i64 1)] (kl (A)) (kl (zfq (A) (⟨⟨r.b, y⟩, .n⟩ : Crk))) 1 rfl (by decide) (zvo rfl) (Nat.le_refl _) (add_px (A) (⟨⟨r.b, y⟩, .n⟩ : Crk) gk.1 gk.2.2) (by have := gk.2.1; omega) (by have := gkn; omega) (by simp [zen, rn, push_cast]) (lB rfl) [(0, some 0), (1, some 1), (2, some 2), (3, some 3)] [(1, .ptr 0 0 0), (3, .hm 1), (18, .d (zz R)), (19, .d (.int .i64 R.length)), (20, .d (.int .i64 i)), (5, .ptr 2 0 0), (82, .d (zm rs)), (83, .d (.int .i64 rs.length)), (84, .d (.int .i64 k)), (15, .ptr 3 0 0)] [(0, some ⟨24, 1, [[.d (zz R)]]⟩), (2, some ⟨65, 2, [[.d (.int .i64 y), .d (zm rs)]]⟩), (3, some ⟨85, 2, [[.d (.int .i64 r.a), .d (.int .i64 r.b)]]⟩)] rfl rfl rfl rfl (by intro k hk h; simp only [find] at h; (repeat' split at h) <;> simp_all) rfl ?_ ?_ ?_ ?_ ?_ ?_
          ·simp [upT, up, upL, push_cast, zw, zaa]
          ·simp [upH, upR, upL, up, push_cast, zw, zac, zaa]
          ·simp [zg, push_cast]
          ·simp [zq]
          ·intro K hK;simp [push_cast];refine hK _ ?_;refine zbz (A := kl (A)) [(0, some 0), (1, some 1), (2, some 2), (3, some 3)] (zak (kl (A)).length) [(0, some ⟨24, 1, [[.d (zz R)]]⟩), (2, some ⟨65, 2, [[.d (.int .i64 y), .d (zm rs)]]⟩), (3, some ⟨85, 2, [[.d (.int .i64 r.a), .d (.int .i64 r.b)]]⟩)] 1 1 rfl rfl rfl (by have := gk.2.1; omega) (zr _) rfl ?_ rfl ?_ ?_ ?_ ?_ (zaw _) ?_ ?_
           ·simp [upT, up, upL, push_cast, zw, zaa]
           ·simp [push_cast, zac]
           ·simp [upH, upR, upL, up, push_cast, zw, zac, zaa]
           ·simp [zg, push_cast]
           ·simp [zq]
           ·intro x hx; have h1 := zbb.1 hx; have := gk.2.1; simp [zq]; omega
           ·intro q x p hx hp1; obtain ⟨hq, rfl⟩ := zas hx; have := gk.2.1;have hz := fun (e m : Nat) => zef (e := e) (m := m) hp1;simp [push_cast, zau, hz]
            repeat rw [if_neg (by omega)]
            try rfl
          ·refine Nav.imp ?_;refine zhx cx [] [_, _, _, _, _, _, _] _ rfl rfl rfl rfl ⟨106, [(95, .hm 1), (101, .d (.agg (⟨⟨r.a, y + 1⟩, .s⟩ : Crk).p.row)), (1, .ptr 0 0 0), (3, .hm 1), (18, .d (zz R)), (19, .d (.int .i64 R.length)), (20, .d (.int .i64 i)), (5, .ptr 2 0 0), (82, .d (zm rs)), (83, .d (.int .i64 rs.length)), (84, .d (.int .i64 k)), (15, .ptr 3 0 0)], (1, some ⟨118, mapM, zay (zak (kl ((zfq A (⟨⟨r.b, y⟩, .n⟩ : Crk)))).length) (kl ((zfq A (⟨⟨r.b, y⟩, .n⟩ : Crk))))⟩) :: [(0, some ⟨24, 1, [[.d (zz R)]]⟩), (2, some ⟨65, 2, [[.d (.int .i64 y), .d (zm rs)]]⟩), (3, some ⟨85, 2, [[.d (.int .i64 r.a), .d (.int .i64 r.b)]]⟩)] ++ dyn 178 1 0 (SA (kl ((zfq A (⟨⟨r.b, y⟩, .n⟩ : Crk))))), 1000000000000⟩ 138 [] rfl [.hm 0, .d (.agg (⟨⟨r.a, y + 1⟩, .s⟩ : Crk).p.row), .d (.int .i64 3)] (kl ((zfq A (⟨⟨r.b, y⟩, .n⟩ : Crk)))) (kl (zfq ((zfq A (⟨⟨r.b, y⟩, .n⟩ : Crk))) (⟨⟨r.a, y + 1⟩, .s⟩ : Crk))) 1 rfl (by decide) (zvo rfl) (Nat.le_refl _) (add_px ((zfq A (⟨⟨r.b, y⟩, .n⟩ : Crk))) (⟨⟨r.a, y + 1⟩, .s⟩ : Crk) g2.1 g2.2.2) (by have := g2.2.1; omega) (by have := g2n; omega) (by simp [zen, rn, push_cast]) (lB rfl) [(0, some 0), (1, some 1), (2, some 2), (3, some 3)] [(1, .ptr 0 0 0), (3, .hm 1), (18, .d (zz R)), (19, .d (.int .i64 R.length)), (20, .d (.int .i64 i)), (5, .ptr 2 0 0), (82, .d (zm rs)), (83, .d (.int .i64 rs.length)), (84, .d (.int .i64 k)), (15, .ptr 3 0 0)] [(0, some ⟨24, 1, [[.d (zz R)]]⟩), (2, some ⟨65, 2, [[.d (.int .i64 y), .d (zm rs)]]⟩), (3, some ⟨85, 2, [[.d (.int .i64 r.a), .d (.int .i64 r.b)]]⟩)] rfl rfl rfl rfl (by intro k hk h; simp only [find] at h; (repeat' split at h) <;> simp_all) rfl ?_ ?_ ?_ ?_ ?_ ?_
           ·simp [upT, up, upL, push_cast, zw, zaa]
           ·simp [upH, upR, upL, up, push_cast, zw, zac, zaa]
           ·simp [zg, push_cast]
           ·simp [zq]
           ·intro K hK;simp [push_cast, e3];refine hK _ ?_;refine zbz (A := kl ((zfq A (⟨⟨r.b, y⟩, .n⟩ : Crk)))) [(0, some 0), (1, some 1), (2, some 2), (3, some 3)] (zak (kl ((zfq A (⟨⟨r.b, y⟩, .n⟩ : Crk)))).length) [(0, some ⟨24, 1, [[.d (zz R)]]⟩), (2, some ⟨65, 2, [[.d (.int .i64 y), .d (zm rs)]]⟩), (3, some ⟨85, 2, [[.d (.int .i64 r.a), .d (.int .i64 r.b)]]⟩)] 1 1 rfl rfl rfl (by have := g2.2.1; omega) (zr _) rfl ?_ rfl ?_ ?_ ?_ ?_ (zaw _) ?_ ?_
            ·simp [upT, up, upL, push_cast, zw, zaa]
            ·simp [push_cast, zac]
            ·simp [upH, upR, upL, up, push_cast, zw, zac, zaa]
            ·simp [zg, push_cast]
            ·simp [zq]
            ·intro x hx; have h1 := zbb.1 hx; have := g2.2.1; simp [zq]; omega
            ·intro q x p hx hp1; obtain ⟨hq, rfl⟩ := zas hx; have := g2.2.1;have hz := fun (e m : Nat) => zef (e := e) (m := m) hp1;simp [push_cast, zau, hz]
             repeat rw [if_neg (by omega)]
             try rfl
           ·refine Nav.imp ?_;refine rx cx [] (fun K hK => by simp [push_cast, e0]; (repeat refine ob ?_); exact hK) ?_;refine ⟨(k + 1, zfq (zfq A (⟨⟨r.b, y⟩, .n⟩ : Crk)) (⟨⟨r.a, y + 1⟩, .s⟩ : Crk)), ⟨hlt, hacc3⟩, by simp only; omega, ?_⟩;refine zbz (A := kl (zfq (zfq A (⟨⟨r.b, y⟩, .n⟩ : Crk)) (⟨⟨r.a, y + 1⟩, .s⟩ : Crk))) [(0, some 0), (1, some 1), (2, some 2)] (zak (kl (zfq (zfq A (⟨⟨r.b, y⟩, .n⟩ : Crk)) (⟨⟨r.a, y + 1⟩, .s⟩ : Crk))).length) [(0, some ⟨24, 1, [[.d (zz R)]]⟩), (2, some ⟨65, 2, [[.d (.int .i64 y), .d (zm rs)]]⟩)] 1 1 rfl rfl rfl (by have := g2n; omega) (zr _) rfl ?_ rfl ?_ ?_ ?_ ?_ (zaw _) ?_ ?_
            ·simp [upT, up, upL, push_cast, zw, zaa]
            ·simp [push_cast, zac]
            ·simp [upH, upR, upL, up, push_cast, zw, zac, zaa]
            ·simp [zg, push_cast]
            ·simp [zq]
            ·intro x hx; have h1 := zbb.1 hx; have := g2n; simp [zq]; omega
            ·intro q x p hx hp1; obtain ⟨hq, rfl⟩ := zas hx; have := g2n;have hz := fun (e m : Nat) => zef (e := e) (m := m) hp1;simp [push_cast, zau, hz]
             repeat rw [if_neg (by omega)]
             try rfl
        ·have hke : k = rs.length := by simp at hb; omega
         subst hke;rw [List.drop_length, List.flatMap_nil, List.nil_append] at hacc;refine rx cx [] (fun K hK => by simp [push_cast, e0]; (repeat refine ob ?_); exact hK) ?_;refine ⟨(i + 1, A), ⟨hlt, by rw [hT, <- hT3] at hacc; exact hacc⟩, by simp only; omega, ?_⟩;refine zbz (A := kl (A)) [(0, some 0), (1, some 1)] (zak (kl (A)).length) [(0, some ⟨24, 1, [[.d (zz R)]]⟩)] 1 1 rfl rfl rfl (by have := gk.2.1; omega) (zr _) rfl ?_ rfl ?_ ?_ ?_ ?_ (zaw _) ?_ ?_
         ·simp [upT, up, upL, push_cast, zw, zaa]
         ·simp [push_cast, zac]
         ·simp [upH, upR, upL, up, push_cast, zw, zac, zaa]
         ·simp [zg, push_cast]
         ·simp [zq]
         ·intro x hx; have h1 := zbb.1 hx; have := gk.2.1; simp [zq]; omega
         ·intro q x p hx hp1; obtain ⟨hq, rfl⟩ := zas hx; have := gk.2.1;have hz := fun (e m : Nat) => zef (e := e) (m := m) hp1;simp [push_cast, zau, hz]
          repeat rw [if_neg (by omega)]
          try rfl
  ·have hie : i = R.length := by simp at hb; omega
   subst hie;rw [List.drop_length, List.flatMap_nil] at hacc;obtain ⟨pre, hpre, hfe⟩ := hacc;rw [List.append_nil] at hfe;subst hfe;subst hpre;generalize hAA : addAll [] full = AA at *;refine zbf (s' := ⟨106, [(3, .hm 1)], (1, some ⟨118, mapM, zay (zak (kl (AA)).length) (kl (AA))⟩) :: [] ++ dyn 178 1 0 (SA (kl (AA))), 1000000000000⟩) ?_ ?_
   ·refine zbz (A := kl (AA)) [(1, some 1)] (zak (kl (AA)).length) [] 1 1 rfl rfl rfl (by have := ga.2.1; omega) (zr _) rfl ?_ rfl ?_ ?_ ?_ ?_ (zaw _) ?_ ?_
    ·simp [upT, up, upL, push_cast, zw, zaa]
    ·simp [push_cast, zac]
    ·simp [upH, upR, upL, up, push_cast, zw, zac, zaa]
    ·simp [zg, push_cast]
    ·simp [zq]
    ·intro x hx; have h1 := zbb.1 hx; have := ga.2.1; simp [zq]; omega
    ·intro q x p hx hp1; obtain ⟨hq, rfl⟩ := zas hx; have := ga.2.1;have hz := fun (e m : Nat) => zef (e := e) (m := m) hp1;simp [push_cast, zau, hz]
     repeat rw [if_neg (by omega)]
     try rfl
   ·refine zbf (weak_fzmap (by decide) rfl (kl AA)) ?_;rw [mdata_kl];refine rg cx ?_;first | refine rx_r [(0, 1)] ?_ | refine rx_n [(0, 1)] ?_
    simp [push_cast];try decide
end Go.Proofs.YtdddknniooimmaaGreat

namespace Go.Proofs.YtdddknniooimmaaGreat
open Go.Abs

theorem eflat_len (y : Int) (l : List Run) : (l.flatMap (ztg y)).length = zms l := by
 unfold zms;rw [List.length_flatMap, List.length_flatMap];simp only [zgd];simp [ztg]
theorem wflat_len (y : Int) (l : List Run) : (l.flatMap (zqs y)).length = zms l := by
 unfold zms;rw [List.length_flatMap, List.length_flatMap];simp only [zgd];simp [zqs]
theorem vflat_len (y : Int) : ∀ (l : List Run), (l.flatMap (vRun y)).length = 2 * l.length
 | [] => rfl
 | r :: l => by
  have := vflat_len y l;simp only [List.flatMap_cons, List.length_append, vRun, List.length_cons, List.length_nil] at *;omega
set_option maxHeartbeats 16000000 in
theorem zlu (R : List Row) (hR : zbw R) (hbig : zo R = true -> (zae R).length <= 10000000) : PC Tryz.prog 14 [.agg (zp R)] (.p (.int .i64 (if zo R then (zae R).length else 0 : Nat))) := by
 have c1 := zmy R hR;have hv0 : zo R = zo R := rfl;generalize hv : zo R = v at c1 hbig;have hl := hR.1;refine pw cx Tryz.func14 Tryz.ntmps14 ?_;refine rg cx ?_;refine rx cx [(1, .p (.bool v))] (fun K hK => by simp [push_cast, c1]; (repeat refine ob ?_); exact hK) ?_;refine awp_cd (!v) (fun hb => ?_) fun hb => ?_
 ·simp at hb;subst hb;refine rg cx ?_;simp [push_cast]
 ·simp at hb;subst hb;have hbig := hbig rfl;rw [if_pos rfl];obtain ⟨full, hfull⟩ : ∃ full, full = zae R := ⟨_, rfl⟩
  have htk : ∀ i, i <= R.length -> ((R.take i).flatMap (zfj R)).length <= 10000000 := fun i _ => by
   have e : zae R = (R.take i).flatMap (zfj R) ++ (R.drop i).flatMap (zfj R) := by
    unfold zae;rw [<- List.flatMap_append, List.take_append_drop]
   rw [e, List.length_append] at hbig;omega
  have hend : zae R = (R.take R.length).flatMap (zfj R) := by rw [List.take_length]; rfl
  rw [hend];have hnx : ∀ i w, R[i]? = some w -> ((R.take (i + 1)).flatMap (zfj R)).length = ((R.take i).flatMap (zfj R)).length + (zfj R w).length := fun i w h => by rw [zhi _ h, List.length_append]
  generalize hC : (fun i => ((R.take i).flatMap (zfj R)).length) = C at *;have hC' : ∀ i, ((R.take i).flatMap (zfj R)).length = C i := fun i => by rw [<- hC]
  have hC0 : C 0 = 0 := by rw [<- hC]; rfl
  simp only [hC'] at htk hnx ⊢;clear hC hC' hend hfull;refine rg cx ?_;refine rg cx ?_;refine zu (β := Nat) (fun i => ⟨45, [(1, .ptr 0 0 0), (3, .d (.int .i64 (C i : Nat))), (12, .d (zz R)), (13, .d (.int .i64 R.length)), (14, .d (.int .i64 i))], [(0, some ⟨24, 1, [[.d (zz R)]]⟩)], 1⟩) (fun i => i <= R.length) (fun i => R.length - i) 0 ?_ (Nat.zero_le _) ?_
  ·refine wq [(0, some 0)] (by simp [upT, upH, upR, upL, up, push_cast, hC0])
  ·intro i hi;refine Nav.imp ?_;refine rg cx ?_;refine awp_cd (decide ((i : Int) < R.length)) (fun hb => ?_) fun hb => ?_
   ·have hlt : i < R.length := by simpa using hb
    obtain ⟨w, hw⟩ := zap hlt;have c1 := around_ok R i w hv hR hw;have e0 := wI ((i : Int) + 1);obtain ⟨hy, hfw⟩ := zdv hv hw;have hB := zdb hv (w.y - 1);have hU := zdb hv (w.y + 1);have hBl : (zy R (w.y - 1)).length <= 1000000 := zoy hR _;have hUl : (zy R (w.y + 1)).length <= 1000000 := zoy hR _;have hwl := hR.2 w (List.mem_of_getElem? hw);have c2 := zma w.runs _ hwl hBl (zfc hfw) hB;have c3 := zma w.runs _ hwl hUl (zfc hfw) hU;have hL1 := sub_bd hfw hB;have hL2 := sub_bd hfw hU;have hLl1 := sub_len hfw hB;have hLl2 := sub_len hfw hU;have v1 : zal (sweep fD w.runs (zy R (w.y - 1))) = true := sweep_valid rfl (zfc hfw) hB;have v2 : zal (sweep fD w.runs (zy R (w.y + 1))) = true := sweep_valid rfl (zfc hfw) hU;have c4 := length_ok _ hLl1 v1;have c5 := length_ok _ hLl2 v2;have q1 := eflat_len w.y (sweep fD w.runs (zy R (w.y - 1)));have q2 := wflat_len w.y (sweep fD w.runs (zy R (w.y + 1)));have q3 := vflat_len w.y w.runs;have hn1 := hnx i w hw;have ht1 := htk (i + 1) hlt;have ht0 := htk i hi;unfold zfj at hn1;rw [List.length_append, List.length_append, q3] at hn1;obtain ⟨y, rs⟩ := w;simp only at *;generalize zy R (y - 1) = B at *;generalize zy R (y + 1) = U at *;generalize sweep fD rs B = L1 at *;generalize sweep fD rs U = L2 at *;generalize (L1.flatMap (ztg y)).length = n1 at *;generalize (L2.flatMap (zqs y)).length = n2 at *;rw [<- q1] at c4;rw [<- q2] at c5;have hC1 : ((C (i + 1) : Nat) : Int) = (C i : Int) + (n1 + n2 + 2 * rs.length) := by omega
    have ht2 : (C i : Int) + (n1 + n2 + 2 * rs.length) <= 10000000 := by omega
    generalize C i = C0 at *;have w1 := wI ((n1 : Int) + n2);have w2 := wI ((2 : Int) * rs.length);have w3 := wI ((n1 : Int) + n2 + 2 * rs.length);have w4 := wI ((C0 : Int) + (n1 + n2 + 2 * rs.length));refine rx cx [] (fun K hK => by simp [push_cast, hw]; (repeat refine ob ?_); exact hK) ?_;refine rx cx [(2, .p (.tup [zm B, zm U]))] (fun K hK => by simp [push_cast, c1]; (repeat refine ob ?_); exact hK) ?_;refine rd cx mixed [(4, .p (zm L1)), (5, .p (.int .i64 n1)), (9, .p (zm L2)), (10, .p (.int .i64 n2))] (fun K hK => by simp [push_cast, c2, c3, c4, c5, w1, w2, w3, w4]; (repeat refine ob ?_); exact hK) ?_;refine rx cx [] (fun K hK => by simp [push_cast, e0]; (repeat refine ob ?_); exact hK) ?_;refine ⟨i + 1, hlt, by omega, ?_⟩;refine wq [(0, some 0)] (by simp [upT, upH, upR, upL, up, push_cast, hC1])
   ·have hie : i = R.length := by simp at hb; omega
    subst hie;refine rg cx ?_;simp [push_cast]

def nearTB (R : List Row) : Bool := decide (zke R <= 200) && decide (-1000 <= (zgm R).x) && decide (-1000 <= (zgm R).y) && decide ((zgn R).x <= 1000) && decide ((zgn R).y <= 1000)
theorem nearby_ok (R : List Row) (hR : zbw R) : PC Tryz.prog 11 [.agg (zp R)] (.p (.bool (nearTB R))) := by
 have c1 := rbox_ok R hR;have c2 := rcount_ok R hR;have hN : nearTB R = (decide (zke R <= 200) && decide (-1000 <= (zgm R).x) && decide (-1000 <= (zgm R).y) && decide ((zgn R).x <= 1000) && decide ((zgn R).y <= 1000)) := rfl;rw [hN];have hc : decide (zke R <= 200) = decide ((zke R : Int) <= 200) := by
  rw [Bool.eq_iff_iff, decide_eq_true_eq, decide_eq_true_eq]; omega
 rw [hc];have hD : boxD R = .tup [.agg (zgm R).row, .agg (zgn R).row, .bool (some? R)] := rfl;rw [hD] at c1;clear hD;generalize ((zke R : Nat) : Int) = n at *;generalize zgm R = lo at *;generalize zgn R = hi at *;generalize some? R = b at *;clear hc hN;by_cases g1 : n <= 200
 ·by_cases g2 : -1000 <= lo.x
  ·by_cases g3 : -1000 <= lo.y
   ·by_cases g4 : hi.x <= 1000
    ·refine pw cx Tryz.func11 Tryz.ntmps11 ?_;refine rg cx ?_;refine rx cx [(1, .p (.tup [.agg lo.row, .agg hi.row, .bool b]))] (fun K hK => by simp [push_cast, c1]; (repeat refine ob ?_); exact hK) ?_;refine rx cx [(1, .p (.int .i64 n))] (fun K hK => by simp [push_cast, c2, g1, g2, g3, g4]; (repeat refine ob ?_); exact hK) ?_;simp [push_cast, g1, g2, g3, g4]
    ·refine pw cx Tryz.func11 Tryz.ntmps11 ?_;refine rg cx ?_;refine rx cx [(1, .p (.tup [.agg lo.row, .agg hi.row, .bool b]))] (fun K hK => by simp [push_cast, c1]; (repeat refine ob ?_); exact hK) ?_;refine rx cx [(1, .p (.int .i64 n))] (fun K hK => by simp [push_cast, c2, g1, g2, g3, g4]; (repeat refine ob ?_); exact hK) ?_;simp [push_cast, g1, g2, g3, g4]
   ·refine pw cx Tryz.func11 Tryz.ntmps11 ?_;refine rg cx ?_;refine rx cx [(1, .p (.tup [.agg lo.row, .agg hi.row, .bool b]))] (fun K hK => by simp [push_cast, c1]; (repeat refine ob ?_); exact hK) ?_;refine rx cx [(1, .p (.int .i64 n)), (14, .skip), (15, .skip), (16, .skip), (19, .skip), (20, .skip), (21, .skip)] (fun K hK => by simp [push_cast, c2, g1, g2, g3]; (repeat refine ob ?_); exact hK) ?_;simp [push_cast, g1, g2, g3]
  ·refine pw cx Tryz.func11 Tryz.ntmps11 ?_;refine rg cx ?_;refine rx cx [(1, .p (.tup [.agg lo.row, .agg hi.row, .bool b]))] (fun K hK => by simp [push_cast, c1]; (repeat refine ob ?_); exact hK) ?_;refine rx cx [(1, .p (.int .i64 n)), (9, .skip), (10, .skip), (11, .skip), (14, .skip), (15, .skip), (16, .skip), (19, .skip), (20, .skip), (21, .skip)] (fun K hK => by simp [push_cast, c2, g1, g2]; (repeat refine ob ?_); exact hK) ?_;simp [push_cast, g1, g2]
 ·refine pw cx Tryz.func11 Tryz.ntmps11 ?_;refine rg cx ?_;refine rx cx [(1, .p (.tup [.agg lo.row, .agg hi.row, .bool b]))] (fun K hK => by simp [push_cast, c1]; (repeat refine ob ?_); exact hK) ?_;refine rx cx [(1, .p (.int .i64 n)), (4, .skip), (5, .skip), (6, .skip), (9, .skip), (10, .skip), (11, .skip), (14, .skip), (15, .skip), (16, .skip), (19, .skip), (20, .skip), (21, .skip)] (fun K hK => by simp [push_cast, c2, g1]; (repeat refine ob ?_); exact hK) ?_;simp [push_cast, g1]
structure NearF (R : List Row) : Prop where
 cells : (zl R).length <= 200
 rows : R.length <= 200
 box : boxBg R
 wide : 0 < R.length -> (-1000 <= zbd R /\ zbe R <= 1000) /\ -1000 <= zbv R /\ zdl R <= 1000
theorem nearT_facts {R : List Row} (hv : zo R = true) (h : nearTB R = true) : NearF R := by
 unfold nearTB at h;simp only [Bool.and_eq_true, decide_eq_true_eq] at h;obtain ⟨⟨⟨⟨h1, h2⟩, h3⟩, h4⟩, h5⟩ := h;rw [count_valid hv] at h1;have hr := rows_le hv;have hw : 0 < R.length -> (-1000 <= zbd R /\ zbe R <= 1000) /\ -1000 <= zbv R /\ zdl R <= 1000 := fun h0 => by
  have hs : some? R = true := by simp [some?, hv, h0]
  unfold zgm at h2 h3;unfold zgn at h4 h5;rw [if_pos hs] at h2 h3 h4 h5;exact ⟨⟨h2, h4⟩, h3, h5⟩
 refine ⟨h1, by omega, fun hs => ?_, hw⟩;have h0 : 0 < R.length := by simp [some?] at hs; exact hs.2
 have := hw h0;omega
theorem near_dil {R : List Row} (hv : zo R = true) (h : NearF R) : zsa R 1 = 0 := by
 have hq : zmp R 1 = true := by simp [zmp, hv]
 unfold zsa;rw [if_pos hq];split
 ·rename_i h0;have := h.wide h0;rw [if_pos];simp only [rngB, Bool.and_eq_true, Bool.not_eq_true', decide_eq_false_iff_not];omega
 ·rfl
theorem dil_cells {R : List Row} (hv : zo R = true) (hD : zsa R 1 = 0) : (zl (zgz R 1)).length <= 9 * (zl R).length := by
 obtain ⟨_, hd, hm⟩ := zta hD;have h1 : (1 : Int).toNat = 1 := rfl;rw [h1] at hm;have hle := zlk (l := zl (zgz R 1)) (m := (zl R).flatMap fun c => [⟨c.x - 1, c.y - 1⟩, ⟨c.x, c.y - 1⟩, ⟨c.x + 1, c.y - 1⟩, ⟨c.x - 1, c.y⟩, c, ⟨c.x + 1, c.y⟩, ⟨c.x - 1, c.y + 1⟩, ⟨c.x, c.y + 1⟩, ⟨c.x + 1, c.y + 1⟩]) (zno (zhv hd)) fun y hy => by
  obtain ⟨w, hw, q1, q2, r, hr, q3, q4⟩ := (hm y).1 hy;have hab : r.a < r.b := (zfd.1 (zbs hv hw).2).2.1.1 r hr;obtain ⟨x, hx1, hx2, hx3⟩ : ∃ x, r.a <= x /\ x < r.b /\ (-1 <= y.x - x /\ y.x - x <= 1) := by
   by_cases c1 : y.x < r.a
   ·exact ⟨r.a, by omega, by omega, by omega⟩
   ·by_cases c2 : y.x < r.b
    ·exact ⟨y.x, by omega, by omega, by omega⟩
    ·exact ⟨r.b - 1, by omega, by omega, by omega⟩
  refine List.mem_flatMap.2 ⟨⟨x, w.y⟩, ?_, ?_⟩
  ·unfold zl zcg;rw [List.mem_flatMap];refine ⟨w, hw, ?_⟩;rw [List.mem_flatMap];exact ⟨r, hr, zcp.2 ⟨rfl, hx1, hx2⟩⟩
  ·obtain ⟨a, b⟩ := y;simp only at q1 q2 hx3;simp only [List.mem_cons, zf.mk.injEq, List.mem_nil_iff, or_false];omega
 have hl := zkx (f := fun c : zf => [(⟨c.x - 1, c.y - 1⟩ : zf), ⟨c.x, c.y - 1⟩, ⟨c.x + 1, c.y - 1⟩, ⟨c.x - 1, c.y⟩, c, ⟨c.x + 1, c.y⟩, ⟨c.x - 1, c.y + 1⟩, ⟨c.x, c.y + 1⟩, ⟨c.x + 1, c.y + 1⟩]) (n := 9) (fun c => by simp) (zl R);omega
theorem zuj {R : List Row} (hv : zo R = true) : zo (zcq R) = true := by
 by_cases h0 : 0 < R.length
 ·exact (zwe hv h0).1
 ·have e : R = [] := List.eq_nil_of_length_eq_zero (by omega);subst e;unfold zcq;rw [if_pos hv];exact (zpm (zcf []) (opR fU [] []) (fun P hP => zhh P hP) (zpa (f := fU) rfl _ _)).1
theorem fill_cells {R : List Row} (hv : zo R = true) (h0 : 0 < R.length) : (zl (zcq R)).length <= R.length * (zbe R - zbd R + 3).toNat := by
 obtain ⟨hf, hm⟩ := zwe hv h0;have hle := zlk (l := zl (zcq R)) (m := R.flatMap fun w => (ysD (zbd R - 1) (zbe R - zbd R + 3).toNat).map fun x => (⟨x, w.y⟩ : zf)) (zno (zhv hf)) fun c hc => by
  obtain ⟨w, hw, hy, hx⟩ : ∃ w ∈ R, w.y = c.y /\ (zbd R - 1 <= c.x /\ c.x <= zbe R + 1) := by
   rcases (hm c).1 hc with h | ⟨h1, h2⟩
   ·obtain ⟨w, hw, hcw⟩ := List.mem_flatMap.1 h;obtain ⟨q, hq, hcq⟩ := List.mem_flatMap.1 hcw;have := box_mem hv h;exact ⟨w, hw, (zcp.1 hcq).1.symm, by omega⟩
   ·obtain ⟨r, hr, e1, _⟩ := hole_end hv h0 (c.x - zbd R).toNat c (by omega) h1 h2;obtain ⟨w, hw, hrw⟩ := List.mem_flatMap.1 hr;obtain ⟨q, hq, hrq⟩ := List.mem_flatMap.1 hrw;have e2 := (zcp.1 hrq).1;obtain ⟨f1, _, _⟩ := (zgr hv h0).1 h1;exact ⟨w, hw, by omega, f1⟩
  refine List.mem_flatMap.2 ⟨w, hw, List.mem_map.2 ⟨c.x, ?_, ?_⟩⟩
  ·rw [zuq]; omega
  ·rw [hy]
 have hl := zkx (f := fun w : Row => (ysD (zbd R - 1) (zbe R - zbd R + 3).toNat).map fun x => (⟨x, w.y⟩ : zf)) (n := (zbe R - zbd R + 3).toNat) (fun w => by rw [List.length_map, zur]; exact Nat.le_refl _) R;rw [Nat.mul_comm] at hl;omega
theorem fill_nil : zl (zcq []) = [] /\ zcf [] = [] := by
 have hh : zcf [] = [] := by unfold zcf; rw [if_neg (by decide)]
 refine ⟨?_, hh⟩;have hu := zpm (zcf []) (opR fU [] []) (fun P hP => zhh P hP) (zpa (f := fU) rfl _ _);have e : zcq [] = (zcf []).foldl (opR fU) (opR fU [] []) := by unfold zcq; rw [if_pos (show zo [] = true by decide)]
 rw [<- e] at hu;cases hc : zl (zcq []) with
 | nil => rfl
 | cons c t =>
  have : c ∈ zl (zcq []) := by rw [hc]; simp
  rw [hu.2, hh] at this;rcases this with h | ⟨P, hP, _⟩
  ·rw [opU_iff rfl rfl] at h;simp [zl] at h
  ·cases hP
structure PartF (R : List Row) : Prop where
 fill : (zaz (zcq R)).length <= (zaz R).length
 fillc : (zl (zcq R)).length <= 1000000
 dil : (zaz (zgz R 1)).length <= (zaz R).length
 comps : (zaz R).length <= 200
theorem part_facts {R : List Row} (hv : zo R = true) (h : NearF R) : PartF R := by
 have hcl : cellsOf R = zl R := by unfold cellsOf; rw [if_pos hv]
 have hcm : (zaz R).length <= 200 := by
  have := (zvz (cellsOf R) (zao false)).1;have hc := h.cells;rw [hcl] at this;rw [zoc hv];omega
 have hd := near_dil hv h;by_cases h0 : 0 < R.length
 ·have h1 := fill_cells hv h0;have h2 : R.length * (zbe R - zbd R + 3).toNat <= 200 * 2102 := Nat.mul_le_mul h.rows (by have := h.wide h0; omega);exact ⟨fill_parts hv h0, by omega, dil_parts hv hd, hcm⟩
 ·have e : R = [] := List.eq_nil_of_length_eq_zero (by omega);subst e;have hn := fill_nil.1;refine ⟨?_, by rw [hn]; simp, dil_parts hv hd, hcm⟩;rw [zoc (zuj hv), hn];exact Nat.zero_le _
theorem hole_apart {R : List Row} (hv : zo R = true) {P : List Row} (hP : P ∈ zcf R) : opR fI P R = [] := by
 by_cases h0 : 0 < R.length
 ·obtain ⟨i, hi⟩ := List.mem_iff_getElem?.1 hP;obtain ⟨g, hg, hvP, hc, hin⟩ := hole_get hv h0 hi;refine valid_empty (zpa (f := fI) rfl _ _) fun c hcm => ?_;rw [opI_iff hvP hv] at hcm;have := (zgr hv h0).1 ((hin c (hc ▸ hcm.1)).1);exact this.2.2 hcm.2
 ·have e : R = [] := List.eq_nil_of_length_eq_zero (by omega);subst e;rw [fill_nil.2] at hP;cases hP

structure TInv (S : zf -> Bool) (P : List zf) (j : Nat) (Fs : List (List Crk)) (A : List (zf × List Hd)) : Prop where
 fam : Fam S Fs
 map : zej A fun c => isC S c = true /\ ¬ onF Fs c
 rem : ∀ c, isC S c = true -> ¬ onF Fs c -> ∃ i, j <= i /\ P[i]? = some c.p
 hd : ∀ L ∈ Fs, ∃ c i, L.head? = some c /\ i < j /\ P[i]? = some c.p
 len : Fs.length <= j
theorem onF_app {Fs : List (List Crk)} {L : List Crk} {c : Crk} : onF (Fs ++ [L]) c ↔ onF Fs c \/ c ∈ L := by
 unfold onF;constructor
 ·rintro ⟨M, hM, hc⟩;rcases List.mem_append.1 hM with hM | hM
  ·exact .inl ⟨M, hM, hc⟩
  ·simp at hM; subst hM; exact .inr hc
 ·rintro (⟨M, hM, hc⟩ | hc)
  ·exact ⟨M, by simp [hM], hc⟩
  ·exact ⟨L, by simp, hc⟩
theorem pw_get {α : Type} {r : α -> α -> Prop} {P : List α} (h : P.Pairwise r) {i j : Nat} {a b : α} (ha : P[i]? = some a) (hb : P[j]? = some b) (hij : i < j) : r a b := by
 obtain ⟨h1, rfl⟩ := List.getElem?_eq_some_iff.1 ha;obtain ⟨h2, rfl⟩ := List.getElem?_eq_some_iff.1 hb;exact List.pairwise_iff_getElem.1 h i j h1 h2 hij
theorem TInv.skip {S : zf -> Bool} {P : List zf} {j : Nat} {Fs : List (List Crk)} {A : List (zf × List Hd)} (h : TInv S P j Fs A) {p : zf} (hp : P[j]? = some p) (h0 : zab A p = []) : TInv S P (j + 1) Fs A := by
 refine ⟨h.fam, h.map, fun c hc hn => ?_, fun L hL => ?_, by have := h.len; omega⟩
 ·obtain ⟨i, hi, e⟩ := h.rem c hc hn;refine ⟨i, ?_, e⟩;rcases Nat.lt_or_ge j i with hl | hl
  ·exact hl
  ·have : i = j := by omega
   subst this;rw [hp] at e; cases e;have := (h.map.heads c.p c.h).2 ⟨hc, hn⟩;rw [h0] at this; cases this
 ·obtain ⟨c, i, e1, e2, e3⟩ := h.hd L hL;exact ⟨c, i, e1, by omega, e3⟩
theorem TInv.go {S : zf -> Bool} {C : List Crk} (hC : zhb S C) {P : List zf} (hP : P.Pairwise zjk) {j : Nat} {Fs : List (List Crk)} {A : List (zf × List Hd)} (h : TInv S P j Fs A) {p : zf} (hp : P[j]? = some p) {k : Hd} {hs0 : List Hd} (h0 : zab A p = k :: hs0) :
  ∃ n, Per (suc S) ⟨p, k⟩ n /\ n <= C.length /\ (∀ i, i < n -> isC S (itn (suc S) i ⟨p, k⟩) = true /\ ¬ onF Fs (itn (suc S) i ⟨p, k⟩)) /\ (∀ d ∈ orb (suc S) n ⟨p, k⟩, d ≠ ⟨p, k⟩ -> zjk p d.p) /\ TInv S P (j + 1) (Fs ++ [orb (suc S) n ⟨p, k⟩]) (zdj A (orb (suc S) n ⟨p, k⟩)) := by
 obtain ⟨hc, hn⟩ := (h.map.heads p k).1 (by rw [h0]; simp);obtain ⟨n, pn, hle⟩ := per_ex hC.cl hC.inj ((hC _).2 hc);have off := h.fam.off hC hc hn;have hr : ∀ i, i < n -> isC S (itn (suc S) i ⟨p, k⟩) = true /\ ¬ onF Fs (itn (suc S) i ⟨p, k⟩) := fun i _ => ⟨(off i).2, (off i).1⟩
 have low : ∀ d, isC S d = true -> ¬ onF Fs d -> ¬ zjk d.p p := fun d h1 h2 => by
  obtain ⟨i, hi, e⟩ := h.rem d h1 h2;rcases Nat.lt_or_ge j i with hl | hl
  ·exact zsw (pw_get hP hp e hl)
  ·have : i = j := by omega
   subst this;rw [hp] at e; cases e;exact lowC_irr _
 have lc : ∀ d ∈ orb (suc S) n ⟨p, k⟩, d ≠ ⟨p, k⟩ -> zjk p d.p := fun d hd hne => by
  obtain ⟨i, hi, rfl⟩ := zek.1 hd;obtain ⟨h1, h2⟩ := hr i hi;rcases lowC_tri p (itn (suc S) i ⟨p, k⟩).p with e | e | e
  ·exact e
  ·exfalso
   refine hne (least_one h1 hc e.symm ?_ ?_)
   ·have := off (i + 1);rw [zfl] at this;rw [<- e];exact low _ this.2 this.1
   ·have := off 1;exact low _ this.2 this.1
  ·exact absurd e (low _ h1 h2)
 have hnd := orb_nodup hC.cl hC.inj ((hC _).2 hc) pn.least;refine ⟨n, pn, hle, hr, lc, ⟨⟨fun L hL => ?_, ?_⟩, ?_, fun c h1 h2 => ?_, fun L hL => ?_, by have := h.len; simp; omega⟩⟩
 ·rcases List.mem_append.1 hL with hL | hL
  ·exact h.fam.each L hL
  ·simp at hL; subst hL;exact ⟨_, n, hc, pn, rfl, lc⟩
 ·rw [List.pairwise_append];refine ⟨h.fam.sorted, by simp, fun L hL M hM => ?_⟩;simp at hM; subst hM;obtain ⟨c, i, e1, e2, e3⟩ := h.hd L hL;exact ⟨c, _, e1, orb_head pn.pos, pw_get hP e3 hp e2⟩
 ·refine (h.map.walk hr hnd n (Nat.le_refl _)).congr fun c => ?_;rw [onF_app, not_or];simp only [and_assoc]
 ·rw [onF_app, not_or] at h2;obtain ⟨i, hi, e⟩ := h.rem c h1 h2.1;refine ⟨i, ?_, e⟩;rcases Nat.lt_or_ge j i with hl | hl
  ·exact hl
  ·exfalso
   have : i = j := by omega
   subst this;rw [hp] at e;have e : p = c.p := by injection e
   have hoc := h.fam.off hC h1 h2.1 1;have ho1 := off 1;refine h2.2 ?_;have : c = ⟨p, k⟩ := least_one h1 hc e.symm (by rw [<- e]; exact low _ hoc.2 hoc.1) (low _ ho1.2 ho1.1);rw [this];exact zvk pn.pos
 ·rcases List.mem_append.1 hL with hL | hL
  ·obtain ⟨c, i, e1, e2, e3⟩ := h.hd L hL;exact ⟨c, i, e1, by omega, e3⟩
  ·simp at hL; subst hL;exact ⟨_, j, orb_head pn.pos, by omega, hp⟩
theorem TInv.done {S : zf -> Bool} {P : List zf} {j : Nat} {Fs : List (List Crk)} {A : List (zf × List Hd)} (h : TInv S P j Fs A) (hj : P.length <= j) : Lps S Fs := by
 refine ⟨h.fam.each, fun c hc => ?_, h.fam.sorted⟩;apply Classical.byContradiction
 intro hn;obtain ⟨i, hi, e⟩ := h.rem c hc hn;have := (List.getElem?_eq_some_iff.1 e).1;omega
theorem TInv.init {S : zf -> Bool} {A : List (zf × List Hd)} (hA : zej A fun c => isC S c = true) {P : List zf} (hP : P.Perm (A.map (·.1))) : TInv S P 0 [] A := by
 refine ⟨⟨by simp, by simp⟩, hA.congr fun c => by simp [onF], fun c hc _ => ?_, by simp, by simp⟩;obtain ⟨hs, e, hm⟩ := (hA.mem c.p c.h).1 hc;have hp := zdw (a := c.p) A;have : c.p ∈ P := by
  rw [hP.mem_iff];apply Classical.byContradiction
  intro hn;rw [zrf.2 hn] at hp;rw [hp] at e; cases e
 obtain ⟨i, hi⟩ := List.mem_iff_getElem?.1 this;exact ⟨i, Nat.zero_le _, hi⟩
theorem heads_near {A : List (zf × List Hd)} {C : List Crk} {S : zf -> Bool} (hC : zhb S C) (hA : zej A fun c => isC S c = true) {p : zf} (hp : p ∈ A.map (·.1)) : ∃ c ∈ C, c.p = p := by
 have := zdw (a := p) A;cases hq : zfk p A with
 | none => exact absurd hp (zrf.1 hq)
 | some j =>
  rw [hq] at this;obtain ⟨hs, _, e⟩ := this;obtain ⟨h1, h2⟩ := hA.some _ _ e;obtain ⟨k, hk⟩ := List.exists_mem_of_ne_nil _ h1;exact ⟨⟨p, k⟩, (hC _).2 ((hA.mem p k).2 ⟨hs, e, hk⟩), rfl⟩
end Go.Proofs.YtdddknniooimmaaGreat
