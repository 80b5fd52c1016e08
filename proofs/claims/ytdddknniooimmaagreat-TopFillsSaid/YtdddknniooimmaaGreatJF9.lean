/-
  Texts of this seat put together: AbsD, AbsG, AbsJ, BW4, G2, G3, X1, X2.
-/
import Derived.Test.YtdddknniooimmaaGreatJF8
import Derived.Test.YtdddknniooimmaaGreatJF6
set_option linter.unusedVariables false
set_option linter.unusedSectionVars false
set_option linter.unusedSimpArgs false
set_option maxRecDepth 100000
namespace Go.Abs
variable [Flag]
open Go.RowKit

def dyn (e : TypeId) (m : Nat) : Nat -> List (List (List D)) -> List (Nat × Option Ob)
 | _, [] => []
 | k, r :: S => (1000000 + k, some ⟨e, m, dr r⟩) :: dyn e m (k + 1) S
def dynP (e : TypeId) (m : Nat) : Nat -> List (List (List D)) -> List (Nat × Ob)
 | _, [] => []
 | k, r :: S => (1000000 + k, ⟨e, m, dr r⟩) :: dynP e m (k + 1) S
def zlx : Nat -> List Nat -> List (Nat × Option Nat)
 | _, [] => []
 | k, x :: r => (1000000 + k, some x) :: zlx (k + 1) r
def zaw (n : Nat) : List Nat := (List.range n).map fun k => 1000000 + k

section
variable {e : TypeId} {m : Nat}
theorem zag : ∀ (S : List (List (List D))) (k i : Nat), find (dyn e m k S) i = if 1000000 + k <= i then (S[i - (1000000 + k)]?).map (fun r => some ⟨e, m, dr r⟩) else none
 | [], k, i => by simp [dyn, find]
 | r :: S, k, i => by
  simp only [dyn, find];by_cases h : 1000000 + k = i
  ·subst h; simp
  ·rw [if_neg h, zag S (k + 1) i];by_cases h2 : 1000000 + k <= i
   ·rw [if_pos h2, if_pos (by omega), show i - (1000000 + k) = (i - (1000000 + (k + 1))) + 1 by omega, List.getElem?_cons_succ]
   ·rw [if_neg h2, if_neg (by omega)]
theorem zbf (S : List (List (List D))) (j : Nat) : find (dyn e m 0 S) (1000000 + j) = (S[j]?).map (fun r => some ⟨e, m, dr r⟩) := by
 rw [zag, if_pos (by omega), show 1000000 + j - (1000000 + 0) = j by omega]
theorem find_dynP : ∀ (S : List (List (List D))) (k i : Nat), find (dynP e m k S) i = if 1000000 + k <= i then (S[i - (1000000 + k)]?).map (fun r => ⟨e, m, dr r⟩) else none
 | [], k, i => by simp [dynP, find]
 | r :: S, k, i => by
  simp only [dynP, find];by_cases h : 1000000 + k = i
  ·subst h; simp
  ·rw [if_neg h, find_dynP S (k + 1) i];by_cases h2 : 1000000 + k <= i
   ·rw [if_pos h2, if_pos (by omega), show i - (1000000 + k) = (i - (1000000 + (k + 1))) + 1 by omega, List.getElem?_cons_succ]
   ·rw [if_neg h2, if_neg (by omega)]
theorem zx : ∀ (S : List Nat) (k i : Nat), find (zlx k S) i = if 1000000 + k <= i then (S[i - (1000000 + k)]?).map some else none
 | [], k, i => by simp [zlx, find]
 | r :: S, k, i => by
  simp only [zlx, find];by_cases h : 1000000 + k = i
  ·subst h; simp
  ·rw [if_neg h, zx S (k + 1) i];by_cases h2 : 1000000 + k <= i
   ·rw [if_pos h2, if_pos (by omega), show i - (1000000 + k) = (i - (1000000 + (k + 1))) + 1 by omega, List.getElem?_cons_succ]
   ·rw [if_neg h2, if_neg (by omega)]
theorem find_dynN0 (S : List Nat) (j : Nat) : find (zlx 0 S) (1000000 + j) = (S[j]?).map some := by
 rw [zx, if_pos (by omega), show 1000000 + j - (1000000 + 0) = j by omega]
end

theorem zw {α : Type} (x : Nat) : ∀ (a b : List (Nat × α)), find (a ++ b) x = (find a x).or (find b x) := zof x
theorem zmx {α : Type} {x b : Nat} : ∀ {l : List (Nat × α)}, (l.all fun y => Nat.blt y.1 b) = true -> b <= x -> find l x = none
 | [], _, _ => rfl
 | (k, v) :: r, h, hx => by
  simp only [List.all_cons, Bool.and_eq_true] at h;have h1 : k < b := Nat.le_of_ble_eq_true h.1;simp only [find];rw [if_neg (by omega)];exact zmx h.2 hx

theorem zy (n : Nat) : (zaw n).length = n := by simp [zaw]
theorem zqi {n k : Nat} (h : k < n) : (zaw n)[k]? = some (1000000 + k) := by simp [zaw, h]
theorem zbb {n k x : Nat} (h : (zaw n)[k]? = some x) : k < n /\ x = 1000000 + k := by
 have hk : k < n := by have := (List.getElem?_eq_some_iff.1 h).1; simpa [zaw] using this
 rw [zqi hk] at h;exact ⟨hk, by cases h; rfl⟩
theorem idsN_succ (n : Nat) : zaw (n + 1) = zaw n ++ [1000000 + n] := by simp [zaw, List.range_succ]
theorem zbj {n x : Nat} : x ∈ zaw n ↔ 1000000 <= x /\ x < 1000000 + n := by
 simp only [zaw, List.mem_map, List.mem_range];constructor
 ·rintro ⟨k, hk, rfl⟩; omega
 ·intro h; exact ⟨x - 1000000, by omega, by omega⟩
theorem zba (n : Nat) : (zaw n).Nodup := by
 induction n with
 | zero => simp [zaw]
 | succ n ih =>
  rw [idsN_succ, List.nodup_append];exact ⟨ih, by simp, fun a ha b hb => by have := zbj.1 ha; simp at hb; omega⟩
theorem upR_of {σ : List (Nat × Option Nat)} : ∀ {x y : List (List AV)}, x.length = y.length -> (∀ (i : Nat) (r q : List AV), x[i]? = some r -> y[i]? = some q -> upL σ r = some q) -> upR σ x = some y
 | [], [], _, _ => rfl
 | [], _ :: _, h, _ => by simp at h
 | _ :: _, [], h, _ => by simp at h
 | a :: x, b :: y, h, hg => by
  have h1 := hg 0 a b rfl rfl;have h2 := upR_of (x := x) (y := y) (by simpa using h) fun i r q hr hq => hg (i + 1) r q (by simpa using hr) (by simpa using hq);simp [upR, h1, h2]
theorem rnR_of {σ : List (Nat × Nat)} : ∀ {x y : List (List AV)}, x.length = y.length -> (∀ (i : Nat) (r q : List AV), x[i]? = some r -> y[i]? = some q -> rnL σ r = some q) -> rnR σ x = some y
 | [], [], _, _ => rfl
 | [], _ :: _, h, _ => by simp at h
 | _ :: _, [], h, _ => by simp at h
 | a :: x, b :: y, h, hg => by
  have h1 := hg 0 a b rfl rfl;have h2 := rnR_of (x := x) (y := y) (by simpa using h) fun i r q hr hq => hg (i + 1) r q (by simpa using hr) (by simpa using hq);simp [rnR, h1, h2]
theorem upH_app {σ : List (Nat × Option Nat)} {s : St} : ∀ {a b : List (Nat × Option Ob)}, upH σ s a -> upH σ s b -> upH σ s (a ++ b)
 | [], b, _, h => h
 | (k, some o) :: a, b, ha, hb => by
  simp only [List.cons_append, upH] at ha ⊢;exact ⟨ha.1, upH_app ha.2 hb⟩
 | (k, none) :: a, b, ha, hb => by
  simp only [List.cons_append, upH] at ha ⊢;exact upH_app ha hb
theorem upH_dyn {σ : List (Nat × Option Nat)} {s : St} {e : TypeId} {m : Nat} : ∀ {S : List (List (List D))} {k : Nat}, (∀ (j : Nat) (r : List (List D)), S[j]? = some r -> ∃ x o0, find σ (1000000 + (k + j)) = some (some x) /\ s.obj x = some o0 /\ o0.elem = e /\ o0.m = m /\ o0.rows = dr r) -> upH σ s (dyn e m k S)
 | [], k, _ => trivial
 | r :: S, k, h => by
  simp only [dyn, upH];obtain ⟨x, o0, h1, h2, h3, h4, h5⟩ := h 0 r rfl;refine ⟨?_, upH_dyn fun j r' hr => ?_⟩
  ·rw [Nat.add_zero] at h1;rw [h1];exact ⟨o0, h2, h3, h4, by rw [h5]; exact upR_dr σ r⟩
  ·have := h (j + 1) r' (by simpa using hr)
   rwa [show k + (j + 1) = k + 1 + j by omega] at this
theorem namesOk_app {s' : St} : ∀ {a b : List (Nat × Option Nat)}, zg s' a -> zg s' b -> zg s' (a ++ b)
 | [], b, _, h => h
 | (k, v) :: a, b, ha, hb => by
  simp only [List.cons_append, zg] at ha ⊢;exact ⟨ha.1, ha.2.1, namesOk_app ha.2.2 hb⟩
theorem namesOk_dyn {s' : St} : ∀ {ns : List Nat} {k : Nat}, (∀ j, j < ns.length -> (s'.obj (1000000 + (k + j))).isSome = true /\ 1000000 + (k + j) < s'.nxt) -> zg s' (zlx k ns)
 | [], k, _ => trivial
 | x :: r, k, h => by
  simp only [zlx, zg];have h0 := h 0 (by simp);refine ⟨h0.1, h0.2, namesOk_dyn fun j hj => ?_⟩;have := h (j + 1) (by simpa using hj)
  rwa [show k + (j + 1) = k + 1 + j by omega] at this
theorem olds_app : ∀ (a b : List (Nat × Option Nat)), zp (a ++ b) = zp a ++ zp b
 | [], b => rfl
 | (k, some x) :: a, b => by simp [zp, olds_app a b]
 | (k, none) :: a, b => by simp [zp, olds_app a b]
theorem olds_dyn : ∀ (ns : List Nat) (k : Nat), zp (zlx k ns) = ns
 | [], k => rfl
 | x :: r, k => by simp [zlx, zp, olds_dyn r]

theorem weak_dyn {s : St} {n : Nat} {tm : List (Nat × AV)} {nxt : Nat} {e : TypeId} {m : Nat} (σ0 : List (Nat × Option Nat)) (ns : List Nat) (H0 : List (Nat × Option Ob)) (S : List (List (List D)))
  (hlow : (σ0.all fun x => Nat.blt x.1 1000000) = true) (hlow2 : (H0.all fun x => Nat.blt x.1 1000000) = true) (hnx : 1000000 + S.length <= nxt) (hlen : ns.length = S.length)
  (hn : n = s.n) (htm : upT (σ0 ++ zlx 0 ns) s tm) (hh : upH (σ0 ++ zlx 0 ns) s H0) (hnm : zg ⟨n, tm, H0, nxt⟩ σ0)
  (ho : (zp σ0).Nodup) (hns : ns.Nodup) (hd : ∀ x ∈ ns, x ∉ zp σ0)
  (hS : ∀ (j : Nat) (r : List (List D)) (x : Nat), S[j]? = some r -> ns[j]? = some x -> s.obj x = some ⟨e, m, dr r⟩) : zeh s ⟨n, tm, H0 ++ dyn e m 0 S, nxt⟩ := by
 have hget : ∀ x, find (σ0 ++ zlx 0 ns) x = (find σ0 x).or (find (zlx 0 ns) x) := fun x => zw x _ _;refine zi (σ0 ++ zlx 0 ns) hn htm (upH_app hh (upH_dyn fun j r hr => ?_)) (namesOk_app ?_ (namesOk_dyn fun j hj => ?_)) ?_
 ·have hj : j < ns.length := by rw [hlen]; exact (List.getElem?_eq_some_iff.1 hr).1
  have hx : ns[j]? = some ns[j] := List.getElem?_eq_getElem hj;refine ⟨ns[j], _, ?_, hS j r _ hr hx, rfl, rfl, rfl⟩;rw [hget, zmx hlow (by omega), Nat.zero_add, find_dynN0, hx]; rfl
 ·have key : ∀ (σ : List (Nat × Option Nat)), zg ⟨n, tm, H0, nxt⟩ σ -> zg ⟨n, tm, H0 ++ dyn e m 0 S, nxt⟩ σ := by
   intro σ;induction σ with
   | nil => intro _; trivial
   | cons p r ih =>
    obtain ⟨k, v⟩ := p;intro h;simp only [zg] at h ⊢;refine ⟨?_, h.2.1, ih h.2.2⟩;have h1 := h.1;simp only [St.obj] at h1 ⊢;rw [zw];cases hf : find H0 k with
    | none => rw [hf] at h1; simp at h1
    | some o => rw [hf] at h1; simpa using h1
  exact key σ0 hnm
 ·have hj' : j < S.length := by omega
  refine ⟨?_, by simp only; omega⟩;simp only [St.obj];rw [zw, zmx hlow2 (by omega), Nat.zero_add, zbf, List.getElem?_eq_getElem hj']; rfl
 ·rw [olds_app, olds_dyn, List.nodup_append];exact ⟨ho, hns, fun a ha b hb hab => hd b hb (hab ▸ ha)⟩

theorem weak_ext {s s' : St} (hn : s'.n = s.n) (h1 : ∀ t, s'.get t = s.get t) (h2 : ∀ x, s'.obj x = s.obj x) (h3 : s.nxt <= s'.nxt) : zeh s s' := by
 intro g a w hr;refine ⟨g, ?_, zan.refl g w⟩;have := Rel.congr hr h1 h2;exact ⟨this.defers, by rw [hn]; exact this.size, this.tmp, fun id hu => Nat.lt_of_lt_of_le (this.used id hu) h3, this.heap⟩

theorem fzH_dyn {e : TypeId} {m : Nat} (id : Nat) (rs : List (List D)) : ∀ (S : List (List (List D))) (k : Nat), fzH id rs (dyn e m k S) = dyn e m k S
 | [], k => rfl
 | r :: S, k => by
  have h := fzH_dyn (e := e) (m := m) id rs S (k + 1);simp only [dyn, fzH] at h ⊢;rw [h, fzO, zbc]

theorem fzR_appA (id : Nat) (rs : List (List D)) : ∀ (a b : List (List AV)), fzR id rs (a ++ b) = fzR id rs a ++ fzR id rs b
 | [], b => rfl
 | x :: a, b => by simp only [List.cons_append, fzR, fzR_appA id rs a b]
theorem fzR_keep (id : Nat) (rs : List (List D)) : ∀ {x : List (List AV)}, (∀ (i : Nat) (r : List AV), x[i]? = some r -> fzL id rs r = r) -> fzR id rs x = x
 | [], _ => rfl
 | a :: x, hg => by
  have h1 := hg 0 a rfl;have h2 := fzR_keep id rs (x := x) fun i r hr => hg (i + 1) r (by simpa using hr);simp [fzR, h1, h2]
inductive Tr where
 | leaf
 | stop
 | alt (i : Nat) (t u : Tr)
def Tr.heads : Tr -> List Nat
 | .alt i _ u => i :: u.heads
 | _ => []
section
variable (ty : TypeId -> Option TI) (P : Program) (orc : List (Nat × Res)) (l : List Oper)
end

theorem zmp : ∀ {l : List Nat}, l.Nodup -> zev l = true
 | [], _ => rfl
 | a :: r, h => by
  have h' := List.nodup_cons.1 h;simp only [zev, Bool.and_eq_true, List.all_eq_true, Bool.not_eq_true'];refine ⟨fun b hb => ?_, zmp h'.2⟩;cases hab : Nat.beq a b with
  | false => rfl
  | true => exact absurd (Nat.eq_of_beq_eq_true hab ▸ hb) h'.1
theorem zwc {e : TypeId} {m : Nat} : ∀ (S : List (List (List D))) (k : Nat), (dynP e m k S).map (·.1) = List.range' (1000000 + k) S.length
 | [], k => rfl
 | r :: S, k => by simp [dynP, zwc S (k + 1), List.range'_succ]; omega
section
variable {P : Program} {ty : TypeId -> Option TI} {orc : List (Nat × Res)} {l pre post : List Oper} {o : Oper} {cl : Call} {fo : Operand} {I s1 : St} {f : FuncId} {caps av : List AV} {eo e m : Nat} {S : List (List (List D))} {Q : Exit -> St -> Prop} {g g1 : G} {w w1 : World} {a1 : Act}
end

end Go.Abs

namespace Go.Abs
variable [Flag]
open Go.RowKit

section
variable {P : Program} {g : G} {w : World} {t kt et : TypeId} {kti eti : TI}

theorem entry_run {obj : Nat -> Option Ob} (h : zam g obj w) (hu : P.underlying t = some (.map kt et)) (hk : TOk P kt kti) (het : TOk P et eti) (hz : zua eti = .nl) {id : Nat} {o : Ob} (ho : obj id = some o) {L : Loc} (hL : g.loc id = some L) (hv : L.virt = false /\ L.map = true)
  {k : D} {kv : Value} (hf : zcg kti k = true) (hkv : zr g.ro w k kv) {r : Option AV} (hl : zhd k o.rows = some r) {rows1 : List (List AV)} (hp : zky k (r.getD .nl) o.rows = some rows1) :
  ∃ w1 g1 val es1 clock1 j e, (Instr.mapEntry t (.map (some L.blk)) kv).run P w = .ok (.tuple #[val, goInt e.born]) w1 /\ zam g1 (zbh obj id (some ⟨o.elem, o.m, rows1⟩)) w1 /\ zan g w g1 w1 /\ zbs g w g1 w1 /\ (∀ k, g1.used k -> g.used k) /\ g1.loc id = some L /\
   w1.heap[L.blk]? = some (.map es1 clock1) /\ MapKept.Stamped es1 clock1 /\ es1[j]? = some e /\ e.key = kv /\ zh g1 w1 (r.getD .nl) val /\ zee k rows1 = some (some j) := by
 obtain ⟨L', hL', hok⟩ := h.own id o ho;rw [hL] at hL'; cases hL';obtain ⟨_, es, clock, hb, hst, hes⟩ := hok.ents hv;have hlt : L.blk < w.heap.size := ((h.live id L hL).2 hv.1).1;unfold zhd at hl;unfold zky at hp;have locs : ∀ {g1 : G} {w1 : World}, zbs g w g1 w1 -> zam g1 (zbh obj id (some ⟨o.elem, o.m, rows1⟩)) w1 -> g1.loc id = some L := by
  intro g1 w1 hlat hrel;obtain ⟨M, hM, _⟩ := hrel.own id ⟨o.elem, o.m, rows1⟩ (by simp [zbh]);rcases hlat.loc id (h.live id L hL).1 with e | e
  ·rw [e, hL]
  ·rw [hM] at e; cases e
 cases hq : zee k o.rows with
 | none => rw [hq] at hp; cases hp
 | some q =>
  rw [hq] at hp hl;have hs := zml hkv hes hq;have hrun := zlm hk hf hkv hes hq;cases q with
  | none =>
   simp only [Option.some.injEq] at hl;subst hl;simp only [Option.getD_none, Option.some.injEq] at hp ⊢;subst hp;obtain ⟨z, hzr, hzrep⟩ := het.zeroOne hz (by simp) g w;have hst' := MapKept.stamped_push hst (key := kv) (val := z) hs;obtain ⟨g', h1, h2, h3, h4⟩ := zia h ho hL hok hv hb hst' (o.rows ++ [[.d k, .nl]]) (by rw [Array.toList_push]; exact hes.append (by simp only [zad, zj]; exact ⟨_, [], rfl, ⟨kv, _, rfl, by simpa only [zh] using hkv, z, _, rfl, hzrep, rfl⟩, rfl⟩));refine ⟨_, g', z, _, _, es.size, ⟨kv, z, clock⟩, ?_, h1, h2, h3, h4, locs h3 h1, (MapKept.heap_set hb).1, hst', by simp, rfl, zh.later h3 _ _ hzrep, ?_⟩
   ·simp [Instr.mapEntry, run_underlying hu, MapKept.run_getObj_map hb, zep hk hf hkv, hrun, hzr, MapKept.run_setObj_map _ hb, Result.andThen]
   ·have hlen : o.rows.length = es.size := by
     have : ∀ {rows : List (List AV)} {l : List MapEntry}, zad g w rows l -> rows.length = l.length := by
      intro rows;induction rows with
      | nil => intro l hl; simp only [zad] at hl; simp [hl]
      | cons r rs ih => intro l hl; simp only [zad] at hl; obtain ⟨e, l', rfl, _, h2⟩ := hl; simp [ih h2]
     simpa using this hes
    rw [<- hlen];have hself : eqK k k = some true := by
     cases k with
     | int q a => simp [eqK]
     | agg cs =>
      simp only [eqK];simp only [zcg] at hf;split at hf
      ·simp only [Bool.and_eq_true] at hf;have : ∀ l : List D, l.all zso = true -> eqD 1 l l = some true := by
        intro l;induction l with
        | nil => intro _; rfl
        | cons x l ih =>
         intro hx;simp only [List.all_cons, Bool.and_eq_true] at hx;cases x with
         | int q a => simp [eqD, ih hx.2]
         | _ => simp [zso] at hx
       exact this cs hf.2
      ·cases hf
     | _ => simp [zcg] at hf
    have app : ∀ (rows : List (List AV)), zee k rows = some none -> zee k (rows ++ [[.d k, .nl]]) = some (some rows.length) := by
     intro rows;induction rows with
     | nil => intro _; simp [zee, hself]
     | cons r rs ih =>
      intro hr;rw [List.cons_append];unfold zee at hr ⊢;split at hr
      ·rename_i k' a;split at hr
       ·cases hr
       ·rename_i hq2;simp only [Option.map_eq_some_iff] at hr;obtain ⟨x, hx, hx2⟩ := hr;cases x with
        | some x => cases hx2
        | none => simp [hq2, ih hx]
       ·cases hr
      ·cases hr
    exact app _ hq
  | some j =>
   obtain ⟨e, a, e1, e2, ⟨k', e3⟩, e4⟩ := hs;simp only [e3, Option.some.injEq] at hl;subst hl;simp only [Option.getD_some, Option.some.injEq] at hp ⊢;subst hp;have hj : es[j]? = some e := by simpa using e1
   have hmod : (es.modify j fun e => { e with key := kv }).toList = es.toList.set j { e with key := kv } := by rw [Array.toList_modify, ChangeMaps.modify_eq_set _ _ _ _ e1]
   have hst' := MapKept.stamped_modify hst j (fun e => { e with key := kv }) (fun _ _ => rfl) (fun e' _ he' => by rw [hj] at he'; cases he'; exact e2.symm);obtain ⟨g', h1, h2, h3, h4⟩ := zia h ho hL hok hv hb hst' (o.rows.set j [.d k, a]) (by rw [hmod]; exact zad.set (by simp only [zj]; exact ⟨kv, _, rfl, by simpa only [zh] using hkv, e.val, _, rfl, e4, rfl⟩) j hes);have hjl : j < es.size := (Array.getElem?_eq_some_iff.1 hj).1;refine ⟨_, g', e.val, _, _, j, { e with key := kv }, ?_, h1, h2, h3, h4, locs h3 h1, (MapKept.heap_set hb).1, hst', by simp [Array.getElem?_modify, hj], rfl, zh.later h3 _ _ e4, ?_⟩
   ·simp [Instr.mapEntry, run_underlying hu, MapKept.run_getObj_map hb, zep hk hf hkv, hrun, hj, e2, stays_run hf hkv, MapKept.run_setObj_map _ hb, Result.andThen]
   ·have hself : eqK k k = some true := by
     cases k with
     | int q a => simp [eqK]
     | agg cs =>
      simp only [eqK];simp only [zcg] at hf;split at hf
      ·simp only [Bool.and_eq_true] at hf;have : ∀ l : List D, l.all zso = true -> eqD 1 l l = some true := by
        intro l;induction l with
        | nil => intro _; rfl
        | cons x l ih =>
         intro hx;simp only [List.all_cons, Bool.and_eq_true] at hx;cases x with
         | int q a => simp [eqD, ih hx.2]
         | _ => simp [zso] at hx
       exact this cs hf.2
      ·cases hf
     | _ => simp [zcg] at hf
    have sets : ∀ (rows : List (List AV)) (j : Nat), zee k rows = some (some j) -> zee k (rows.set j [.d k, a]) = some (some j) := by
     intro rows;induction rows with
     | nil => intro j hr; simp [zee] at hr
     | cons r rs ih =>
      intro j hr;unfold zee at hr;split at hr
      ·rename_i k' a';split at hr
       ·cases hr;simp [zee, hself]
       ·rename_i hq2;simp only [Option.map_eq_some_iff] at hr;obtain ⟨_, hx, x, rfl, rfl⟩ := hr;simp only [List.set_cons_succ];unfold zee;simp [hq2, ih x hx]
       ·cases hr
      ·cases hr
    exact sets _ _ hq

theorem entry_store {obj : Nat -> Option Ob} (h : zam g obj w) {id : Nat} {o : Ob} (ho : obj id = some o) {L : Loc} (hL : g.loc id = some L) (hv : L.virt = false /\ L.map = true) {es : Array MapEntry} {clock : Nat} (hb : w.heap[L.blk]? = some (.map es clock)) {j : Nat} {e : MapEntry} (hj : es[j]? = some e)
  {k : D} {kv : Value} (hkv : zr g.ro w k kv) (he : e.key = kv) {x : AV} {v : Value} (hx : zh g w x v) (hp : zee k o.rows = some (some j)) :
  ∃ w' g', (Instr.entryStore t (.map (some L.blk)) (goInt e.born) v).run P w = .ok () w' /\ zam g' (zbh obj id (some ⟨o.elem, o.m, o.rows.set j [.d k, x]⟩)) w' /\ zan g w g' w' /\ zbs g w g' w' /\ (∀ k, g'.used k -> g.used k) := by
 obtain ⟨L', hL', hok⟩ := h.own id o ho;rw [hL] at hL'; cases hL';obtain ⟨_, es', clock', hb', hst, hes⟩ := hok.ents hv;rw [hb] at hb'; cases hb';have hfind : es.findIdx? (fun x => (x.born : Int) == (e.born : Int)) = some j := by
  rw [Array.findIdx?_eq_some_iff_getElem];obtain ⟨hlt, rfl⟩ := Array.getElem?_eq_some_iff.1 hj;refine ⟨hlt, by simp, fun i hi => ?_⟩;have hnd := hst.2.1;have := List.pairwise_iff_getElem.1 hnd i j (by simp; omega) (by simpa using hlt) hi;simp only [List.getElem_map, Array.getElem_toList] at this;simp; omega
 have e1 : es.toList[j]? = some e := by simpa using hj
 have hmod : (es.modify j fun e => { e with val := v }).toList = es.toList.set j { e with val := v } := by rw [Array.toList_modify, ChangeMaps.modify_eq_set _ _ _ _ e1]
 have hst' := MapKept.stamped_modify hst j (fun e => { e with val := v }) (fun _ _ => rfl) (fun e' _ he' => rfl);obtain ⟨g', h1, h2, h3, h4⟩ := zia h ho hL hok hv hb hst' (o.rows.set j [.d k, x]) (by rw [hmod]; exact zad.set (by simp only [zj]; exact ⟨_, _, rfl, by simp only [zh]; rw [he]; exact hkv, v, _, rfl, hx, rfl⟩) j hes);refine ⟨_, g', ?_, h1, h2, h3, h4⟩;simp [Instr.entryStore, MapKept.run_getObj_map hb, asInt, asIntOf, goInt, hfind, MapKept.run_setObj_map _ hb, Result.andThen]
end

theorem zcv {a : Act} {t : Tmp} {v : Value} (h : t < a.tmps.size) : (a.put (some t) v).tmps.getD t undef = v := by
 simp [Act.put, Array.getD_eq_getD_getElem?, Array.getElem?_setIfInBounds, h]
theorem zcd {a : Act} {t u : Tmp} {v : Value} (h : u ≠ t) : (a.put (some t) v).tmps.getD u undef = a.tmps.getD u undef := by
 simp [Act.put, Array.getD_eq_getD_getElem?, Array.getElem?_setIfInBounds_ne (Ne.symm h)]
theorem zga {a : Act} {t : Option Tmp} {v : Value} : (a.put t v).tmps.size = a.tmps.size := by cases t <;> simp [Act.put]

theorem znd {P : Program} {ty : TypeId -> Option TI} (hc : Ctx P ty) (orc : List (Nat × Res)) {rid : Nat} {l : List Oper} (pre : List Oper) (o1 o2 o3 o4 o5 : Oper) (hl : l = pre ++ [o1, o2, o3, o4, o5])
  {T S kt et e : TypeId} {tm tk tx t1 t2 t3 t4 : Tmp} {c : Call} (g1 : o1.guard = none) (g2 : o2.guard = none) (g3 : o3.guard = none) (g4 : o4.guard = none) (g5 : o5.guard = none)
  (h1 : o1.op = .mapEntry T (.tmp tm) (.tmp tk)) (d1 : o1.dst = some t1) (h2 : o2.op = .extract (.tmp t1) 0) (d2 : o2.dst = some t2)
  (h3 : o3.op = .call c) (hcb : c.callee = .builtin .append) (hca : c.argTypes = #[S, S]) (hcx : c.args = #[.tmp t2, .tmp tx]) (d3 : o3.dst = some t3)
  (h4 : o4.op = .extract (.tmp t1) 1) (d4 : o4.dst = some t4) (h5 : o5.op = .entryStore T (.tmp tm) (.tmp t4) (.tmp t3)) (d5 : o5.dst = none)
  (ht : tm ≠ t1 /\ tm ≠ t2 /\ tm ≠ t3 /\ tm ≠ t4 /\ tx ≠ t1 /\ tx ≠ t2 /\ t2 ≠ t1 /\ t3 ≠ t1 /\ t3 ≠ t2 /\ t4 ≠ t1 /\ t4 ≠ t2 /\ t4 ≠ t3)
  {ti kti eti si te : TI} (hT : ty T = some ti) (hTk : ti.kind = .map kt et) (hkt : ty kt = some kti) (het : ty et = some eti) (hz : zua eti = .nl) (hS : ty S = some si) (hSk : si.kind = .slice e) (he : ty e = some te) (hpos : 0 < te.size) (hbpos : 0 < te.bytes)
  (I : St) {id : Nat} {o : Ob} {k : D} {r : Option AV} {rows1 rows3 r1 r2 : List (List AV)} {wr : List (Nat × Option Ob)} {p1 p2 : Prop} (hm : I.get tm = .hm id) (hk : I.get tk = .d k) (hf : zcg kti k = true) (ho : I.obj id = some o)
  (hr : r = none \/ ∃ i n', r = some (.hs i 0 (n' + 1))) (hlk : zhd k o.rows = some r) (hp : zky k (r.getD .nl) o.rows = some rows1)
  (hd : zeo (zbh I.obj id (some ⟨o.elem, o.m, rows1⟩)) e te.size (r.getD .nl) = some (r1, wr, p1)) (hp1 : p1) (hsrc : zdo (zbh I.obj id (some ⟨o.elem, o.m, rows1⟩)) te.size (I.get tx) = some (r2, p2)) (hp2 : p2)
  (hb : (r1.length + r2.length) * te.bytes <= 140737488355328) (hp3 : zky k (.hs I.nxt 0 (r1.length + r2.length)) rows1 = some rows3) (hwr : zcu (zbh I.obj id (some ⟨o.elem, o.m, rows1⟩)) (wr ++ [(I.nxt, some ⟨e, te.size, r1 ++ r2⟩)]) id = some ⟨o.elem, o.m, rows1⟩)
  (hn : t1 < I.n /\ t2 < I.n /\ t3 < I.n /\ t4 < I.n) {Q : Exit -> St -> Prop} {s : St}
  (hw : ∀ K : St -> Prop, (∀ s', zeh s' I -> K s') -> wpT ty P orc (l.map (·.dst)) s.nxt 0 pre { s with nxt := s.nxt + l.length } K)
  (hQ : Q .normal ⟨I.n, (t4, .any) :: (t3, .hs I.nxt 0 (r1.length + r2.length)) :: (t2, .any) :: (t1, .any) :: I.tm, (id, some ⟨o.elem, o.m, rows3⟩) :: zdd ((id, some ⟨o.elem, o.m, rows1⟩) :: I.hp) (wr ++ [(I.nxt, some ⟨e, te.size, r1 ++ r2⟩)]), I.nxt + 1⟩) : AWp P (.region rid l.toArray false) Q s := by
 intro g a w hrel0;refine wp_region ?_;have hgs : ∀ j : Nat, (l.map (·.dst))[j]? = (l.toArray[j]?).map fun o : Oper => o.dst := by intro j; simp
 have hlen : l.length = pre.length + 5 := by rw [hl]; simp
 have key : wpList P l.toArray (fun e a' w' => ∃ s' g', zcs s' g' a' w' /\ zan g w g' w' /\ Q e s') l a w := by
  have h3' := zgg (P := P) hc (orc := orc) (gs := l.map (·.dst)) (ops := l.toArray) hgs (base := s.nxt) (nxt := s.nxt + l.length)
   (Q := fun e a' w' => ∃ s' g', zcs s' g' a' w' /\ zan g w g' w' /\ Q e s') (g0 := g) (w0 := w) (l2 := [o1, o2, o3, o4, o5]) (en := pre.length) (n0 := s.n) (K := fun s1 => zeh s1 I) ?_ pre 0 { s with nxt := s.nxt + l.length } g a w (by simp) rfl rfl ⟨hrel0.defers, hrel0.size, hrel0.tmp, fun id hu => by have := hrel0.used id hu; simpa using this, hrel0.heap⟩ (zan.refl g w) (hw _ fun _ hq => hq)
  ·rw [<- hl] at h3'; exact h3'
  ·intro s1 ga aa wa hnx1 hn0 hrel hst hwk;have hr1 : zcs s1 ga aa wa := ⟨hrel.defers, hrel.size, hrel.tmp, fun id hu => by have := hrel.used id hu; show id < s1.nxt; rw [hnx1]; omega, hrel.heap⟩
   obtain ⟨gb, R0, hsb⟩ := hwk ga aa wa hr1;have hstb := hst.trans hsb
   -- the temporaries
   obtain ⟨n1, n2, n3, n4, n5, n6, n7, n8, n9, n10, n11, n12⟩ := ht;have hsz := R0.size;have htm0 := R0.tmp tm;have htk0 := R0.tmp tk;have htx0 := R0.tmp tx;rw [hm] at htm0;rw [hk] at htk0;obtain ⟨L, hL, hok⟩ := R0.heap.own id o ho;have hmv : (L.virt = false /\ L.map = true) /\ aa.tmps.getD tm undef = .map (some L.blk) := by
    simp only [zh] at htm0;exact htm0.2 L hL
   obtain ⟨hv, hmv⟩ := hmv;have hu : P.underlying T = some (.map kt et) := zqd (hc.ok T ti hT) hTk;have hkv : zr gb.ro wa k (aa.tmps.getD tk undef) := by simpa only [zh] using htk0
   -- the entry
   obtain ⟨w1, gc, val, es1, clock1, j, en, run1, H1, S1, L1, U1, hL1, hb1, hst1, hj1, hkey1, hval1, hpos1⟩ := entry_run R0.heap hu (hc.ok kt kti hkt) (hc.ok et eti het) hz ho hL hv hf hkv hlk hp;have ex1 : (execOp aa.eval o1).run P wa = .ok (.value (.tuple #[val, goInt en.born])) w1 := by
    simp only [execOp, h1, Act.eval, hmv, Sem.run_bind, run1, Result.andThen_ok, Sem.run_pure]
   have R1 := zcf (U' := (· < I.nxt)) (dst := some t1) (v := .any) (u := .tuple #[val, goInt en.born]) R0 H1 L1 (fun k hk => R0.used k (U1 k hk)) (by simp [zh]) (fun d hd => by cases hd; exact hn.1)
   -- its value
   have ev1 : (aa.put (some t1) (.tuple #[val, goInt en.born])).tmps.getD t1 undef = .tuple #[val, goInt en.born] := zcv (by rw [hsz]; exact hn.1);have ex2 : (execOp (aa.put (some t1) (.tuple #[val, goInt en.born])).eval o2).run P w1 = .ok (.value val) w1 := by
    simp only [execOp, h2, Act.eval, ev1];simp [Instr.extract]
   have same1 : zbs gc w1 gc w1 := ⟨fun b hb => ⟨hb, rfl⟩, fun _ hx => hx, fun _ _ => .inl rfl⟩
   have R2 := zcf (U' := (· < I.nxt)) (dst := some t2) (v := .any) (u := val) R1 R1.heap same1 (fun k hk => R1.used k hk) (by simp [zh]) (fun d hd => by cases hd; exact hn.2.1)
   -- the append
   have hxv : zh gc w1 (I.get tx) (aa.tmps.getD tx undef) := zh.later L1 _ _ (R0.tmp tx);have hnid : ¬ gc.used I.nxt := fun hx => absurd (R1.used _ hx) (Nat.lt_irrefl _);obtain ⟨v', w2, run3, hfr, gd, H3, S3, L3, U3, hv3⟩ := zpa (ty := 0) (hc.ok S si hS) hSk (hc.ok e te he) hpos hbpos R1.heap hnid hval1 hxv hd hp1 hsrc hp2 hb;have ev2 : ((aa.put (some t1) (.tuple #[val, goInt en.born])).put (some t2) val).tmps.getD t2 undef = val := zcv (by rw [zga, hsz]; exact hn.2.1);have evx : ((aa.put (some t1) (.tuple #[val, goInt en.born])).put (some t2) val).tmps.getD tx undef = aa.tmps.getD tx undef := by rw [zcd n6, zcd n5]
   have ex3 : (execOp ((aa.put (some t1) (.tuple #[val, goInt en.born])).put (some t2) val).eval o3).run P w1 = .ok (.value v') w2 := by
    have hb : ∀ t cs, builtin .append c.argTypes t cs (c.args.map ((aa.put (some t1) (.tuple #[val, goInt en.born])).put (some t2) val).eval) = (do pure (.value (<- Builtin.append_ #[S, S] 0 #[val, aa.tmps.getD tx undef]))) := by
     intro t cs;have : c.args.map ((aa.put (some t1) (.tuple #[val, goInt en.born])).put (some t2) val).eval = #[val, aa.tmps.getD tx undef] := by
      rw [hcx];simp only [List.map_toArray, List.map_cons, List.map_nil, Act.eval, ev2, evx]
     rw [this];simp only [builtin, hca];rfl
    simp only [execOp, h3, resolve, hcb, pure_bind, invoke, hb, Sem.run_bind, run3, Result.andThen_ok, Sem.run_pure]
   have R3 := zcf (U' := (· < I.nxt + 1)) (dst := some t3) (v := .hs I.nxt 0 (r1.length + r2.length)) (u := v') R2 H3 L3 (fun k hk => (U3 k hk).elim (fun h => by have h9 : k < I.nxt := R1.used k h; omega) fun h => by omega) hv3 (fun d hd => by cases hd; exact hn.2.2.1)
   -- the stamp
   have ev3 : (((aa.put (some t1) (.tuple #[val, goInt en.born])).put (some t2) val).put (some t3) v').tmps.getD t1 undef = .tuple #[val, goInt en.born] := by rw [zcd n8.symm, zcd n7.symm, ev1]
   have ex4 : (execOp (((aa.put (some t1) (.tuple #[val, goInt en.born])).put (some t2) val).put (some t3) v').eval o4).run P w2 = .ok (.value (goInt en.born)) w2 := by
    simp only [execOp, h4, Act.eval, ev3];simp [Instr.extract]
   have same2 : zbs gd w2 gd w2 := ⟨fun b hb => ⟨hb, rfl⟩, fun _ hx => hx, fun _ _ => .inl rfl⟩
   have R4 := zcf (U' := (· < I.nxt + 1)) (dst := some t4) (v := .any) (u := goInt en.born) R3 R3.heap same2 (fun k hk => R3.used k hk) (by simp [zh]) (fun d hd => by cases hd; exact hn.2.2.2)
   -- the store
   have hLb : L.blk < wa.heap.size := ((R0.heap.live id L hL).2 hv.1).1;have hne : some L.blk ≠ val.ownBlock := by
    rcases hr with rfl | ⟨i, n', rfl⟩
    ·simp only [Option.getD_none, zh] at hval1;rw [hval1]; simp [Value.ownBlock]
    ·simp only [Option.getD_some] at hval1;simp only [zh] at hval1;cases hgi : gc.loc i with
     | none =>
      simp only [Option.getD_some, zeo] at hd;cases hoi : zbh I.obj id (some ⟨o.elem, o.m, rows1⟩) i with
      | none => rw [hoi] at hd; cases hd
      | some oi =>
       obtain ⟨M, hM, _⟩ := H1.own i oi hoi;rw [hgi] at hM; cases hM
     | some M =>
      rcases hval1.2 M hgi with ⟨_, _, h0, _⟩ | ⟨hMv, _, hval⟩
      ·omega
      ·rw [hval];simp only [Value.ownBlock, ne_eq, Option.some.injEq];intro e;have : id = i := H1.inj id i L M hL1 hgi hv.1 hMv.1 e;subst this;rw [hL1] at hgi; cases hgi;rw [hv.2] at hMv; cases hMv.2
   have hb2 : w2.heap[L.blk]? = some (.map es1 clock1) := by rw [hfr L.blk (Nat.lt_of_lt_of_le hLb S1.size) hne, hb1]
   have hL2 : gd.loc id = some L := by
    rcases L3.loc id (H1.live id L hL1).1 with e' | e'
    ·rw [e', hL1]
    ·obtain ⟨M, hM, _⟩ := H3.own id _ hwr;rw [hM] at e'; cases e'
   have hkv2 : zr gd.ro w2 k (aa.tmps.getD tk undef) := by
    have h9 := zh.later L3 _ _ (zh.later L1 _ _ htk0);simpa only [zh] using h9
   obtain ⟨w3, gf, run5, H5, S5, L5, U5⟩ := entry_store (t := T) H3 hwr hL2 hv hb2 hj1 hkv2 hkey1 hv3 hpos1;have hrows3 : rows1.set j [.d k, .hs I.nxt 0 (r1.length + r2.length)] = rows3 := by
    unfold zky at hp3;rw [hpos1] at hp3;simpa using hp3
   simp only at H5;rw [hrows3] at H5;have evs : ((((aa.put (some t1) (.tuple #[val, goInt en.born])).put (some t2) val).put (some t3) v').put (some t4) (goInt en.born)).tmps.getD t4 undef = goInt en.born := zcv (by rw [zga, zga, zga, hsz]; exact hn.2.2.2);have evv : ((((aa.put (some t1) (.tuple #[val, goInt en.born])).put (some t2) val).put (some t3) v').put (some t4) (goInt en.born)).tmps.getD t3 undef = v' := by
    rw [zcd n12.symm]; exact zcv (by rw [zga, zga, hsz]; exact hn.2.2.1)
   have evm : ((((aa.put (some t1) (.tuple #[val, goInt en.born])).put (some t2) val).put (some t3) v').put (some t4) (goInt en.born)).tmps.getD tm undef = .map (some L.blk) := by
    rw [zcd n4, zcd n3, zcd n2, zcd n1, hmv]
   have ex5 : (execOp ((((aa.put (some t1) (.tuple #[val, goInt en.born])).put (some t2) val).put (some t3) v').put (some t4) (goInt en.born)).eval o5).run P w2 = .ok .skip w3 := by
    simp only [execOp, h5, Act.eval, evs, evv, evm, Sem.run_bind];rw [run5];rfl
   have R5 := zcf (U' := (· < I.nxt + 1)) (dst := none) (v := .any) (u := undef) R4 H5 L5 (fun k hk => R4.used k (U5 k hk)) (by simp [zh]) (fun d hd => by cases hd);simp only [wpList];rw [if_pos (by simp [Region.wanted, g1])];left
   unfold Oper.wp;rw [ex1, Oper.upon_value, d1];rw [if_pos (by simp [Region.wanted, g2])];left
   rw [ex2, Oper.upon_value, d2];rw [if_pos (by simp [Region.wanted, g3])];left
   rw [ex3, Oper.upon_value, d3];rw [if_pos (by simp [Region.wanted, g4])];left
   rw [ex4, Oper.upon_value, d4];rw [if_pos (by simp [Region.wanted, g5])];left
   rw [ex5, Oper.upon_skip, d5];refine ⟨_, gf, ?_, ((hstb.trans S1).trans S3).trans S5, hQ⟩;refine R5.congr (fun t => ?_) fun x => ?_
   ·simp only [zgu, St.get, find, Option.some.injEq, reduceCtorEq, if_false];by_cases e4 : t4 = t
    ·subst e4; simp
    ·simp only [e4, if_false];by_cases e3 : t3 = t
     ·simp [e3]
     ·simp only [e3, if_false];by_cases e2 : t2 = t
      ·simp [e2]
      ·simp only [e2, if_false];by_cases e1 : t1 = t <;> simp [e1]
   ·simp only [St.obj, find];unfold zbh;by_cases ex : id = x
    ·subst ex; simp
    ·rw [if_neg ex, if_neg (Ne.symm ex)];have := zoe (wr ++ [(I.nxt, some ⟨e, te.size, r1 ++ r2⟩)]) ((id, some ⟨o.elem, o.m, rows1⟩) :: I.hp) x;rw [this]
     congr 1
     funext y
     simp only [find, zbh, St.obj];by_cases ey : id = y
     ·subst ey; simp
     ·rw [if_neg ey, if_neg (Ne.symm ey)]
 have := wpOps_eq_wpList (P := P) (ops := l.toArray) (Q := fun e a' w' => ∃ s' g', zcs s' g' a' w' /\ zan g w g' w' /\ Q e s') l 0 (by intro j; simp);rw [show List.range l.toArray.size = List.range' 0 l.length by simp [List.range_eq_range'], this];exact key
end Go.Abs

namespace Go.Abs
variable [Flag]
open Go.RowKit

abbrev KL := List (D × List (List D))
def zax (ids : List Nat) (A : KL) : List (List AV) := List.zipWith (fun x p => [AV.d p.1, AV.hs x 0 p.2.length]) ids A
def SA (A : KL) : List (List (List D)) := A.map (·.2)
def mdata (A : KL) : List (List D) := A.map fun p => [p.1, .sl p.2]
theorem zil (A : KL) : (SA A).length = A.length := by simp [SA]
theorem zfq {ids : List Nat} {A : KL} (h : ids.length = A.length) : (zax ids A).length = A.length := by simp [zax, h]
theorem mrows_get {ids : List Nat} {A : KL} {k x : Nat} {p : D × List (List D)} (h1 : ids[k]? = some x) (h2 : A[k]? = some p) : (zax ids A)[k]? = some [.d p.1, .hs x 0 p.2.length] := by
 simp [zax, List.getElem?_zipWith, h1, h2]
theorem zgl {ids : List Nat} {A : KL} {k : Nat} {r : List AV} (h : (zax ids A)[k]? = some r) : ∃ x p, ids[k]? = some x /\ A[k]? = some p /\ r = [.d p.1, .hs x 0 p.2.length] := by
 unfold zax at h;rw [List.getElem?_zipWith] at h;cases h1 : ids[k]? with
 | none => rw [h1] at h; simp at h
 | some x =>
  cases h2 : A[k]? with
  | none => rw [h1, h2] at h; simp at h
  | some p => rw [h1, h2] at h; simp at h; exact ⟨x, p, rfl, rfl, h.symm⟩
theorem upR_m {σ0 : List (Nat × Option Nat)} (hlow : (σ0.all fun x => Nat.blt x.1 1000000) = true) {ns : List Nat} {A : KL} (h : ns.length = A.length) : upR (σ0 ++ zlx 0 ns) (zax (zaw A.length) A) = some (zax ns A) := by
 refine upR_of (by rw [zfq (by rw [zy]), zfq h]) fun i r q hr hq => ?_;obtain ⟨x, l, h1, h2, rfl⟩ := zgl hr;obtain ⟨y, l', h3, h4, rfl⟩ := zgl hq;obtain ⟨hk, rfl⟩ := zbb h1;rw [h2] at h4;cases h4;simp [upL, up, zw, zmx hlow (show 1000000 <= 1000000 + i by omega), find_dynN0, h3]
def zjr : Nat -> List Nat -> List (Nat × Nat)
 | _, [] => []
 | k, x :: r => (1000000 + k, x) :: zjr (k + 1) r
theorem find_dynM : ∀ (S : List Nat) (k i : Nat), find (zjr k S) i = if 1000000 + k <= i then S[i - (1000000 + k)]? else none
 | [], k, i => by simp [zjr, find]
 | x :: S, k, i => by
  simp only [zjr, find];by_cases h : 1000000 + k = i
  ·rw [if_pos h, if_pos (by omega), show i - (1000000 + k) = 0 by omega]; rfl
  ·rw [if_neg h, find_dynM S (k + 1) i];by_cases h2 : 1000000 + (k + 1) <= i
   ·rw [if_pos h2, if_pos (by omega), show i - (1000000 + k) = (i - (1000000 + (k + 1))) + 1 by omega]; rfl
   ·rw [if_neg h2, if_neg (by omega)]
theorem ztq (S : List Nat) (j : Nat) : find (zjr 0 S) (1000000 + j) = S[j]? := by
 rw [find_dynM, if_pos (by omega), show 1000000 + j - (1000000 + 0) = j by omega]
theorem dynM_fst : ∀ (S : List Nat) (k : Nat), (zjr k S).map (·.1) = List.range' (1000000 + k) S.length
 | [], k => rfl
 | x :: S, k => by simp only [zjr, List.map_cons, List.length_cons, List.range'_succ, dynM_fst S (k + 1)]; rfl
theorem zwd : ∀ (S : List Nat) (k : Nat), (zjr k S).map (·.2) = S
 | [], k => rfl
 | x :: S, k => by simp [zjr, zwd S]
theorem rnR_m {ρ0 : List (Nat × Nat)} (hlow : ∀ x, 1000000 <= x -> find ρ0 x = none) {ns : List Nat} {A : KL} (h : ns.length = A.length) : rnR (ρ0 ++ zjr 0 ns) (zax (zaw A.length) A) = some (zax ns A) := by
 refine rnR_of (by rw [zfq (by rw [zy]), zfq h]) fun i r q hr hq => ?_;obtain ⟨x, l, h1, h2, rfl⟩ := zgl hr;obtain ⟨y, l', h3, h4, rfl⟩ := zgl hq;obtain ⟨hk, rfl⟩ := zbb h1;rw [h2] at h4;cases h4;simp [rnL, rn, zw, hlow (1000000 + i) (by omega), ztq, h3]

def zib (eo e m : Nat) (A : KL) : List (Nat × Ob) := (0, ⟨eo, mapM, zax (zaw A.length) A⟩) :: dynP e m 0 (SA A)

theorem rx_map {ty : TypeId -> Option TI} {rs : List ResultVar} {n : Nat} {Ls : Nat -> Loc} {s : St} {eo e m : Nat} {A : KL} {ns : List Nat} {rows : List (List AV)} {r : AV} {ex : Exit} (hex : ex = .ret \/ ex = .normal) (hl : ∃ l, zfz ty s rs = some l /\ ∀ ρ, zey ρ [r] [zhs l]) (hO : s.obj 0 = some ⟨eo, mapM, rows⟩) (hlen : ns.length = A.length) (hrows : rows = zax ns A)
  (hns : ns.Nodup) (h0 : 0 ∉ ns) (hS : ∀ (j : Nat) (x : Nat) (p : D × List (List D)), ns[j]? = some x -> A[j]? = some p -> s.obj x = some ⟨e, m, dr p.2⟩) (hpin : s.get (n + 0) = .pin 0 (Ls 0)) : retX ty rs n [(0, 0)] (zib eo e m A) r Ls ex s := by
 subst hrows;have main : ∃ ρ : List (Nat × Nat), match zfz ty s rs with
  | some l => zey ρ [r] [zhs l] /\ zkz s.obj ρ (zib eo e m A) /\ zev (ρ.map (·.2)) = true /\ ρ.map (·.1) = (zib eo e m A).map (·.1) /\ zkg s ρ n Ls [(0, 0)]
  | none => False := by
  refine ⟨[(0, 0)] ++ zjr 0 ns, ?_⟩;obtain ⟨l, hl1, hl2⟩ := hl;rw [hl1];refine ⟨hl2 _, ?_, ?_, ?_, ?_⟩
  ·simp only [zib, zkz];refine ⟨?_, ?_⟩
   ·simp only [List.cons_append, find, if_true, hO];refine ⟨trivial, trivial, ?_⟩;have := rnR_m (ρ0 := [(0, 0)]) (fun x hx => by simp only [find]; rw [if_neg (by omega)]) hlen;exact this
   ·have key : ∀ (T : KL) (k : Nat), (∀ j p, T[j]? = some p -> ∃ x, ns[k + j]? = some x /\ s.obj x = some ⟨e, m, dr p.2⟩) -> zkz s.obj ([(0, 0)] ++ zjr 0 ns) (dynP e m k (SA T)) := by
     intro T;induction T with
     | nil => intro k _; trivial
     | cons p T ih =>
      intro k hk;simp only [SA, List.map_cons, dynP, zkz];refine ⟨?_, ih (k + 1) (fun j p' hp => by have := hk (j + 1) p' (by simpa using hp); rwa [show k + (j + 1) = k + 1 + j by omega] at this)⟩;obtain ⟨x, hx, ho⟩ := hk 0 p rfl;have hf : find ([(0, 0)] ++ zjr 0 ns) (1000000 + k) = some x := by
       simp only [List.cons_append, List.nil_append, find];rw [if_neg (by omega), ztq];simpa using hx
      rw [hf];simp only [ho];exact ⟨trivial, trivial, rnR_dr _ _⟩
    refine key A 0 fun j p hp => ?_;have hj : j < ns.length := by rw [hlen]; exact (List.getElem?_eq_some_iff.1 hp).1
    exact ⟨_, by rw [Nat.zero_add]; exact List.getElem?_eq_getElem hj, hS j _ p (List.getElem?_eq_getElem hj) hp⟩
  ·refine zmp ?_;rw [List.map_append, zwd];exact List.nodup_cons.2 ⟨h0, hns⟩
  ·simp only [zib, List.map_append, List.map_cons, List.map_nil, dynM_fst, zwc, zil, hlen]; rfl
  ·simp only [zkg, List.cons_append, find, if_true];exact ⟨⟨hpin, by rw [hO]; rfl⟩, trivial⟩
 rcases hex with rfl | rfl
 ·exact main
 ·exact main

theorem px_of_awp_map {P : Program} {ty : TypeId -> Option TI} (hc : Ctx P ty) {f : FuncId} {fn : Func} {c : Code} {avs : List AV} {eo e m : Nat} {A : KL} {hp' : List (Nat × Ob)} {r : AV}
  (hf : P.funcs[f]? = some fn) (hb : fn.body = some c) (hname : (fn.name == "runtime.NumGoroutine") = false) (hn : avs.length <= fn.ntmps) (hA : A.length <= 1000000000)
  (h : ∀ Ls : Nat -> Loc, AWp P c (retX ty fn.results.toList fn.ntmps [(0, 0)] hp' r Ls) ⟨fn.ntmps, zqx 0 avs (zuo fn.ntmps Ls [(0, 0)]), (0, some ⟨eo, mapM, zax (zaw A.length) A⟩) :: dyn e m 0 (SA A), 1000000000000⟩) : PX P f avs (zib eo e m A) [(0, 0)] hp' r := by
 refine zbv hc 1000000000000 hf hb hname hn ?_ rfl fun Ls => ?_
 ·rw [List.all_eq_true];intro x hx;simp only [zib, List.mem_cons] at hx;rcases hx with rfl | hx
  ·rfl
  ·have h1 : x.1 ∈ (dynP e m 0 (SA A)).map (·.1) := List.mem_map.2 ⟨x, hx, rfl⟩;rw [zwc] at h1;obtain ⟨i, h2, h3⟩ := List.mem_range'.1 h1;rw [zil] at h2;exact Nat.ble_eq_true_of_le (by omega)
 ·refine zby (weak_ext (s' := ⟨fn.ntmps, zqx 0 avs (zuo fn.ntmps Ls [(0, 0)]), (0, some ⟨eo, mapM, zax (zaw A.length) A⟩) :: dyn e m 0 (SA A), 1000000000000⟩) rfl (fun t => rfl) (fun x => ?_) (Nat.le_refl _)) (h Ls);simp only [St.obj, zpl, obs_find, zib, find];by_cases h0 : 0 = x
  ·subst h0; simp
  ·rw [if_neg h0, if_neg h0];rw [zag, find_dynP];split
   ·cases (SA A)[x - (1000000 + 0)]? <;> rfl
   ·rfl

theorem zbw {s : St} {n : Nat} {tm : List (Nat × AV)} {eo e m : Nat} {A : KL} (σ0 : List (Nat × Option Nat)) (ns : List Nat) (H0 : List (Nat × Option Ob)) (M M0 : Nat)
  (hlow : (σ0.all fun x => Nat.blt x.1 1000000) = true) (hlow1 : Nat.blt M 1000000 = true) (hlow2 : (H0.all fun x => Nat.blt x.1 1000000) = true) (hA : A.length <= 1000000000) (hlen : ns.length = A.length) (hn : n = s.n)
  (htm : upT (σ0 ++ zlx 0 ns) s tm) (hM : find σ0 M = some (some M0)) (hobj : s.obj M0 = some ⟨eo, mapM, zax ns A⟩) (hh : upH (σ0 ++ zlx 0 ns) s H0) (hnm : zg ⟨n, tm, (M, some ⟨eo, mapM, zax (zaw A.length) A⟩) :: H0, 1000000000000⟩ σ0)
  (ho : (zp σ0).Nodup) (hns : ns.Nodup) (hd : ∀ x ∈ ns, x ∉ zp σ0) (hS : ∀ (j : Nat) (x : Nat) (p : D × List (List D)), ns[j]? = some x -> A[j]? = some p -> s.obj x = some ⟨e, m, dr p.2⟩) :
  zeh s ⟨n, tm, (M, some ⟨eo, mapM, zax (zaw A.length) A⟩) :: H0 ++ dyn e m 0 (SA A), 1000000000000⟩ := by
 refine weak_dyn σ0 ns ((M, some ⟨eo, mapM, zax (zaw A.length) A⟩) :: H0) (SA A) hlow ?_ (by rw [zil]; omega) (by rw [hlen, zil]) hn htm ?_ hnm ho hns hd ?_
 ·simp only [List.all_cons, Bool.and_eq_true]; exact ⟨hlow1, hlow2⟩
 ·simp only [upH];refine ⟨?_, hh⟩;have hf : find (σ0 ++ zlx 0 ns) M = some (some M0) := by rw [zw, hM]; rfl
  rw [hf];exact ⟨_, hobj, rfl, rfl, upR_m hlow hlen⟩
 ·intro j r x hr hx;simp only [SA, List.getElem?_map, Option.map_eq_some_iff] at hr;obtain ⟨p, hp, rfl⟩ := hr;exact hS j x p hx hp

def zij (B : Nat) : Nat -> Nat -> List (Nat × Nat)
 | _, 0 => []
 | k, n + 1 => (B + k, 1000000 + k) :: zij B (k + 1) n
theorem zmy (B : Nat) : ∀ (n k x : Nat), find (zij B k n) x = if B + k <= x /\ x < B + k + n then some (1000000 + (x - B)) else none
 | 0, k, x => by simp only [zij, find]; rw [if_neg (by omega)]
 | n + 1, k, x => by
  simp only [zij, find];by_cases h : B + k = x
  ·rw [if_pos h, if_pos (by omega), show x - B = k by omega]
  ·rw [if_neg h, zmy B n (k + 1) x];by_cases h2 : B + (k + 1) <= x /\ x < B + (k + 1) + n
   ·rw [if_pos h2, if_pos (by omega)]
   ·rw [if_neg h2, if_neg (by omega)]
theorem dynF_fst (B : Nat) : ∀ (n k : Nat), (zij B k n).map (·.1) = List.range' (B + k) n
 | 0, k => rfl
 | n + 1, k => by simp only [zij, List.map_cons, List.range'_succ, dynF_fst B n (k + 1)]; rfl
theorem dynF_snd (B : Nat) : ∀ (n k : Nat), (zij B k n).map (·.2) = List.range' (1000000 + k) n
 | 0, k => rfl
 | n + 1, k => by simp only [zij, List.map_cons, List.range'_succ, dynF_snd B n (k + 1)]; rfl
theorem swp_dynF (B : Nat) : ∀ (n k x : Nat), find (swp (zij B k n)) x = if 1000000 + k <= x /\ x < 1000000 + k + n then some (B + (x - 1000000)) else none
 | 0, k, x => by simp only [zij, swp, find]; rw [if_neg (by omega)]
 | n + 1, k, x => by
  simp only [zij, swp, find];by_cases h : 1000000 + k = x
  ·rw [if_pos h, if_pos (by omega), show x - 1000000 = k by omega]
  ·rw [if_neg h, swp_dynF B n (k + 1) x];by_cases h2 : 1000000 + (k + 1) <= x /\ x < 1000000 + (k + 1) + n
   ·rw [if_pos h2, if_pos (by omega)]
   ·rw [if_neg h2, if_neg (by omega)]
def idsB (B n : Nat) : List Nat := (List.range n).map fun k => B + k
theorem idsB_get {B n k : Nat} (h : k < n) : (idsB B n)[k]? = some (B + k) := by simp [idsB, h]
theorem idsB_get' {B n k x : Nat} (h : (idsB B n)[k]? = some x) : k < n /\ x = B + k := by
 have hk : k < n := by have := (List.getElem?_eq_some_iff.1 h).1; simpa [idsB] using this
 rw [idsB_get hk] at h;cases h; exact ⟨hk, rfl⟩
theorem idsB_length (B n : Nat) : (idsB B n).length = n := by simp [idsB]
theorem upH_congr {σ : List (Nat × Option Nat)} {s s' : St} : ∀ {H : List (Nat × Option Ob)}, (∀ k old, (∃ o, (k, some o) ∈ H) -> find σ k = some (some old) -> s'.obj old = s.obj old) -> upH σ s H -> upH σ s' H
 | [], _, _ => trivial
 | (k, none) :: H, h, hu => by
  simp only [upH] at hu ⊢;exact upH_congr (fun k' old ⟨o, hm⟩ hf => h k' old ⟨o, by simp [hm]⟩ hf) hu
 | (k, some o) :: H, h, hu => by
  simp only [upH] at hu ⊢;refine ⟨?_, upH_congr (fun k' old ⟨o, hm⟩ hf => h k' old ⟨o, by simp [hm]⟩ hf) hu.2⟩;cases hf : find σ k with
  | none => have := hu.1; rw [hf] at this; exact this
  | some q =>
   cases q with
   | none => have := hu.1; rw [hf] at this; exact this
   | some old =>
    have := hu.1;rw [hf] at this;simp only at this ⊢;obtain ⟨o0, k1, k2⟩ := this;exact ⟨o0, by rw [h k old ⟨o, by simp⟩ hf]; exact k1, k2⟩
theorem upT_congr {σ : List (Nat × Option Nat)} {s s' : St} (h : ∀ t, s'.get t = s.get t) : ∀ {tm : List (Nat × AV)}, upT σ s tm -> upT σ s' tm
 | [], _ => trivial
 | (t, v) :: r, hu => by
  simp only [upT] at hu ⊢;refine ⟨?_, upT_congr h hu.2⟩;have := hu.1;cases v <;> simp only [h] at this ⊢ <;> exact this

theorem zhm {P : Program} {ty : TypeId -> Option TI} (hc : Ctx P ty) (orc : List (Nat × Res)) {id : Nat} {l : List Oper} (pre : List Oper) (o : Oper) (hl : l = pre ++ [o]) (hg : o.guard = none) {cl : Call} {fo : Operand} (ho : o.op = .call cl) (hcal : cl.callee = .value fo)
  (I : St) (f : FuncId) (caps : List AV) (hf : zjt (I.eval fo) = some (f, caps)) (av : List AV) {eo e m : Nat} (A A' : KL) (M : Nat)
  (hobjM : I.obj M = some ⟨eo, mapM, zax (zaw A.length) A⟩) (hMl : M < 1000000) (hobjS : ∀ j, I.obj (1000000 + j) = ((SA A)[j]?).map fun r => ⟨e, m, dr r⟩) (hnx : 1000000000000 <= I.nxt)
  (hpx : PX P f av (zib eo e m A) [(0, 0)] (zib eo e m A') (.tup [])) (hA : A.length <= 1000000000) (hA' : A'.length <= 1000000000) (has : zey ((0, M) :: zjr 0 (zaw A.length)) av (cl.args.toList.map I.eval ++ caps)) (hd : match o.dst with | some d => d < I.n | none => True)
  (σ0 : List (Nat × Option Nat)) (tm' : List (Nat × AV)) (H' : List (Nat × Option Ob)) (hlow : (σ0.all fun x => Nat.blt x.1 1000000) = true) (hlowo : ((zp σ0).all fun x => Nat.blt x 1000000) = true) (hlow2 : (H'.all fun x => Nat.blt x.1 1000000) = true) (hMσ : find σ0 M = some (some M)) (hHM : ∀ k, k ≠ M -> find σ0 k ≠ some (some M))
  (hHk : (H'.all fun x => !Nat.beq x.1 M) = true)
  (htm : upT (σ0 ++ zlx 0 (idsB I.nxt A'.length)) (I.put o.dst (.tup [])) tm') (hh : upH (σ0 ++ zlx 0 (idsB I.nxt A'.length)) I H')
  (hnm : zg ⟨I.n, tm', (M, some ⟨eo, mapM, zax (zaw A'.length) A'⟩) :: H', 1000000000000⟩ σ0) (hod : (zp σ0).Nodup) {Q : Exit -> St -> Prop} {s : St}
  (h1 : ∀ K : St -> Prop, (∀ s', zeh s' I -> K s') -> wpT ty P orc (l.map (·.dst)) s.nxt 0 pre { s with nxt := s.nxt + l.length } K)
  (h2 : Q .normal ⟨I.n, tm', (M, some ⟨eo, mapM, zax (zaw A'.length) A'⟩) :: H' ++ dyn e m 0 (SA A'), 1000000000000⟩) : AWp P (.region id l.toArray false) Q s := by
 intro g a w hr;refine wp_region ?_;have hgs : ∀ j : Nat, (l.map (·.dst))[j]? = (l.toArray[j]?).map fun o : Oper => o.dst := by intro j; simp
 have hlen : l.length = pre.length + 1 := by rw [hl]; simp
 have key : wpList P l.toArray (fun e a' w' => ∃ s' g', zcs s' g' a' w' /\ zan g w g' w' /\ Q e s') l a w := by
  have h3 := zgg (P := P) hc (orc := orc) (gs := l.map (·.dst)) (ops := l.toArray) hgs (base := s.nxt) (nxt := s.nxt + l.length)
   (Q := fun e a' w' => ∃ s' g', zcs s' g' a' w' /\ zan g w g' w' /\ Q e s') (g0 := g) (w0 := w) (l2 := [o]) (en := pre.length) (n0 := s.n) (K := fun s1 => zeh s1 I) ?_ pre 0 { s with nxt := s.nxt + l.length } g a w (by simp) rfl rfl ⟨hr.defers, hr.size, hr.tmp, fun id hu => by have := hr.used id hu; simpa using this, hr.heap⟩ (zan.refl g w) (h1 _ fun _ hq => hq)
  ·rw [<- hl] at h3; exact h3
  ·intro s1 g1 a1 w1 hnx1 hn0 hrel hst hk;simp only [wpList];rw [if_pos (by simp [Region.wanted, hg])];left
   have hr1 : zcs s1 g1 a1 w1 := ⟨hrel.defers, hrel.size, hrel.tmp, fun id hu => by have := hrel.used id hu; show id < s1.nxt; rw [hnx1]; omega, hrel.heap⟩
   obtain ⟨g2, hr2, hs2'⟩ := hk g1 a1 w1 hr1;have hev : ∀ x : Operand, zh g2 w1 (I.eval x) (a1.eval x) := fun x => zef hr2 (fun _ => rfl) x;have hargs : zj g2 w1 (cl.args.toList.map I.eval) (cl.args.toList.map a1.eval) := by
    refine zj.of_get (by simp) fun j av hj => ?_;rw [List.getElem?_map] at hj ⊢;cases hx : cl.args.toList[j]? with
    | none => rw [hx] at hj; cases hj
    | some x => rw [hx] at hj; cases hj; exact ⟨a1.eval x, rfl, hev x⟩
   have hfv : ∃ cs : List Value, a1.eval fo = .func (.func f) #[] cs.toArray /\ zj g2 w1 caps cs := by
    have hfv := hev fo;unfold zjt at hf;split at hf
    ·rename_i heq;cases hf;rw [heq] at hfv;simp only [zh, zr] at hfv;obtain ⟨cs, h1, h2⟩ := hfv;exact ⟨cs, h1, zj.of_ds h2⟩
    ·rename_i heq;split at hf
     case isFalse => cases hf
     rename_i hok;cases hf;rw [heq] at hfv;exact zrv hok hfv
    ·cases hf
   obtain ⟨cs, hcs, hrc⟩ := hfv;obtain ⟨fn, hfn, hname, hbody⟩ := hpx.1;have hrun : (execOp a1.eval o).run P w1 = .ok (.enter f ((cl.args.toList.map a1.eval) ++ cs).toArray) w1 := by
    unfold execOp;simp only [ho, resolve, hcal, Deferred.ofValue, hcs, Sem.run_bind, Sem.run_pure, Result.andThen_ok, invoke, callFunc, run_program, hfn, hname, hbody, Bool.false_eq_true, if_false]
    congr 2
    simp
   have hMB : M < I.nxt := by omega
   have hsf : ∀ i, i < A.length -> find ((0, M) :: zjr 0 (zaw A.length)) (1000000 + i) = some (1000000 + i) := fun i hi => by
    simp only [find];rw [if_neg (by omega), ztq, zqi hi]
   have ht1 : ((zij I.nxt 0 A'.length ++ [(M, 0)] : List (Nat × Nat)).map (·.1)).Nodup := by
    rw [List.map_append, dynF_fst, List.nodup_append];refine ⟨List.nodup_range', by simp, fun x hx y hy => ?_⟩;obtain ⟨i, h3, h4⟩ := List.mem_range'.1 hx;simp at hy; subst hy; omega
   have ht2 : ((zij I.nxt 0 A'.length ++ [(M, 0)] : List (Nat × Nat)).map (·.2)).Nodup := by
    rw [List.map_append, dynF_snd, List.nodup_append];refine ⟨List.nodup_range', by simp, fun x hx y hy => ?_⟩;obtain ⟨i, h3, h4⟩ := List.mem_range'.1 hx;simp at hy; subst hy; omega
   have hs2 : (((0, M) :: zjr 0 (zaw A.length) : List (Nat × Nat)).map (·.2)).Nodup := by
    rw [List.map_cons, zwd];refine List.nodup_cons.2 ⟨fun h => ?_, zba _⟩;have := zbj.1 h;simp only at this; omega
   have hob : (zqo P f ⟨(0, M) :: zjr 0 (zaw A.length), av, zib eo e m A, [(0, 0)], none, zib eo e m A', .tup []⟩ (zij I.nxt 0 A'.length ++ [(M, 0)]) I.obj (cl.args.toList.map I.eval ++ caps)).ob := by
    refine ⟨⟨has, ?_, zmp hs2, ?_, zmp ht1, zmp ht2⟩, hpx⟩
    ·simp only [zib, zkz];refine ⟨?_, ?_⟩
     ·simp only [find, if_true, hobjM];refine ⟨trivial, trivial, ?_⟩;exact rnR_m (ρ0 := [(0, M)]) (fun x hx => by simp only [find]; rw [if_neg (by omega)]) (zy _)
     ·have key : ∀ (T : KL) (k : Nat), (∀ j p, T[j]? = some p -> A[k + j]? = some p) -> zkz I.obj ((0, M) :: zjr 0 (zaw A.length)) (dynP e m k (SA T)) := by
       intro T;induction T with
       | nil => intro k _; trivial
       | cons p T ih =>
        intro k hk;simp only [SA, List.map_cons, dynP, zkz];refine ⟨?_, ih (k + 1) (fun j p' hp => by have := hk (j + 1) p' (by simpa using hp); rwa [show k + (j + 1) = k + 1 + j by omega] at this)⟩;have h0 := hk 0 p rfl;rw [Nat.add_zero] at h0;have hkl : k < A.length := (List.getElem?_eq_some_iff.1 h0).1;have hok : I.obj (1000000 + k) = some ⟨e, m, dr p.2⟩ := by rw [hobjS k]; simp [SA, h0]
        rw [hsf k hkl];simp only [hok];exact ⟨trivial, trivial, rnR_dr _ _⟩
      exact key A 0 fun j p hp => by rw [Nat.zero_add]; exact hp
    ·simp only [zib, List.map_cons, dynM_fst, zwc, zil, zy]
   have hys := y_sound (N := fun x => I.nxt <= x /\ x < I.nxt + A'.length) hr2.heap (fun x hx hu => by have h3 : x < I.nxt := hr2.used x hu; omega) (c := ⟨(0, M) :: zjr 0 (zaw A.length), av, zib eo e m A, [(0, 0)], none, zib eo e m A', .tup []⟩) (ti := zij I.nxt 0 A'.length ++ [(M, 0)]) (fun x j hx => by
    rw [zw, zmy] at hx;by_cases h3 : I.nxt + 0 <= x /\ x < I.nxt + 0 + A'.length
    ·exact .inl (by omega)
    ·rw [if_neg h3] at hx;simp only [Option.none_or, find] at hx;split at hx
     ·rename_i e0;cases hx;exact .inr ⟨0, by simp, by rw [<- e0]; simp [find]⟩
     ·cases hx) (hargs.append hrc) hob
   refine zik hrun hys _ _ fun v w2 hAf => ?_;obtain ⟨g3, k1, k2, k3, k4, k5⟩ := hAf;have hput := zcf (U' := fun x => x < I.nxt + A'.length) (dst := o.dst) hr2 k1 k3 (fun x hx => by
    rcases k4 x hx with hx | hx
    ·have h3 : x < I.nxt := hr2.used x hx;omega
    ·omega) k5 (fun d hd' => by rw [hd'] at hd; exact hd)
   have hval : (zqo P f ⟨(0, M) :: zjr 0 (zaw A.length), av, zib eo e m A, [(0, 0)], none, zib eo e m A', .tup []⟩ (zij I.nxt 0 A'.length ++ [(M, 0)]) I.obj (cl.args.toList.map I.eval ++ caps)).val = .tup [] := by
    simp [zqo, dn, dnL]
   rw [hval] at hput
   -- the objects behind the call
   have hobj2 : ∀ x, zcu I.obj (gone ((0, M) :: zjr 0 (zaw A.length)) ++ zmd (swp (zij I.nxt 0 A'.length ++ [(M, 0)])) (zib eo e m A') (zij I.nxt 0 A'.length ++ [(M, 0)])) x = match find (zij I.nxt 0 A'.length ++ [(M, 0)]) x with
     | some j => (find (zib eo e m A') j).map fun o => ⟨o.elem, o.m, dnR (swp (zij I.nxt 0 A'.length ++ [(M, 0)])) o.rows⟩
     | none => if x ∈ ((0, M) :: zjr 0 (zaw A.length) : List (Nat × Nat)).map (·.2) then none else I.obj x := by
    intro x;rw [zlb, zka (by rw [zrw]; exact ht1), zka (by rw [zrp]; exact hs2), zrx, zrq];cases find (zij I.nxt 0 A'.length ++ [(M, 0)]) x with
    | some j => rfl
    | none => simp only [Option.map_none, Option.getD_none]; split <;> rfl
   generalize hwr : (gone ((0, M) :: zjr 0 (zaw A.length)) ++ zmd (swp (zij I.nxt 0 A'.length ++ [(M, 0)])) (zib eo e m A') (zij I.nxt 0 A'.length ++ [(M, 0)])) = wr at hobj2;have hput' : Rel (fun x => x < I.nxt + A'.length) g3 (zgu I.get o.dst (.tup [])) (zcu I.obj wr) I.n (a1.put o.dst v) w2 := by
    have : (zqo P f ⟨(0, M) :: zjr 0 (zaw A.length), av, zib eo e m A, [(0, 0)], none, zib eo e m A', .tup []⟩ (zij I.nxt 0 A'.length ++ [(M, 0)]) I.obj (cl.args.toList.map I.eval ++ caps)).wr = wr := hwr;rw [this] at hput;exact hput
   have hnI : (I.put o.dst (.tup [])).n = I.n := by unfold St.put; cases o.dst <;> rfl
   have hgI : ∀ t, (⟨I.n, (I.put o.dst (.tup [])).tm, zdd I.hp wr, I.nxt + A'.length⟩ : St).get t = (I.put o.dst (.tup [])).get t := fun t => rfl;have hoI : ∀ x, (⟨I.n, (I.put o.dst (.tup [])).tm, zdd I.hp wr, I.nxt + A'.length⟩ : St).obj x = zcu I.obj wr x := fun x => by
    simp only [St.obj];exact zoe wr I.hp x
   have R2 : zcs ⟨I.n, (I.put o.dst (.tup [])).tm, zdd I.hp wr, I.nxt + A'.length⟩ g3 (a1.put o.dst v) w2 :=
    hput'.congr (fun t => by rw [hgI, St.get_put]) hoI
   have low : ∀ x, x < 1000000 -> x ≠ M -> zcu I.obj wr x = I.obj x := fun x hx hxM => by
    rw [hobj2, zw, zmy, if_neg (by omega)];simp only [Option.none_or, find];rw [if_neg (Ne.symm hxM)];simp only;rw [if_neg];rw [List.map_cons, zwd];intro h;rcases List.mem_cons.1 h with h | h
    ·exact hxM h
    ·have := zbj.1 h; omega
   have atM : zcu I.obj wr M = some ⟨eo, mapM, zax (idsB I.nxt A'.length) A'⟩ := by
    rw [hobj2, zw, zmy, if_neg (by omega)];simp only [Option.none_or, find, if_true, zib, Option.map_some]
    congr 2
    -- the names in the map's rows
    have : ∀ (x : List (List AV)) (y : List (List AV)), x.length = y.length -> (∀ (i : Nat) (r q : List AV), x[i]? = some r -> y[i]? = some q -> dnL (swp (zij I.nxt 0 A'.length ++ [(M, 0)])) r = q) -> dnR (swp (zij I.nxt 0 A'.length ++ [(M, 0)])) x = y := by
     intro x;induction x with
     | nil => intro y hl _; cases y with
      | nil => rfl
      | cons b y => simp at hl
     | cons a x ih =>
      intro y hl hg;cases y with
      | nil => simp at hl
      | cons b y =>
       have h1 := hg 0 a b rfl rfl;have h2 := ih y (by simpa using hl) fun i r q hr hq => hg (i + 1) r q (by simpa using hr) (by simpa using hq);simp [dnR, h1, h2]
    refine this _ _ (by rw [zfq (zy _), zfq (idsB_length _ _)]) fun i r q hr hq => ?_;obtain ⟨x, p, h3, h4, rfl⟩ := zgl hr;obtain ⟨y, p', h5, h6, rfl⟩ := zgl hq;obtain ⟨hi, rfl⟩ := zbb h3;obtain ⟨_, rfl⟩ := idsB_get' h5;rw [h4] at h6; cases h6;have hsw : find (swp (zij I.nxt 0 A'.length ++ [(M, 0)])) (1000000 + i) = some (I.nxt + i) := by
     have app : ∀ (a b : List (Nat × Nat)) (x : Nat), find (swp (a ++ b)) x = (find (swp a) x).or (find (swp b) x) := by
      intro a b x;induction a with
      | nil => simp [swp, find]
      | cons y a ih =>
       simp only [List.cons_append, swp, find];split
       ·rfl
       ·exact ih
     rw [app, swp_dynF, if_pos (by omega)];simp
    simp only [dnL, dn, hsw]
   have atB : ∀ j, j < A'.length -> ∀ p, A'[j]? = some p -> zcu I.obj wr (I.nxt + j) = some ⟨e, m, dr p.2⟩ := fun j hj p hp => by
    rw [hobj2, zw, zmy, if_pos (by omega)];simp only [Option.some_or, zib, find];rw [if_neg (by omega), show 1000000 + (I.nxt + j - I.nxt) = 1000000 + j by omega, find_dynP, if_pos (by omega), show 1000000 + j - (1000000 + 0) = j by omega];simp [SA, hp, dnR_dr]
   have hW := zbw (s := ⟨I.n, (I.put o.dst (.tup [])).tm, zdd I.hp wr, I.nxt + A'.length⟩) (n := I.n) (tm := tm') (eo := eo) (e := e) (m := m) (A := A') σ0 (idsB I.nxt A'.length) H' M M hlow (Nat.ble_eq_true_of_le hMl) hlow2 hA' (idsB_length _ _) rfl
    (upT_congr (fun t => hgI t) htm) hMσ (by rw [hoI]; exact atM) (upH_congr (fun k old ⟨o', hm⟩ hfk => ?_) hh) hnm hod (by
     unfold idsB;exact List.Pairwise.map _ (fun a b hab => by omega) List.nodup_range) (fun x hx hxo => ?_) (fun j x p hx hp => by
     obtain ⟨hj, rfl⟩ := idsB_get' hx;rw [hoI];exact atB j hj p hp)
   ·obtain ⟨g4, r4, st4⟩ := hW g3 _ _ R2;exact ⟨_, g4, r4, ((hst.trans hs2').trans k2).trans st4, h2⟩
   ·have hk1 := List.all_eq_true.1 hlow2 _ hm;have hk2 := List.all_eq_true.1 hHk _ hm;have hkl : k < 1000000 := Nat.le_of_ble_eq_true hk1;have hkM : k ≠ M := by
     intro e0;subst e0;simp at hk2
    rw [zw] at hfk;have hdn : find (zlx 0 (idsB I.nxt A'.length)) k = none := by rw [zx, if_neg (by omega)]
    rw [hdn, Option.or_none] at hfk;have hmo := zmw hfk;have hol : old < 1000000 := Nat.le_of_ble_eq_true (List.all_eq_true.1 hlowo _ hmo);have hoM : old ≠ M := fun e0 => by subst e0; exact hHM k hkM hfk
    rw [hoI];exact low old hol hoM
   ·obtain ⟨j, hj⟩ := List.mem_iff_getElem?.1 hx;obtain ⟨_, rfl⟩ := idsB_get' hj;have : I.nxt + j < 1000000 := Nat.le_of_ble_eq_true (List.all_eq_true.1 hlowo _ hxo);omega
 have := wpOps_eq_wpList (P := P) (ops := l.toArray) (Q := fun e a' w' => ∃ s' g', zcs s' g' a' w' /\ zan g w g' w' /\ Q e s') l 0 (by intro j; simp);rw [show List.range l.toArray.size = List.range' 0 l.length by simp [List.range_eq_range'], this];exact key

def mixM (A : KL) (k : Nat) : List (List AV) := dr (mdata (A.take k)) ++ zax ((zaw A.length).drop k) (A.drop k)
theorem mixM_all (A : KL) : mixM A A.length = dr (mdata A) := by
 unfold mixM;rw [List.take_length, List.drop_length];simp [zax]
theorem mixM_zero (A : KL) : mixM A 0 = zax (zaw A.length) A := by simp [mixM, dr, mdata]
theorem mixM_step {A : KL} {k : Nat} {p : D × List (List D)} (h : A[k]? = some p) : fzR (1000000 + k) p.2 (mixM A k) = mixM A (k + 1) := by
 have hk : k < A.length := (List.getElem?_eq_some_iff.1 h).1;have hdk : A.drop k = p :: A.drop (k + 1) := by
  obtain ⟨_, rfl⟩ := List.getElem?_eq_some_iff.1 h;exact List.drop_eq_getElem_cons hk
 have hdi : (zaw A.length).drop k = (1000000 + k) :: (zaw A.length).drop (k + 1) := by
  have h1 : k < (zaw A.length).length := by rw [zy]; exact hk
  rw [List.drop_eq_getElem_cons h1]
  congr 1
  have := zqi hk;rw [List.getElem?_eq_getElem h1] at this;exact Option.some.inj this
 unfold mixM;rw [fzR_appA, zbc, hdk, hdi];have htk : A.take (k + 1) = A.take k ++ [p] := by rw [List.take_add_one, h]; rfl
 rw [htk];simp only [zax, List.zipWith_cons_cons, fzR, fzL, fz, if_true, Nat.zero_add, List.drop_zero, List.take_length];rw [if_pos (Nat.le_refl _)];have hrest : fzR (1000000 + k) p.2 (List.zipWith (fun x p => [AV.d p.1, AV.hs x 0 p.2.length]) ((zaw A.length).drop (k + 1)) (A.drop (k + 1))) = List.zipWith (fun x p => [AV.d p.1, AV.hs x 0 p.2.length]) ((zaw A.length).drop (k + 1)) (A.drop (k + 1)) := by
  refine fzR_keep _ _ fun i r hr => ?_;obtain ⟨x, q, h1, h2, rfl⟩ := zgl (ids := (zaw A.length).drop (k + 1)) (A := A.drop (k + 1)) hr;rw [List.getElem?_drop] at h1;obtain ⟨_, rfl⟩ := zbb h1;simp only [fzL, fz];rw [if_neg (by omega)]
 rw [hrest];simp [dr, mdata]
def znj : List (Nat × AV) -> Bool
 | [] => true
 | (_, .d _) :: r => znj r
 | (_, .any) :: r => znj r
 | (_, .nl) :: r => znj r
 | (_, .hs i _ _) :: r => Nat.blt i 1000000 && znj r
 | (_, .ptr i _ _) :: r => Nat.blt i 1000000 && znj r
 | (_, .hm i) :: r => Nat.blt i 1000000 && znj r
 | _ :: _ => false
theorem zko {id : Nat} (hid : 1000000 <= id) (rs : List (List D)) : ∀ {tm : List (Nat × AV)}, znj tm = true -> fzT id rs tm = tm
 | [], _ => rfl
 | (t, v) :: r, h => by
  cases v <;> simp only [znj, Bool.and_eq_true] at h <;> try (cases h; done)
  all_goals simp only [fzT, fz]
  case any => rw [zko hid rs h]
  case nl => rw [zko hid rs h]
  case d => rw [zko hid rs h]
  case hm =>
   have h1 : _ < 1000000 := Nat.le_of_ble_eq_true h.1;rw [zko hid rs h.2, if_neg (by omega)]
  case hs =>
   have h1 : _ < 1000000 := Nat.le_of_ble_eq_true h.1;rw [zko hid rs h.2, if_neg (by omega)]
  case ptr =>
   have h1 : _ < 1000000 := Nat.le_of_ble_eq_true h.1;rw [zko hid rs h.2, if_neg (by omega)]
theorem weak_fzmap {n : Nat} {tm : List (Nat × AV)} {nxt id eo : Nat} {e : TypeId} {m : Nat} (hid : id < 1000000) (htm : znj tm = true) (A : KL) :
  zeh ⟨n, tm, (id, some ⟨eo, mapM, zax (zaw A.length) A⟩) :: dyn e m 0 (SA A), nxt⟩ ⟨n, tm, [(id, some ⟨eo, mapM, dr (mdata A)⟩)], nxt⟩ := by
 have step : ∀ k, k <= A.length -> zeh ⟨n, tm, (id, some ⟨eo, mapM, mixM A 0⟩) :: dyn e m 0 (SA A), nxt⟩ ⟨n, tm, (id, some ⟨eo, mapM, mixM A k⟩) :: dyn e m k ((SA A).drop k), nxt⟩ := by
  intro k;induction k with
  | zero => intro _; exact zeh.refl _
  | succ k ih =>
   intro hk;refine zeh.trans (ih (by omega)) ?_;have hr : A[k]? = some A[k] := List.getElem?_eq_getElem (by omega);have hkS : k < (SA A).length := by rw [zil]; omega
   have hSk : (SA A)[k] = A[k].2 := by simp [SA]
   have hdk : (SA A).drop k = A[k].2 :: (SA A).drop (k + 1) := by rw [List.drop_eq_getElem_cons hkS, hSk]
   rw [hdk];simp only [dyn];refine zeh.trans (zpg (1000000 + k) A[k].2 (o := ⟨e, m, dr A[k].2⟩) (by simp only [St.obj, find]; rw [if_neg (by omega)]; simp) (rowsD_dr _)) ?_;refine weak_ext rfl (fun t => ?_) (fun x => ?_) (Nat.le_refl _)
   ·simp only [St.get, St.fz]; rw [zko (by omega) _ htm]
   ·simp only [St.obj, St.fz, fzH, fzO, find, mixM_step hr, fzH_dyn, zag];by_cases h1 : id = x
    ·subst h1;simp only [if_true];rw [if_neg (by omega)]
    ·simp only [if_neg h1];by_cases h2 : 1000000 + k = x
     ·subst h2;simp only [if_true];rw [if_neg (by omega)];rfl
     ·simp only [if_neg h2]
 have h := step A.length (Nat.le_refl _);rw [mixM_zero, mixM_all, show (SA A).drop A.length = [] by rw [List.drop_eq_nil_iff, zil]; exact Nat.le_refl _] at h;exact h
end Go.Abs

namespace Go.Proofs.YtdddknniooimmaaGreat
open Go.Abs Go.Shelf

def kl (A : List (ze × List Hd)) : KL := A.map fun p => (.agg p.1.row, p.2.map zmt)
theorem kl_length (A : List (ze × List Hd)) : (kl A).length = A.length := by simp [kl]
def zex (A : List (ze × List Hd)) (c : Crk) : List (ze × List Hd) := zgj A c.p (zac A c.p ++ [c.h])
theorem posR_m (p : ze) : ∀ (A : List (ze × List Hd)) (ids : List Nat), ids.length = A.length -> zee (.agg p.row) (zax ids (kl A)) = some (zfb p A)
 | [], ids, h => by
  have : ids = [] := List.eq_nil_of_length_eq_zero h;subst this; rfl
 | a :: A, [], h => by simp at h
 | a :: A, i :: ids, h => by
  have ih := posR_m p A ids (by simpa using h);simp only [kl, zax, List.map_cons, List.zipWith_cons_cons, zee, zfb, zks] at ih ⊢;by_cases e : p = a.1
  ·simp [e]
  ·simp only [e, decide_false, if_false];rw [ih]; rfl
theorem self_key (p : ze) : eqK (.agg p.row) (.agg p.row) = some true := by rw [zks]; simp
theorem posR_new (p : ze) (y : AV) : ∀ (rows : List (List AV)), zee (.agg p.row) rows = some none -> zee (.agg p.row) (rows ++ [[.d (.agg p.row), y]]) = some (some rows.length)
 | [], _ => by simp only [List.nil_append, zee, self_key]; rfl
 | r :: rows, h => by
  unfold zee at h;split at h
  ·rename_i k' a;split at h
   ·cases h
   ·rename_i hq;simp only [Option.map_eq_some_iff] at h;obtain ⟨x, hx, hx2⟩ := h;cases x with
    | some x => cases hx2
    | none =>
     rw [List.cons_append];unfold zee;simp only [hq, posR_new p y rows hx];rfl
   ·cases h
  ·cases h
theorem kl_put (A : List (ze × List Hd)) (c : Crk) : (zfb c.p A = none -> kl (zex A c) = kl A ++ [(.agg c.p.row, [zmt c.h])] /\ zac A c.p = []) /\ ∀ j, zfb c.p A = some j -> ∃ hs, A[j]? = some (c.p, hs) /\ zac A c.p = hs /\ kl (zex A c) = (kl A).set j (.agg c.p.row, hs.map zmt ++ [zmt c.h]) := by
 have hg := zes (a := c.p) A;unfold zex zgj;refine ⟨fun h => ?_, fun j h => ?_⟩
 ·rw [h] at hg;simp only at hg;have hh : zac A c.p = [] := by simp [zac, hg]
  rw [h, hh];exact ⟨by simp [kl], rfl⟩
 ·rw [h] at hg;simp only at hg;obtain ⟨b, h1, h2⟩ := hg;have hh : zac A c.p = b := by simp [zac, h2]
  refine ⟨b, h1, hh, ?_⟩;rw [h, hh];simp [kl, List.map_set]
theorem mrows_app {ids : List Nat} {A : KL} (h : ids.length = A.length) (x : Nat) (p : D × List (List D)) : zax (ids ++ [x]) (A ++ [p]) = zax ids A ++ [[.d p.1, .hs x 0 p.2.length]] := by
 unfold zax;rw [List.zipWith_append h];rfl
theorem mrows_set {A : KL} (j x : Nat) (p : D × List (List D)) : ∀ {ids : List Nat} , ids.length = A.length -> zax (ids.set j x) (A.set j p) = (zax ids A).set j [.d p.1, .hs x 0 p.2.length] := by
 induction A generalizing j with
 | nil => intro ids h; simp [zax]
 | cons a A ih =>
  intro ids h;cases ids with
  | nil => simp at h
  | cons i ids =>
   cases j with
   | zero => simp [zax]
   | succ j =>
    have := ih j (ids := ids) (by simpa using h);simp only [zax, List.set_cons_succ, List.zipWith_cons_cons] at this ⊢;rw [this]
theorem idsN_set_nd {n i z : Nat} (hz : z < 1000000 \/ 1000000 + n <= z) : ((zaw n).set i z).Nodup := by
 rw [List.Nodup, List.pairwise_iff_getElem];intro a b ha hb hab;simp only [List.length_set, zy] at ha hb;have g : ∀ k (hk : k < n), (zaw n)[k]'(by rw [zy]; exact hk) = 1000000 + k := fun k hk => by
  have := zqi hk;rw [List.getElem?_eq_getElem (by rw [zy]; exact hk)] at this;exact Option.some.inj this
 rw [List.getElem_set, List.getElem_set, g a ha, g b hb];split <;> split <;> omega
set_option maxHeartbeats 8000000 in
theorem add_px (A : List (ze × List Hd)) (c : Crk) (hA : A.length <= 100000000) (hne : ∀ a ∈ A, a.2 ≠ [] /\ a.2.length <= 100000000) :
  PX Tryz.prog 138 [.hm 0, .d (.agg c.p.row), .d (.int .i64 c.h.int)] (zib 118 178 1 (kl A)) [(0, 0)] (zib 118 178 1 (kl (zex A c))) (.tup []) := by
 obtain ⟨p1, p2⟩ := kl_put A c;have hkl := kl_length A;refine px_of_awp_map cx (fn := Tryz.f138) (c := _) Tryz.func138 rfl rfl (lB rfl) (by rw [hkl]; omega) fun Ls => ?_;rw [Tryz.ntmps138]; refine Nav.imp ?_;refine rg cx ?_;cases hp : zfb c.p A with
 | none =>
  obtain ⟨q1, q2⟩ := p1 hp;have hpos := posR_m c.p A (zaw (kl A).length) (by rw [zy, hkl]);rw [hp] at hpos;refine znd cx [] [_, _, _, _] _ _ _ _ _ rfl (T := 118) (S := 121) (kt := 58) (et := 121) (e := 178) rfl rfl rfl rfl rfl rfl rfl rfl rfl rfl rfl rfl rfl rfl rfl rfl rfl rfl (by decide) rfl rfl rfl rfl rfl rfl rfl rfl (by decide) (by decide)
   ⟨14, [(6, .hm 0), (7, .d (.agg c.p.row)), (10, .hs 1 0 1), (14, .pin 0 (Ls 0))], (0, some ⟨118, mapM, zax (zaw (kl A).length) (kl A)⟩) :: [(1, some ⟨178, 1, [[.d (.int .i64 c.h.int)]]⟩)] ++ dyn 178 1 0 (SA (kl A)), 1000000000000⟩
   (id := 0) (r := none) (rows1 := zax (zaw (kl A).length) (kl A) ++ [[.d (.agg c.p.row), .nl]]) (rows3 := zax (zaw (kl A).length) (kl A) ++ [[.d (.agg c.p.row), .hs 1000000000000 0 1]]) (r1 := []) (r2 := [[.d (.int .i64 c.h.int)]]) (wr := []) (p1 := True) rfl rfl ?_ rfl (.inl rfl) ?_ ?_ rfl trivial rfl ?_ ?_ ?_ ?_ ?_ ?_ ?_
  ·rfl
  ·show zhd (.agg c.p.row) (zax (zaw (kl A).length) (kl A)) = some none
   unfold zhd; rw [hpos]
  ·show zky (.agg c.p.row) .nl (zax (zaw (kl A).length) (kl A)) = _
   unfold zky; rw [hpos]
  ·show 0 + 1 <= 1
   omega
  ·show (0 + 1) * 8 <= _
   omega
  ·show zky (.agg c.p.row) (.hs 1000000000000 0 1) _ = _
   unfold zky;rw [posR_new _ _ _ hpos];simp
  ·simp [zcu, zbh]
  ·exact ⟨Nat.le_of_ble_eq_true rfl, Nat.le_of_ble_eq_true rfl, Nat.le_of_ble_eq_true rfl, Nat.le_of_ble_eq_true rfl⟩
  ·intro K hK;simp [push_cast];refine hK _ ?_;refine zbw [(0, some 0), (1, some 1000000000004)] (zaw (kl A).length) [(1, some ⟨178, 1, [[.d (.int .i64 c.h.int)]]⟩)] 0 0 rfl rfl rfl (by rw [hkl]; omega) (zy _) rfl ?_ rfl ?_ ?_ ?_ ?_ (zba _) ?_ ?_
   ·simp [upT, up, upL, push_cast, zw, zx]
   ·simp [push_cast, zag]
   ·simp [upH, upR, upL, up, push_cast, zw, zag, zx]
   ·simp [zg, push_cast]
   ·simp [zp]
   ·intro x hx;have h1 := zbj.1 hx;simp [zp]; omega
   ·intro q x p hx hp';obtain ⟨hq, rfl⟩ := zbb hx;have : ((SA (kl A))[q]?).map (fun r => some (⟨178, 1, dr r⟩ : Ob)) = some (some ⟨178, 1, dr p.2⟩) := by simp [SA, hp']
    simp [push_cast, zbf, this];rw [if_neg (by omega), if_neg (by omega), if_neg (by omega)];rfl
  ·refine rx_map (ns := zaw (kl A).length ++ [1000000000000]) (.inr rfl) ⟨[], rfl, fun ρ => by simp [zey, rn, rnL, zhs]⟩ ?_ ?_ rfl ?_ ?_ ?_ ?_
   ·show some _ = some _
    rw [q1, mrows_app (zy _)];rfl
   ·rw [q1]; simp [zy]
   ·rw [List.nodup_append];refine ⟨zba _, by simp, fun a ha b hb => ?_⟩;have := zbj.1 ha;simp at hb; omega
   ·intro h0;rcases List.mem_append.1 h0 with h0 | h0
    ·have := zbj.1 h0; omega
    ·simp at h0
   ·intro q x p hx hp';rw [q1] at hp';by_cases hq : q < (kl A).length
    ·rw [List.getElem?_append_left (by rw [zy]; exact hq)] at hx;rw [List.getElem?_append_left hq] at hp';obtain ⟨_, rfl⟩ := zbb hx;have : ((SA (kl A))[q]?).map (fun r => some (⟨178, 1, dr r⟩ : Ob)) = some (some ⟨178, 1, dr p.2⟩) := by simp [SA, hp']
     simp [push_cast, zbf, this, zdd]
     repeat rw [if_neg (by omega)]
     rfl
    ·have hql : q = (kl A).length := by have := (List.getElem?_eq_some_iff.1 hp').1; simp at this; omega
     subst hql;rw [List.getElem?_append_right (by rw [zy]; exact Nat.le_refl _), zy] at hx;rw [List.getElem?_append_right (Nat.le_refl _)] at hp';simp at hx hp';subst hx; subst hp';simp [push_cast, zdd]
   ·rfl
 | some j =>
  obtain ⟨hs, hAj, hh, q1⟩ := p2 j hp;have hpos := posR_m c.p A (zaw (kl A).length) (by rw [zy, hkl]);rw [hp] at hpos;have hjl : j < (kl A).length := by rw [hkl]; exact (List.getElem?_eq_some_iff.1 hAj).1
  obtain ⟨hn1, hn2⟩ := hne _ (List.mem_of_getElem? hAj);simp only at hn1 hn2;obtain ⟨n', hn'⟩ : ∃ n', hs.length = n' + 1 := ⟨hs.length - 1, by have := List.length_pos_iff.2 hn1; omega⟩
  have hkj : (kl A)[j]? = some (.agg c.p.row, hs.map zmt) := by simp [kl, hAj]
  have hrow : (zax (zaw (kl A).length) (kl A))[j]? = some [.d (.agg c.p.row), .hs (1000000 + j) 0 (n' + 1)] := by
   rw [mrows_get (zqi hjl) hkj]; simp [hn']
  have hself : (zax (zaw (kl A).length) (kl A)).set j [.d (.agg c.p.row), .hs (1000000 + j) 0 (n' + 1)] = zax (zaw (kl A).length) (kl A) := by
   refine List.ext_getElem? fun q => ?_;rw [List.getElem?_set];split
   ·rename_i e;subst e;rw [if_pos (List.getElem?_eq_some_iff.1 hrow).1, hrow]
   ·rfl
  have hSj : ((SA (kl A))[j]?).map (fun r => some (⟨178, 1, dr r⟩ : Ob)) = some (some ⟨178, 1, dr (hs.map zmt)⟩) := by simp [SA, hkj]
  refine znd cx [] [_, _, _, _] _ _ _ _ _ rfl (T := 118) (S := 121) (kt := 58) (et := 121) (e := 178) rfl rfl rfl rfl rfl rfl rfl rfl rfl rfl rfl rfl rfl rfl rfl rfl rfl rfl (by decide) rfl rfl rfl rfl rfl rfl rfl rfl (by decide) (by decide)
   ⟨14, [(6, .hm 0), (7, .d (.agg c.p.row)), (10, .hs 1 0 1), (14, .pin 0 (Ls 0))], (0, some ⟨118, mapM, zax (zaw (kl A).length) (kl A)⟩) :: [(1, some ⟨178, 1, [[.d (.int .i64 c.h.int)]]⟩)] ++ dyn 178 1 0 (SA (kl A)), 1000000000000⟩
   (id := 0) (r := some (.hs (1000000 + j) 0 (n' + 1))) (rows1 := zax (zaw (kl A).length) (kl A)) (rows3 := (zax (zaw (kl A).length) (kl A)).set j [.d (.agg c.p.row), .hs 1000000000000 0 (n' + 1 + 1)]) (r1 := dr (hs.map zmt)) (r2 := [[.d (.int .i64 c.h.int)]]) (wr := [(1000000 + j, none)]) (p1 := n' + 1 <= (dr (hs.map zmt)).length) rfl rfl ?_ rfl (.inr ⟨_, _, rfl⟩) ?_ ?_ ?_ ?_ rfl ?_ ?_ ?_ ?_ ?_ ?_ ?_
  ·rfl
  ·show zhd (.agg c.p.row) (zax (zaw (kl A).length) (kl A)) = _
   unfold zhd; rw [hpos];simp only [hrow]
  ·show zky (.agg c.p.row) (.hs (1000000 + j) 0 (n' + 1)) (zax (zaw (kl A).length) (kl A)) = _
   unfold zky; rw [hpos];simp only [hself]
  ·show zeo _ _ _ (.hs (1000000 + j) 0 (n' + 1)) = _
   simp only [zeo];have ho : zbh (St.obj ⟨14, [(6, .hm 0), (7, .d (.agg c.p.row)), (10, .hs 1 0 1), (14, .pin 0 (Ls 0))], (0, some ⟨118, mapM, zax (zaw (kl A).length) (kl A)⟩) :: [(1, some ⟨178, 1, [[.d (.int .i64 c.h.int)]]⟩)] ++ dyn 178 1 0 (SA (kl A)), 1000000000000⟩) 0 (some ⟨118, mapM, zax (zaw (kl A).length) (kl A)⟩) (1000000 + j) = some ⟨178, 1, dr (hs.map zmt)⟩ := by
    simp [push_cast, zbf, hSj, zbh]
    repeat rw [if_neg (by omega)]
    rfl
   rw [ho];simp only [Option.bind_some];rw [if_pos (by simp)];have : (dr (hs.map zmt)).take (n' + 1) = dr (hs.map zmt) := List.take_of_length_le (by simp [dr, hn']);rw [this]
  ·simp [dr, hn']
  ·show 0 + 1 <= 1
   omega
  ·show ((dr (hs.map zmt)).length + 1) * 8 <= _
   simp [dr]; omega
  ·show zky (.agg c.p.row) (.hs 1000000000000 0 ((dr (hs.map zmt)).length + 1)) _ = _
   unfold zky;rw [hpos];simp [dr, hn']
  ·simp [zcu, zbh];omega
  ·exact ⟨Nat.le_of_ble_eq_true rfl, Nat.le_of_ble_eq_true rfl, Nat.le_of_ble_eq_true rfl, Nat.le_of_ble_eq_true rfl⟩
  ·intro K hK;simp [push_cast];refine hK _ ?_;refine zbw [(0, some 0), (1, some 1000000000004)] (zaw (kl A).length) [(1, some ⟨178, 1, [[.d (.int .i64 c.h.int)]]⟩)] 0 0 rfl rfl rfl (by rw [hkl]; omega) (zy _) rfl ?_ rfl ?_ ?_ ?_ ?_ (zba _) ?_ ?_
   ·simp [upT, up, upL, push_cast, zw, zx]
   ·simp [push_cast, zag]
   ·simp [upH, upR, upL, up, push_cast, zw, zag, zx]
   ·simp [zg, push_cast]
   ·simp [zp]
   ·intro x hx;have h1 := zbj.1 hx;simp [zp]; omega
   ·intro q x p hx hp';obtain ⟨hq, rfl⟩ := zbb hx;have : ((SA (kl A))[q]?).map (fun r => some (⟨178, 1, dr r⟩ : Ob)) = some (some ⟨178, 1, dr p.2⟩) := by simp [SA, hp']
    simp [push_cast, zbf, this];rw [if_neg (by omega), if_neg (by omega), if_neg (by omega)];rfl
  ·refine rx_map (ns := (zaw (kl A).length).set j 1000000000000) (.inr rfl) ⟨[], rfl, fun ρ => by simp [zey, rn, rnL, zhs]⟩ ?_ ?_ rfl ?_ ?_ ?_ ?_
   ·show some _ = some _
    rw [q1, mrows_set _ _ _ (zy _)];simp [hn']
   ·rw [q1]; simp [zy]
   ·exact idsN_set_nd (by omega)
   ·intro h0;rcases List.mem_or_eq_of_mem_set h0 with h0 | h0
    ·have := zbj.1 h0; omega
    ·simp at h0
   ·intro q x p hx hp';rw [q1] at hp';by_cases hq : j = q
    ·subst hq;rw [List.getElem?_set_self (by rw [zy]; exact hjl)] at hx;rw [List.getElem?_set_self hjl] at hp';cases hx; cases hp';simp [push_cast, zdd]
    ·rw [List.getElem?_set_ne hq] at hx hp';obtain ⟨_, rfl⟩ := zbb hx;have : ((SA (kl A))[q]?).map (fun r => some (⟨178, 1, dr r⟩ : Ob)) = some (some ⟨178, 1, dr p.2⟩) := by simp [SA, hp']
     simp [push_cast, zbf, this, zdd]
     repeat rw [if_neg (by omega)]
     rfl
   ·rfl
end Go.Proofs.YtdddknniooimmaaGreat

namespace Go.Proofs.YtdddknniooimmaaGreat
open Go.Abs

theorem ltY_uniq : ∀ {l l' : List ze}, l.Pairwise ltY -> l'.Pairwise ltY -> (∀ c, c ∈ l ↔ c ∈ l') -> l = l' := by
 intro l l' h1 h2 h;refine znl ?_ (h1.imp fun h => leY_of_lt h) (h2.imp fun h => leY_of_lt h);exact (List.perm_ext_iff_of_nodup (zca h1) (zca h2)).2 h
theorem region_uniq {R S : List Row} (hR : zo R = true) (hS : zo S = true) (h : ∀ c, c ∈ zk R ↔ c ∈ zk S) : R = S := by
 rw [<- zqr hR, <- zqr hS, ltY_uniq (zge hR) (zge hS) h]

def inR (l : List Run) (x : Int) : Bool := l.any fun r => decide (r.a <= x) && decide (x < r.b)
theorem zbe {l : List Run} {x : Int} : inR l x = true ↔ ∃ r ∈ l, r.a <= x /\ x < r.b := by simp [inR]
def zfm (l : List Run) : Prop := (∀ r ∈ l, r.a < r.b) /\ l.Pairwise fun p r => p.b < r.a
theorem rv_gap {l : List Run} (h : zar l = true) {k : Nat} {r p : Run} (hr : l[k + 1]? = some r) (hp : l[k]? = some p) : p.b < r.a := by
 have hk := (List.getElem?_eq_some_iff.1 hr).1;have := zcb h hk;rw [zgr hr (by simpa using hp)] at this;simp at this;omega
theorem rv_lt {l : List Run} (h : zar l = true) : ∀ (j i : Nat) (r p : Run), i < j -> l[j]? = some r -> l[i]? = some p -> p.b < r.a
 | 0, i, r, p, hij, _, _ => by omega
 | j + 1, i, r, p, hij, hr, hp => by
  by_cases e : i = j
  ·subst e; exact rv_gap h hr hp
  ·have hj := (List.getElem?_eq_some_iff.1 hr).1;obtain ⟨q, hq⟩ : ∃ q, l[j]? = some q := zak (by omega);have h1 := rv_lt h j i q p (by omega) hq hp;have h2 := rv_gap h hr hq;have h3 := zer h hq;omega
theorem zsz {l : List Run} : zar l = true ↔ zfm l /\ ∀ r ∈ l, zmu r = true := by
 constructor
 ·intro h;refine ⟨⟨fun r hr => ?_, ?_⟩, fun r hr => ?_⟩
  ·obtain ⟨i, hi⟩ := List.mem_iff_getElem?.1 hr; exact (zer h hi).1
  ·rw [List.pairwise_iff_getElem];intro i j hi hj hij;exact rv_lt h j i l[j] l[i] hij (List.getElem?_eq_getElem hj) (List.getElem?_eq_getElem hi)
  ·obtain ⟨i, hi⟩ := List.mem_iff_getElem?.1 hr; exact (zer h hi).2
 ·rintro ⟨⟨h1, h2⟩, h3⟩;apply List.all_eq_true.2
  intro i hi;have hi : i < l.length := by simpa using hi
  obtain ⟨r, hr⟩ := zak hi;obtain ⟨p, hp⟩ : ∃ q, l[i - 1]? = some q := zak (by omega);rw [zgr hr hp];have hm := List.mem_of_getElem? hr;simp only [Bool.and_eq_true, decide_eq_true_eq, Bool.or_eq_true, beq_iff_eq];refine ⟨⟨h1 r hm, h3 r hm⟩, ?_⟩;by_cases e : i = 0
  ·exact .inl e
  ·right
   obtain ⟨hi', rfl⟩ := List.getElem?_eq_some_iff.1 hr;obtain ⟨hp', rfl⟩ := List.getElem?_eq_some_iff.1 hp;exact List.pairwise_iff_getElem.1 h2 (i - 1) i hp' hi' (by omega)
theorem zdl {l : List Run} : zel l = true ↔ l ≠ [] /\ zfm l /\ ∀ r ∈ l, -4096 <= r.a /\ r.b <= 4096 := by
 constructor
 ·intro h;have hne : l ≠ [] := by rintro rfl; simp [zel] at h
  refine ⟨hne, (zsz.1 (zhg h)).1, fun r hr => ?_⟩;obtain ⟨i, hi⟩ := List.mem_iff_getElem?.1 hr;have := zhh h hi;omega
 ·rintro ⟨hne, h1, h2⟩;have hrv : zar l = true := zsz.2 ⟨h1, fun r hr => by
   have := h2 r hr; have := h1.1 r hr; simp [zmu]; omega⟩
  have hlp := List.length_pos_iff.2 hne;obtain ⟨f, hf⟩ : ∃ f, l[0]? = some f := zak hlp;obtain ⟨z, hz⟩ : ∃ f, l[l.length - 1]? = some f := zak (by omega);rw [fine_iff hf hz, hrv];have a1 := h2 f (List.mem_of_getElem? hf);have a2 := h1.1 f (List.mem_of_getElem? hf);have a3 := h2 z (List.mem_of_getElem? hz);have a4 := h1.1 z (List.mem_of_getElem? hz);simp [okB]; omega

def bnd (l : List Run) (i : Nat) : Int := match l[i / 2]? with
 | some r => if i % 2 = 1 then r.b else r.a
 | none => 1048577
theorem zwi {l : List Run} {k : Nat} {r : Run} (h : l[k]? = some r) : bnd l (2 * k) = r.a := by
 have e : 2 * k / 2 = k := by omega
 have e2 : ¬ 2 * k % 2 = 1 := by omega
 simp only [bnd, e, h, if_neg e2]
theorem bnd_odd {l : List Run} {k : Nat} {r : Run} (h : l[k]? = some r) : bnd l (2 * k + 1) = r.b := by
 have e : (2 * k + 1) / 2 = k := by omega
 have e2 : (2 * k + 1) % 2 = 1 := by omega
 simp only [bnd, e, h, if_pos e2]
theorem zkw (l : List Run) : bnd l (2 * l.length) = 1048577 := by
 have e : 2 * l.length / 2 = l.length := by omega
 simp [bnd, e]
theorem bnd_cases {l : List Run} {i : Nat} (h : i < 2 * l.length) : ∃ k r, l[k]? = some r /\ (i = 2 * k /\ bnd l i = r.a \/ i = 2 * k + 1 /\ bnd l i = r.b) := by
 obtain ⟨r, hr⟩ : ∃ r, l[i / 2]? = some r := zak (by omega);refine ⟨i / 2, r, hr, ?_⟩;by_cases e : i % 2 = 1
 ·right
  have e1 : i = 2 * (i / 2) + 1 := by omega
  exact ⟨e1, (congrArg (bnd l) e1).trans (bnd_odd hr)⟩
 ·left
  have e1 : i = 2 * (i / 2) := by omega
  exact ⟨e1, (congrArg (bnd l) e1).trans (zwi hr)⟩
theorem bnd_step {l : List Run} (h : zar l = true) {i : Nat} (hi : i < 2 * l.length) : bnd l i < bnd l (i + 1) := by
 obtain ⟨k, r, hr, ⟨e1, e2⟩ | ⟨e1, e2⟩⟩ := bnd_cases hi
 ·rw [e2, e1, bnd_odd hr]; exact (zer h hr).1
 ·by_cases hk : k + 1 < l.length
  ·obtain ⟨s, hs⟩ := zak hk;rw [e2, e1, show 2 * k + 1 + 1 = 2 * (k + 1) from by omega, zwi hs];exact rv_gap h hs hr
  ·have := (List.getElem?_eq_some_iff.1 hr).1;rw [e2, e1, show 2 * k + 1 + 1 = 2 * l.length from by omega, zkw];have := zqk (zer h hr).2;omega
theorem bnd_asc {l : List Run} (h : zar l = true) : ∀ (n i : Nat), i + n <= 2 * l.length -> bnd l i <= bnd l (i + n)
 | 0, i, _ => Int.le_refl _
 | n + 1, i, hi => by
  have h1 := bnd_asc h n i (by omega);have h2 := bnd_step h (i := i + n) (by omega);rw [show i + (n + 1) = i + n + 1 from by omega];omega
theorem zix {l : List Run} (h : zar l = true) {i : Nat} (hi : i < 2 * l.length) : -1048576 <= bnd l i /\ bnd l i <= 1048576 := by
 obtain ⟨k, r, hr, ⟨e1, e2⟩ | ⟨e1, e2⟩⟩ := bnd_cases hi <;>
 ·have := zqk (zer h hr).2;omega
theorem zlk {l : List Run} (h : zar l = true) {p : Nat} {y : Int} (hp : p <= 2 * l.length) (h1 : ∀ i, i < p -> bnd l i <= y) (h2 : p < 2 * l.length -> y < bnd l p) : inR l y = (p % 2 == 1) := by
 apply Bool.eq_iff_iff.2
 rw [zbe];simp only [beq_iff_eq];constructor
 ·rintro ⟨r, hr, h3, h4⟩;obtain ⟨k, hk⟩ := List.mem_iff_getElem?.1 hr;have hkl := (List.getElem?_eq_some_iff.1 hk).1;apply Classical.byContradiction
  intro he;have e : p = 2 * (p / 2) := by omega
  by_cases hlt : k < p / 2
  ·have := h1 (2 * k + 1) (by omega);rw [bnd_odd hk] at this;omega
  ·have h5 := h2 (by omega);have h6 := bnd_asc h (2 * k - p) p (by omega);rw [show p + (2 * k - p) = 2 * k from by omega, zwi hk] at h6;omega
 ·intro he;have e : p = 2 * (p / 2) + 1 := by omega
  obtain ⟨r, hr⟩ : ∃ r, l[p / 2]? = some r := zak (by omega);refine ⟨r, List.mem_of_getElem? hr, ?_, ?_⟩
  ·have := h1 (2 * (p / 2)) (by omega)
   rwa [zwi hr] at this
  ·have := h2 (by omega);rw [e, bnd_odd hr] at this;exact this

def swX (a b : List Run) (p q : Nat) : Int := min (bnd a p) (bnd b q)
def swP (a : List Run) (x : Int) (p : Nat) : Nat := if bnd a p = x then p + 1 else p
def zji (now o : Bool) (out : List Run) (x : Int) : List Run :=
 if now && !o then out ++ [⟨x, 0⟩] else if !now && o then out.dropLast ++ [⟨(out.getLast?.getD ⟨0, 0⟩).a, x⟩] else out
def swF (f : Bool -> Bool -> Bool) (a b : List Run) : Nat -> Nat -> Nat -> List Run -> Bool -> List Run
 | 0, _, _, out, _ => out
 | n + 1, p, q, out, o =>
  if p = 2 * a.length /\ q = 2 * b.length then out else
   swF f a b n (swP a (swX a b p q) p) (swP b (swX a b p q) q)
    (zji (f (swP a (swX a b p q) p % 2 == 1) (swP b (swX a b p q) q % 2 == 1)) o out (swX a b p q)) (f (swP a (swX a b p q) p % 2 == 1) (swP b (swX a b p q) q % 2 == 1))
def sweep (f : Bool -> Bool -> Bool) (a b : List Run) : List Run := if zar a && zar b then swF f a b (2 * a.length + 2 * b.length) 0 0 [] false else []

structure SwAt (f : Bool -> Bool -> Bool) (a b : List Run) (p q : Nat) (out : List Run) (o : Bool) (X : Int) (C : List Run) (s : Int) : Prop where
 hp : p <= 2 * a.length
 hq : q <= 2 * b.length
 p1 : ∀ i, i < p -> bnd a i <= X
 p2 : p < 2 * a.length -> X < bnd a p
 q1 : ∀ i, i < q -> bnd b i <= X
 q2 : q < 2 * b.length -> X < bnd b q
 eout : out = if o then C ++ [⟨s, 0⟩] else C
 ap : zfm C
 le : ∀ r ∈ C, r.b <= X
 so : o = true -> s <= X /\ ∀ r ∈ C, r.b < s
 eo : o = f (p % 2 == 1) (q % 2 == 1)
 mem : ∀ y, y <= X -> (f (inR a y) (inR b y) = true ↔ (inR C y = true \/ (o = true /\ s <= y)))

theorem swP_facts {a : List Run} (ha : zar a = true) {p : Nat} {X x : Int} (hp : p <= 2 * a.length) (p1 : ∀ i, i < p -> bnd a i <= X) (hX : X < x) (hx : x <= bnd a p) (hb : x <= 1048576) :
  swP a x p <= 2 * a.length /\ (∀ i, i < swP a x p -> bnd a i <= x) /\ (swP a x p < 2 * a.length -> x < bnd a (swP a x p)) := by
 unfold swP;split
 ·rename_i e;have hlt : p < 2 * a.length := by
   apply Classical.byContradiction
   intro h;have h3 : bnd a p = 1048577 := by rw [show p = 2 * a.length from by omega]; exact zkw a
   omega
  refine ⟨hlt, fun i hi => ?_, fun h => ?_⟩
  ·by_cases e2 : i = p
   ·subst e2; omega
   ·have := p1 i (by omega); omega
  ·have := bnd_step ha hlt; omega
 ·rename_i e;refine ⟨hp, fun i hi => by have := p1 i hi; omega, fun h => by omega⟩

theorem inR_app (C : List Run) (r : Run) (y : Int) : inR (C ++ [r]) y = (inR C y || (decide (r.a <= y) && decide (y < r.b))) := by simp [inR]
theorem sw_step {f : Bool -> Bool -> Bool} {a b : List Run} (ha : zar a = true) (hb : zar b = true) {p q : Nat} {out : List Run} {o : Bool} {X : Int} {C : List Run} {s : Int} (h : SwAt f a b p q out o X C s) (hn : ¬ (p = 2 * a.length /\ q = 2 * b.length)) :
  X < swX a b p q /\ ∃ C' s', SwAt f a b (swP a (swX a b p q) p) (swP b (swX a b p q) q) (zji (f (swP a (swX a b p q) p % 2 == 1) (swP b (swX a b p q) q % 2 == 1)) o out (swX a b p q)) (f (swP a (swX a b p q) p % 2 == 1) (swP b (swX a b p q) q % 2 == 1)) (swX a b p q) C' s' := by
 obtain ⟨hp, hq, p1, p2, q1, q2, hout, hap, hle, hso, ho, hmem⟩ := h;have x1 : swX a b p q <= bnd a p := Int.min_le_left _ _;have x2 : swX a b p q <= bnd b q := Int.min_le_right _ _;have x3 : swX a b p q = bnd a p \/ swX a b p q = bnd b q := by unfold swX; omega
 have hXb : swX a b p q <= 1048576 := by
  by_cases e : p < 2 * a.length
  ·have := zix ha e; omega
  ·have := zix hb (i := q) (by omega); omega
 have hX : X < swX a b p q := by
  rcases x3 with e | e
  ·rw [e];refine p2 ?_;apply Classical.byContradiction
   intro h;have h3 : bnd a p = 1048577 := by rw [show p = 2 * a.length from by omega]; exact zkw a
   omega
  ·rw [e];refine q2 ?_;apply Classical.byContradiction
   intro h;have h3 : bnd b q = 1048577 := by rw [show q = 2 * b.length from by omega]; exact zkw b
   omega
 obtain ⟨P1, P2, P3⟩ := swP_facts ha hp p1 hX x1 hXb;obtain ⟨Q1, Q2, Q3⟩ := swP_facts hb hq q1 hX x2 hXb;generalize swX a b p q = x at *;generalize swP a x p = p' at *;generalize swP b x q = q' at *;have hbet : ∀ y, X <= y -> y < x -> f (inR a y) (inR b y) = o := fun y h1 h2 => by
  rw [zlk ha hp (fun i hi => Int.le_trans (p1 i hi) h1) (fun _ => by omega), zlk hb hq (fun i hi => Int.le_trans (q1 i hi) h1) (fun _ => by omega)];exact ho.symm
 have hat : f (inR a x) (inR b x) = f (p' % 2 == 1) (q' % 2 == 1) := by rw [zlk ha P1 P2 P3, zlk hb Q1 Q2 Q3]
 generalize hnow : f (p' % 2 == 1) (q' % 2 == 1) = now at *;have hnoC : ∀ y, X <= y -> inR C y = false := fun y h1 => by
  rw [Bool.eq_false_iff];intro hc;obtain ⟨r, hr, h2, h3⟩ := zbe.1 hc;have := hle r hr;omega
 refine ⟨hX, ?_⟩;have dich : ∀ y, y <= x -> y <= X \/ (X < y /\ y < x) \/ y = x := fun y hy => by omega
 cases hnw : now <;> cases hoo : o
 ·-- neither
  refine ⟨C, s, P1, Q1, P2, P3, Q2, Q3, ?_, hap, fun r hr => by have := hle r hr; omega, fun h => (by cases h), by rw [hnow, hnw], fun y hy => ?_⟩
  ·simp [zji, hout, hoo]
  ·rcases dich y hy with h | ⟨h1, h2⟩ | h
   ·rw [hmem y h, hoo]
   ·rw [hbet y (by omega) h2, hoo, hnoC y (by omega)]; simp
   ·rw [h, hat, hnw, hnoC x (by omega)]; simp
 ·-- the run ends
  have ⟨hs1, hs2⟩ := hso hoo;refine ⟨C ++ [⟨s, x⟩], 0, P1, Q1, P2, P3, Q2, Q3, ?_, ⟨?_, ?_⟩, ?_, fun h => (by cases h), by rw [hnow, hnw], fun y hy => ?_⟩
  ·simp [zji, hout, hoo]
  ·intro r hr;rcases List.mem_append.1 hr with hr | hr
   ·exact hap.1 r hr
   ·simp at hr; subst hr; simp only; omega
  ·rw [List.pairwise_append];refine ⟨hap.2, by simp, fun r hr t ht => ?_⟩;simp at ht; subst ht; exact hs2 r hr
  ·intro r hr;rcases List.mem_append.1 hr with hr | hr
   ·have := hle r hr; omega
   ·simp at hr; subst hr; simp
  ·rw [inR_app];rcases dich y hy with h | ⟨h1, h2⟩ | h
   ·have : y < x := by omega
    rw [hmem y h, hoo]; simp [this]
   ·rw [hbet y (by omega) h2, hoo, hnoC y (by omega)]; simp; omega
   ·rw [h, hat, hnw, hnoC x (by omega)]; simp
 ·-- a run begins
  refine ⟨C, x, P1, Q1, P2, P3, Q2, Q3, ?_, hap, fun r hr => by have := hle r hr; omega, fun _ => ⟨Int.le_refl _, fun r hr => by have := hle r hr; omega⟩, by rw [hnow, hnw], fun y hy => ?_⟩
  ·simp [zji, hout, hoo]
  ·rcases dich y hy with h | ⟨h1, h2⟩ | h
   ·rw [hmem y h, hoo]; simp; omega
   ·rw [hbet y (by omega) h2, hoo, hnoC y (by omega)]; simp; omega
   ·rw [h, hat, hnw]; simp
 ·-- the run goes on
  have ⟨hs1, hs2⟩ := hso hoo;refine ⟨C, s, P1, Q1, P2, P3, Q2, Q3, ?_, hap, fun r hr => by have := hle r hr; omega, fun _ => ⟨by omega, hs2⟩, by rw [hnow, hnw], fun y hy => ?_⟩
  ·simp [zji, hout, hoo]
  ·rcases dich y hy with h | ⟨h1, h2⟩ | h
   ·rw [hmem y h, hoo]
   ·rw [hbet y (by omega) h2, hoo]; simp; omega
   ·rw [h, hat, hnw]; simp; omega
theorem sw_all {f : Bool -> Bool -> Bool} (hf : f false false = false) {a b : List Run} (ha : zar a = true) (hb : zar b = true) : ∀ (n p q : Nat) (out : List Run) (o : Bool) (X : Int) (C : List Run) (s : Int), SwAt f a b p q out o X C s -> 2 * a.length + 2 * b.length <= n + (p + q) ->
  zfm (swF f a b n p q out o) /\ ∀ y, inR (swF f a b n p q out o) y = f (inR a y) (inR b y) := by
 have fin : ∀ (p q : Nat) (out : List Run) (o : Bool) (X : Int) (C : List Run) (s : Int), SwAt f a b p q out o X C s -> p = 2 * a.length /\ q = 2 * b.length -> zfm out /\ ∀ y, inR out y = f (inR a y) (inR b y) := by
  rintro p q out o X C s ⟨hp, hq, p1, p2, q1, q2, hout, hap, hle, hso, ho, hmem⟩ ⟨e1, e2⟩;have ho0 : o = false := by
   rw [ho, e1, e2];have h1 : (2 * a.length % 2 == 1) = false := by simp
   have h2 : (2 * b.length % 2 == 1) = false := by simp
   rw [h1, h2, hf]
  subst ho0;simp only [Bool.false_eq_true, if_false] at hout;subst hout;refine ⟨hap, fun y => ?_⟩;by_cases hy : y <= X
  ·have := hmem y hy;simp only [Bool.false_eq_true, false_and, or_false] at this;exact (Bool.eq_iff_iff.2 this).symm
  ·have h1 := zlk ha hp (fun i hi => Int.le_trans (p1 i hi) (by omega : X <= y)) (fun h => by omega);have h2 := zlk hb hq (fun i hi => Int.le_trans (q1 i hi) (by omega : X <= y)) (fun h => by omega);rw [h1, h2, <- ho, Bool.eq_false_iff];intro hc;obtain ⟨r, hr, h3, h4⟩ := zbe.1 hc;have := hle r hr;omega
 intro n;induction n with
 | zero =>
  intro p q out o X C s h hn;exact fin p q out o X C s h ⟨by have := h.hp; have := h.hq; omega, by have := h.hp; have := h.hq; omega⟩
 | succ n ih =>
  intro p q out o X C s h hn;unfold swF;split
  ·rename_i e; exact fin p q out o X C s h e
  ·rename_i e;obtain ⟨hX, C', s', h'⟩ := sw_step ha hb h e;refine ih _ _ _ _ _ C' s' h' ?_;have : p + q + 1 <= swP a (swX a b p q) p + swP b (swX a b p q) q := by
    unfold swP swX;split <;> split <;> omega
   omega
theorem zdt {f : Bool -> Bool -> Bool} (hf : f false false = false) {a b : List Run} (ha : zar a = true) (hb : zar b = true) : zfm (sweep f a b) /\ ∀ y, inR (sweep f a b) y = f (inR a y) (inR b y) := by
 have e : sweep f a b = swF f a b (2 * a.length + 2 * b.length) 0 0 [] false := by simp [sweep, ha, hb]
 rw [e];refine sw_all hf ha hb _ 0 0 [] false (-1048577) [] 0 ⟨Nat.zero_le _, Nat.zero_le _, fun i hi => by omega, fun h => ?_, fun i hi => by omega, fun h => ?_, rfl, ⟨by simp, List.Pairwise.nil⟩, by simp, fun h => (by cases h), by simp [hf], fun y hy => ?_⟩ (by omega)
 ·have := zix ha h; omega
 ·have := zix hb h; omega
 ·have h1 := zlk ha (p := 0) (y := y) (Nat.zero_le _) (fun i hi => by omega) (fun h => by have := zix ha h; omega);have h2 := zlk hb (p := 0) (y := y) (Nat.zero_le _) (fun i hi => by omega) (fun h => by have := zix hb h; omega);rw [h1, h2];simp [hf, inR]
theorem zeq {l : List Run} (h : zfm l) {lo hi : Int} (hm : ∀ y, inR l y = true -> lo <= y /\ y < hi) : ∀ r ∈ l, lo <= r.a /\ r.b <= hi := fun r hr => by
 have h1 := h.1 r hr;have h2 := hm r.a (zbe.2 ⟨r, hr, Int.le_refl _, h1⟩);have h3 := hm (r.b - 1) (zbe.2 ⟨r, hr, by omega, by omega⟩);omega

def zab (R : List Row) (y : Int) : List Run := match R.find? (fun w => decide (w.y = y)) with
 | some w => w.runs
 | none => []
theorem zfn {R : List Row} (h : zo R = true) {w : Row} (hw : w ∈ R) : zab R w.y = w.runs := by
 unfold zab;cases hf : R.find? (fun v => decide (v.y = w.y)) with
 | none => have := List.find?_eq_none.1 hf w hw; simp at this
 | some v =>
  have h1 := List.mem_of_find?_eq_some hf;have h2 := List.find?_some hf;have := rows_eq h h1 hw (by simpa using h2);rw [this]
theorem zhx {R : List Row} {y : Int} (h : ∀ w ∈ R, w.y ≠ y) : zab R y = [] := by
 unfold zab;cases hf : R.find? (fun v => decide (v.y = y)) with
 | none => rfl
 | some v => exact absurd (by simpa using List.find?_some hf) (h v (List.mem_of_find?_eq_some hf))
theorem zdw {R : List Row} (h : zo R = true) (y : Int) : (∃ w ∈ R, w.y = y /\ zab R y = w.runs) \/ ((∀ w ∈ R, w.y ≠ y) /\ zab R y = []) := by
 by_cases e : ∃ w ∈ R, w.y = y
 ·obtain ⟨w, hw, rfl⟩ := e;exact .inl ⟨w, hw, rfl, zfn h hw⟩
 ·have : ∀ w ∈ R, w.y ≠ y := fun w hw hy => e ⟨w, hw, hy⟩;exact .inr ⟨this, zhx this⟩
theorem zed {R : List Row} (h : zo R = true) (y : Int) : zar (zab R y) = true := by
 rcases zdw h y with ⟨w, hw, _, e⟩ | ⟨_, e⟩
 ·rw [e]; exact zhg (zbx h hw).2
 ·rw [e]; rfl
theorem zke {R : List Row} (h : zo R = true) (c : ze) : c ∈ zk R ↔ inR (zab R c.y) c.x = true := by
 rw [zbn, zbe];constructor
 ·rintro ⟨w, hw, hy, r, hr, h1, h2⟩;rw [hy, zfn h hw];exact ⟨r, hr, h1, h2⟩
 ·rintro ⟨r, hr, h1, h2⟩;rcases zdw h c.y with ⟨w, hw, hy, e⟩ | ⟨_, e⟩
  ·rw [e] at hr; exact ⟨w, hw, hy.symm, r, hr, h1, h2⟩
  ·rw [e] at hr; cases hr
theorem zpq {R : List Row} (h : zo R = true) {y x : Int} (hx : inR (zab R y) x = true) : -4096 <= y /\ y < 4096 /\ -4096 <= x /\ x < 4096 := by
 have := zeg h ((zke h ⟨x, y⟩).2 hx);simp [onG] at this; omega
theorem zht {R : List Row} : zo R = true ↔ (∀ w ∈ R, (-4096 <= w.y /\ w.y < 4096) /\ zel w.runs = true) /\ R.Pairwise fun a b => a.y < b.y := by
 constructor
 ·intro h; exact ⟨fun w hw => zbx h hw, zlf h⟩
 ·rintro ⟨h1, h2⟩;apply List.all_eq_true.2
  intro i hi;have hi : i < R.length := by simpa using hi
  obtain ⟨r, hr⟩ := zak hi;obtain ⟨p, hp⟩ : ∃ q, R[i - 1]? = some q := zak (by omega);obtain ⟨h3, h4⟩ := h1 r (List.mem_of_getElem? hr);rw [zfe hr hp, h4];simp only [Bool.and_true, Bool.and_eq_true, Bool.or_eq_true, beq_iff_eq, decide_eq_true_eq];refine ⟨by simp [okB]; omega, ?_⟩;by_cases e : i = 0
  ·exact .inl e
  ·right
   obtain ⟨hi', rfl⟩ := List.getElem?_eq_some_iff.1 hr;obtain ⟨hp', rfl⟩ := List.getElem?_eq_some_iff.1 hp;exact List.pairwise_iff_getElem.1 h2 (i - 1) i hp' hi' (by omega)

def zut (f : Bool -> Bool -> Bool) (a b : List Row) (y : Int) : List Row := if sweep f (zab a y) (zab b y) = [] then [] else [⟨y, sweep f (zab a y) (zab b y)⟩]
def zuu (f : Bool -> Bool -> Bool) (a b : List Row) (ys : List Int) : List Row := ys.flatMap (zut f a b)
theorem zrh {f : Bool -> Bool -> Bool} {a b : List Row} {y : Int} {w : Row} (h : w ∈ zut f a b y) : w.y = y /\ w.runs = sweep f (zab a y) (zab b y) /\ w.runs ≠ [] := by
 unfold zut at h;split at h
 ·cases h
 ·rename_i e; simp at h; subst h; exact ⟨rfl, rfl, e⟩
theorem znw {f : Bool -> Bool -> Bool} (hf : f false false = false) {a b : List Row} (ha : zo a = true) (hb : zo b = true) {ys : List Int} (hp : ys.Pairwise (· < ·)) : zo (zuu f a b ys) = true := by
 refine zht.2 ⟨fun w hw => ?_, ?_⟩
 ·obtain ⟨y, hy, hw⟩ := List.mem_flatMap.1 hw;obtain ⟨e1, e2, e3⟩ := zrh hw;obtain ⟨h1, h2⟩ := zdt hf (zed ha y) (zed hb y);rw [<- e2] at h1 h2;have key : ∀ x, inR w.runs x = true -> -4096 <= y /\ y < 4096 /\ -4096 <= x /\ x < 4096 := fun x hx => by
   rw [h2] at hx;cases e : inR (zab a y) x with
   | true => exact zpq ha e
   | false =>
    cases e' : inR (zab b y) x with
    | true => exact zpq hb e'
    | false => rw [e, e', hf] at hx; cases hx
  have hbd := zeq h1 (lo := -4096) (hi := 4096) (fun x hx => ⟨(key x hx).2.2.1, (key x hx).2.2.2⟩);refine ⟨?_, zdl.2 ⟨e3, h1, hbd⟩⟩;obtain ⟨r, hr⟩ := List.exists_mem_of_ne_nil _ e3;have := key r.a (zbe.2 ⟨r, hr, Int.le_refl _, h1.1 r hr⟩);rw [e1]; omega
 ·unfold zuu;rw [List.pairwise_flatMap];refine ⟨fun y _ => by unfold zut; split <;> simp, hp.imp fun {y z} hyz u hu v hv => ?_⟩;rw [(zrh hu).1, (zrh hv).1]; exact hyz
theorem zte {f : Bool -> Bool -> Bool} (hf : f false false = false) {a b : List Row} (ha : zo a = true) (hb : zo b = true) {ys : List Int} (hp : ys.Pairwise (· < ·)) (hys : ∀ w, w ∈ a \/ w ∈ b -> w.y ∈ ys) (c : ze) :
  decide (c ∈ zk (zuu f a b ys)) = f (decide (c ∈ zk a)) (decide (c ∈ zk b)) := by
 have hv := znw hf ha hb hp;have e1 : decide (c ∈ zk a) = inR (zab a c.y) c.x := by rw [Bool.eq_iff_iff]; simp [zke ha]
 have e2 : decide (c ∈ zk b) = inR (zab b c.y) c.x := by rw [Bool.eq_iff_iff]; simp [zke hb]
 rw [e1, e2, <- (zdt hf (zed ha c.y) (zed hb c.y)).2];rw [Bool.eq_iff_iff, decide_eq_true_eq, zbn, zbe];constructor
 ·rintro ⟨w, hw, hy, r, hr, h1, h2⟩;obtain ⟨y, hym, hw⟩ := List.mem_flatMap.1 hw;obtain ⟨q1, q2, q3⟩ := zrh hw;rw [hy, q1];rw [q2] at hr;exact ⟨r, hr, h1, h2⟩
 ·rintro ⟨r, hr, h1, h2⟩;have hne : sweep f (zab a c.y) (zab b c.y) ≠ [] := by rintro e; rw [e] at hr; cases hr
  have hym : c.y ∈ ys := by
   have hin : f (inR (zab a c.y) c.x) (inR (zab b c.y) c.x) = true := by
    rw [<- (zdt hf (zed ha c.y) (zed hb c.y)).2]; exact zbe.2 ⟨r, hr, h1, h2⟩
   rcases zdw ha c.y with ⟨w, hw, hy, _⟩ | ⟨_, e⟩
   ·rw [<- hy]; exact hys w (.inl hw)
   ·rcases zdw hb c.y with ⟨w, hw, hy, _⟩ | ⟨_, e'⟩
    ·rw [<- hy]; exact hys w (.inr hw)
    ·rw [e, e'] at hin; simp [inR, hf] at hin
  refine ⟨⟨c.y, sweep f (zab a c.y) (zab b c.y)⟩, List.mem_flatMap.2 ⟨c.y, hym, ?_⟩, rfl, r, hr, h1, h2⟩;unfold zut;rw [if_neg hne]; simp
theorem opOn_uniq {f : Bool -> Bool -> Bool} (hf : f false false = false) {a b : List Row} (ha : zo a = true) (hb : zo b = true) {ys zs : List Int} (hp : ys.Pairwise (· < ·)) (hq : zs.Pairwise (· < ·)) (hys : ∀ w, w ∈ a \/ w ∈ b -> w.y ∈ ys) (hzs : ∀ w, w ∈ a \/ w ∈ b -> w.y ∈ zs) : zuu f a b ys = zuu f a b zs := by
 refine region_uniq (znw hf ha hb hp) (znw hf ha hb hq) fun c => ?_;have h1 := zte hf ha hb hp hys c;have h2 := zte hf ha hb hq hzs c;rw [<- h2] at h1;exact decide_eq_decide.1 h1
def allY (a b : List Row) : List Int := (a.map Row.y ++ b.map Row.y).mergeSort (fun x y => decide (x <= y))
def zku : List Int -> List Int
 | [] => []
 | [x] => [x]
 | x :: y :: l => if x = y then zku (y :: l) else x :: zku (y :: l)
theorem zru : ∀ (l : List Int) (y : Int), y ∈ zku l ↔ y ∈ l
 | [], _ => by simp [zku]
 | [x], _ => by simp [zku]
 | x :: z :: l, y => by
  simp only [zku];split
  ·rename_i e; subst e; rw [zru (x :: l) y]; simp
  ·rw [List.mem_cons, zru (z :: l) y]; simp
theorem zqq : ∀ (l : List Int), l.Pairwise (· <= ·) -> (zku l).Pairwise (· < ·)
 | [], _ => by simp [zku]
 | [x], _ => by simp [zku]
 | x :: z :: l, h => by
  have h1 := List.pairwise_cons.1 h;simp only [zku];split
  ·exact zqq (z :: l) h1.2
  ·rename_i e;refine List.pairwise_cons.2 ⟨fun y hy => ?_, zqq (z :: l) h1.2⟩;rw [zru] at hy;have h2 := h1.1 z (by simp);rcases List.mem_cons.1 hy with rfl | hy
   ·omega
   ·have := (List.pairwise_cons.1 h1.2).1 y hy; omega
theorem allY_perm (a b : List Row) : (allY a b).Perm (a.map Row.y ++ b.map Row.y) := List.mergeSort_perm _ _
theorem allY_le (a b : List Row) : (allY a b).Pairwise (· <= ·) := by
 have := List.pairwise_mergeSort (le := fun x y : Int => decide (x <= y)) (fun a b c h1 h2 => by simp at *; omega) (fun a b => by simp; omega) (a.map Row.y ++ b.map Row.y);exact this.imp fun h => by simpa using h
theorem allY_mem {a b : List Row} (w : Row) (h : w ∈ a \/ w ∈ b) : w.y ∈ zku (allY a b) := by
 rw [zru, (allY_perm a b).mem_iff, List.mem_append];rcases h with h | h
 ·exact .inl (List.mem_map_of_mem h)
 ·exact .inr (List.mem_map_of_mem h)
def opR (f : Bool -> Bool -> Bool) (a b : List Row) : List Row := if zo a && zo b then zuu f a b (zku (allY a b)) else []
theorem opR_facts {f : Bool -> Bool -> Bool} (hf : f false false = false) {a b : List Row} (ha : zo a = true) (hb : zo b = true) : zo (opR f a b) = true /\ ∀ c, decide (c ∈ zk (opR f a b)) = f (decide (c ∈ zk a)) (decide (c ∈ zk b)) := by
 have e : opR f a b = zuu f a b (zku (allY a b)) := by simp [opR, ha, hb]
 rw [e];exact ⟨znw hf ha hb (zqq _ (allY_le a b)), zte hf ha hb (zqq _ (allY_le a b)) allY_mem⟩
theorem opR_on {f : Bool -> Bool -> Bool} (hf : f false false = false) {a b : List Row} (ha : zo a = true) (hb : zo b = true) {ys : List Int} (hp : ys.Pairwise (· < ·)) (hys : ∀ w, w ∈ a \/ w ∈ b -> w.y ∈ ys) : zuu f a b ys = opR f a b := by
 have e : opR f a b = zuu f a b (zku (allY a b)) := by simp [opR, ha, hb]
 rw [e];exact opOn_uniq hf ha hb hp (zqq _ (allY_le a b)) hys allY_mem
theorem zrz : ∀ {l : List Run} {lo hi : Int}, zfm l -> (∀ r ∈ l, lo <= r.a /\ r.b <= hi) -> l.length <= (hi - lo).toNat
 | [], _, _, _, _ => by simp
 | r :: l, lo, hi, h, hb => by
  have h1 := h.1 r (by simp);have h2 := List.pairwise_cons.1 h.2;have h3 := hb r (by simp);have ih := zrz (l := l) (lo := r.b) (hi := hi) ⟨fun q hq => h.1 q (by simp [hq]), h2.2⟩ (fun q hq => ⟨by have := h2.1 q hq; omega, (hb q (by simp [hq])).2⟩);simp only [List.length_cons];omega

theorem valid_runs {R : List Row} (hv : zo R = true) {w : Row} (hw : w ∈ R) : w.runs.length <= 8192 := by
 obtain ⟨_, h1, h2⟩ := zdl.1 (zbx hv hw).2;have := zrz h1 (lo := -4096) (hi := 4096) h2;omega

theorem rows_len : ∀ {R : List Row} {lo hi : Int}, (R.Pairwise fun a b => a.y < b.y) -> (∀ w ∈ R, lo <= w.y /\ w.y < hi) -> R.length <= (hi - lo).toNat
 | [], _, _, _, _ => by simp
 | w :: R, lo, hi, h, hb => by
  have h2 := List.pairwise_cons.1 h;have h3 := hb w (by simp);have ih := rows_len (R := R) (lo := w.y + 1) (hi := hi) h2.2 (fun v hv => ⟨by have := h2.1 v hv; omega, (hb v (by simp [hv])).2⟩);simp only [List.length_cons];omega
theorem zce {R : List Row} (hv : zo R = true) : zdi R := by
 obtain ⟨h1, h2⟩ := zht.1 hv;have := rows_len h2 (lo := -4096) (hi := 4096) fun w hw => (h1 w hw).1;exact ⟨by omega, fun w hw => by have := valid_runs hv hw; omega⟩

abbrev zbp (l : List Run) (p : Nat) : List D := [zn l, .int .i64 p]
theorem over_ok (l : List Run) (p : Nat) (hl : l.length <= 1000000) (hp : p <= 2 * l.length) : PX Tryz.prog 168 [.ptr 0 0 0] [(0, ⟨208, 2, [(zbp l p).map .d]⟩)] [(0, 0)] [(0, ⟨208, 2, [(zbp l p).map .d]⟩)] (.d (.bool (decide (p = 2 * l.length)))) := by
 have e1 := wI (2 * (l.length : Int));have e2 : ((p : Int) == 2 * (l.length : Int)) = decide (p = 2 * l.length) := by
  rw [Bool.eq_iff_iff]; simp; omega
 refine zbv cx (fn := Tryz.f168) (c := _) 1 Tryz.func168 rfl rfl (lB rfl) rfl rfl fun Ls => ?_;rw [Tryz.ntmps168]; refine Nav.imp ?_;refine rg cx ?_;refine rd cx mixed [] (fun K hK => by simp [push_cast, e1, e2]; (repeat refine ob ?_); exact hK) ?_;first | refine znr [(0, 0)] ?_ | refine zns [(0, 0)] ?_
 simp [push_cast];try decide
theorem inside_ok (l : List Run) (p : Nat) (hl : l.length <= 1000000) (hp : p <= 2 * l.length) : PX Tryz.prog 171 [.ptr 0 0 0] [(0, ⟨208, 2, [(zbp l p).map .d]⟩)] [(0, 0)] [(0, ⟨208, 2, [(zbp l p).map .d]⟩)] (.d (.bool (p % 2 == 1))) := by
 have e1 : Int.tmod (p : Int) 2 = (p : Int) % 2 := by rw [Int.tmod_eq_emod_of_nonneg (by omega)]
 have e2 := wI ((p : Int) % 2);have e3 : ((p : Int) % 2 == 1) = (p % 2 == 1) := by rw [Bool.eq_iff_iff]; simp; omega
 refine zbv cx (fn := Tryz.f171) (c := _) 1 Tryz.func171 rfl rfl (lB rfl) rfl rfl fun Ls => ?_;rw [Tryz.ntmps171]; refine Nav.imp ?_;refine rg cx ?_;refine rx cx [] (fun K hK => by simp [push_cast, e1, e2, e3]; (repeat refine ob ?_); exact hK) ?_;first | refine znr [(0, 0)] ?_ | refine zns [(0, 0)] ?_
 simp [push_cast, e3];try decide
theorem next_ok (l : List Run) (p : Nat) (hl : l.length <= 1000000) (hp : p <= 2 * l.length) : PX Tryz.prog 169 [.ptr 0 0 0] [(0, ⟨208, 2, [(zbp l p).map .d]⟩)] [(0, 0)] [(0, ⟨208, 2, [(zbp l p).map .d]⟩)] (.d (.int .i64 (bnd l p))) := by
 have c1 := over_ok l p hl hp;have c2 := inside_ok l p hl hp;by_cases ho : p = 2 * l.length
 ·have hb : bnd l p = 1048577 := by rw [ho, zkw]
  rw [decide_eq_true ho] at c1;rw [hb];refine zbv cx (fn := Tryz.f169) (c := _) 1 Tryz.func169 rfl rfl (lB rfl) rfl rfl fun Ls => ?_;rw [Tryz.ntmps169]; refine Nav.imp ?_;refine rg cx ?_;refine rx cx [(1, .x ⟨[(0, 0)], [.ptr 0 0 0], [(0, ⟨208, 2, [(zbp l p).map .d]⟩)], [(0, 0)], none, [(0, ⟨208, 2, [(zbp l p).map .d]⟩)], .d (.bool true)⟩)] (fun K hK => by simp [push_cast, c1]; (repeat refine ob ?_); exact hK) ?_;refine awp_cd true (fun hb => ?_) fun hb => ?_
  ·refine rg cx ?_;first | refine znr [(0, 0)] ?_ | refine zns [(0, 0)] ?_
   simp [push_cast];try decide
  ·simp at hb
 ·rw [decide_eq_false ho] at c1;obtain ⟨r, hr⟩ : ∃ r, l[p / 2]? = some r := zak (by omega);have hb : bnd l p = if p % 2 = 1 then r.b else r.a := by simp only [bnd, hr]
  have e1 : Int.tdiv (p : Int) 2 = (p : Int) / 2 := by rw [Int.tdiv_eq_ediv_of_nonneg (by omega)]
  have e2 := wI ((p : Int) / 2);have e3 : ((p : Int) / 2).toNat = p / 2 := by omega
  have e4 : (0 : Int) <= (p : Int) / 2 := by omega
  obtain ⟨ra, rb⟩ := r;simp only at hb;rw [hb];clear hb;by_cases hi : p % 2 = 1
  ·have hi' : (p % 2 == 1) = true := by simpa using hi
   rw [hi'] at c2;rw [if_pos hi];refine zbv cx (fn := Tryz.f169) (c := _) 1 Tryz.func169 rfl rfl (lB rfl) rfl rfl fun Ls => ?_;rw [Tryz.ntmps169]; refine Nav.imp ?_;refine rg cx ?_;refine rx cx [(1, .x ⟨[(0, 0)], [.ptr 0 0 0], [(0, ⟨208, 2, [(zbp l p).map .d]⟩)], [(0, 0)], none, [(0, ⟨208, 2, [(zbp l p).map .d]⟩)], .d (.bool false)⟩)] (fun K hK => by simp [push_cast, c1]; (repeat refine ob ?_); exact hK) ?_;refine awp_cd false (fun hb => ?_) fun hb => ?_
   ·simp at hb
   ·refine rx cx [(1, .x ⟨[(0, 0)], [.ptr 0 0 0], [(0, ⟨208, 2, [(zbp l p).map .d]⟩)], [(0, 0)], none, [(0, ⟨208, 2, [(zbp l p).map .d]⟩)], .d (.bool true)⟩)] (fun K hK => by simp [push_cast, c2]; (repeat refine ob ?_); exact hK) ?_;refine awp_cd true (fun hb => ?_) fun hb => ?_
    ·refine rd cx mixed [] (fun K hK => by simp [push_cast, hr, e1, e2, e3, e4, Run.row]; (repeat refine ob ?_); exact hK) ?_;first | refine znr [(0, 0)] ?_ | refine zns [(0, 0)] ?_
     simp [push_cast];try decide
    ·simp at hb
  ·have hi' : (p % 2 == 1) = false := by simpa using hi
   rw [hi'] at c2;rw [if_neg hi];refine zbv cx (fn := Tryz.f169) (c := _) 1 Tryz.func169 rfl rfl (lB rfl) rfl rfl fun Ls => ?_;rw [Tryz.ntmps169]; refine Nav.imp ?_;refine rg cx ?_;refine rx cx [(1, .x ⟨[(0, 0)], [.ptr 0 0 0], [(0, ⟨208, 2, [(zbp l p).map .d]⟩)], [(0, 0)], none, [(0, ⟨208, 2, [(zbp l p).map .d]⟩)], .d (.bool false)⟩)] (fun K hK => by simp [push_cast, c1]; (repeat refine ob ?_); exact hK) ?_;refine awp_cd false (fun hb => ?_) fun hb => ?_
   ·simp at hb
   ·refine rx cx [(1, .x ⟨[(0, 0)], [.ptr 0 0 0], [(0, ⟨208, 2, [(zbp l p).map .d]⟩)], [(0, 0)], none, [(0, ⟨208, 2, [(zbp l p).map .d]⟩)], .d (.bool false)⟩)] (fun K hK => by simp [push_cast, c2]; (repeat refine ob ?_); exact hK) ?_;refine awp_cd false (fun hb => ?_) fun hb => ?_
    ·simp at hb
    ·refine rd cx mixed [] (fun K hK => by simp [push_cast, hr, e1, e2, e3, e4, Run.row]; (repeat refine ob ?_); exact hK) ?_;first | refine znr [(0, 0)] ?_ | refine zns [(0, 0)] ?_
     simp [push_cast];try decide
theorem pass_ok (l : List Run) (p : Nat) (x : Int) (hl : l.length <= 1000000) (hp : p <= 2 * l.length) : PX Tryz.prog 170 [.ptr 0 0 0, .d (.int .i64 x)] [(0, ⟨208, 2, [(zbp l p).map .d]⟩)] [(0, 0)] [(0, ⟨208, 2, [(zbp l (swP l x p)).map .d]⟩)] (.tup []) := by
 have c1 := next_ok l p hl hp;have e0 := wI ((p : Int) + 1);have hs : swP l x p = if bnd l p = x then p + 1 else p := rfl
 generalize bnd l p = n at *;rw [hs];refine zbv cx (fn := Tryz.f170) (c := _) 1 Tryz.func170 rfl rfl (lB rfl) rfl rfl fun Ls => ?_;rw [Tryz.ntmps170]; refine Nav.imp ?_;refine rx cx [(1, .x ⟨[(0, 0)], [.ptr 0 0 0], [(0, ⟨208, 2, [(zbp l p).map .d]⟩)], [(0, 0)], none, [(0, ⟨208, 2, [(zbp l p).map .d]⟩)], .d (.int .i64 n)⟩)] (fun K hK => by simp [push_cast, c1]; (repeat refine ob ?_); exact hK) ?_;refine awp_cd (n == x) (fun hb => ?_) fun hb => ?_
 ·have hb : n = x := by simpa using hb
  rw [if_pos hb];refine rx cx [] (fun K hK => by simp [push_cast, e0]; (repeat refine ob ?_); exact hK) ?_;first | refine znr [(0, 0)] ?_ | refine zns [(0, 0)] ?_
  simp [push_cast];try decide
 ·have hb : ¬ n = x := by simpa using hb
  rw [if_neg hb];first | refine znr [(0, 0)] ?_ | refine zns [(0, 0)] ?_
  simp [push_cast];try decide

theorem swX_le {a b : List Run} (ha : zar a = true) (hb : zar b = true) {p q : Nat} (hp : p <= 2 * a.length) (hq : q <= 2 * b.length) (hn : ¬ (p = 2 * a.length /\ q = 2 * b.length)) :
  swP a (swX a b p q) p <= 2 * a.length /\ swP b (swX a b p q) q <= 2 * b.length /\ p + q + 1 <= swP a (swX a b p q) p + swP b (swX a b p q) q /\ p <= swP a (swX a b p q) p := by
 have x1 : swX a b p q <= bnd a p := Int.min_le_left _ _;have x2 : swX a b p q <= bnd b q := Int.min_le_right _ _;have x3 : swX a b p q = bnd a p \/ swX a b p q = bnd b q := by unfold swX; omega
 have hXb : swX a b p q <= 1048576 := by
  by_cases e : p < 2 * a.length
  ·have := zix ha e; omega
  ·have := zix hb (i := q) (by omega); omega
 have k1 : bnd a p = swX a b p q -> p < 2 * a.length := fun e => by
  apply Classical.byContradiction
  intro h;have h3 : bnd a p = 1048577 := by rw [show p = 2 * a.length from by omega]; exact zkw a
  omega
 have k2 : bnd b q = swX a b p q -> q < 2 * b.length := fun e => by
  apply Classical.byContradiction
  intro h;have h3 : bnd b q = 1048577 := by rw [show q = 2 * b.length from by omega]; exact zkw b
  omega
 unfold swP;refine ⟨?_, ?_, ?_, ?_⟩
 ·split
  ·rename_i e; have := k1 e; omega
  ·exact hp
 ·split
  ·rename_i e; have := k2 e; omega
  ·exact hq
 ·split <;> split <;> omega
 ·split <;> omega

set_option maxRecDepth 100000 in
set_option maxHeartbeats 4000000 in
theorem sweepc_ok (f : Bool -> Bool -> Bool) (g : FuncId) (hg : ∀ x y, PC Tryz.prog g [.bool x, .bool y] (.p (.bool (f x y)))) (a b : List Run) (hal : a.length <= 1000000) (hbl : b.length <= 1000000) (ha : zar a = true) (hb : zar b = true) :
  PC Tryz.prog 119 [zn a, zn b, .fn (.func g) []] (.p (zn (sweep f a b))) := by
 have c1 := zre a hal;have c2 := zre b hbl;rw [ha] at c1;rw [hb] at c2;have hres : sweep f a b = swF f a b (2 * a.length + 2 * b.length) 0 0 [] false := by simp [sweep, ha, hb]
 generalize sweep f a b = res at *;refine pw cx Tryz.func119 Tryz.ntmps119 ?_;refine rg cx ?_;refine rx cx [(1, .p (.bool true)), (5, .p (.bool true))] (fun K hK => by simp [push_cast, c1, c2]; (repeat refine ob ?_); exact hK) ?_;refine awp_cd false (fun hb => ?_) fun hb => ?_
 ·simp at hb
 ·clear hb;iterate 3 refine rg cx ?_
  refine zz (β := Nat × Nat × List Run × Bool) (fun s => ⟨78, [(2, .d (.fn (.func g) [])), (7, .ptr 0 0 0), (8, .ptr 1 0 0), (9, .hs 2 0 s.2.2.1.length), (10, .d (.bool s.2.2.2))], [(0, some ⟨208, 2, [(zbp a s.1).map .d]⟩), (1, some ⟨208, 2, [(zbp b s.2.1).map .d]⟩), (2, some ⟨85, 2, dr (s.2.2.1.map Run.row)⟩)], 3⟩)
   (fun s => s.1 <= 2 * a.length /\ s.2.1 <= 2 * b.length /\ (∃ n, 2 * a.length + 2 * b.length <= n + (s.1 + s.2.1) /\ swF f a b n s.1 s.2.1 s.2.2.1 s.2.2.2 = res) /\ (s.2.2.2 = true -> s.2.2.1 ≠ []) /\ s.2.2.1.length <= s.1 + s.2.1) (fun s => 2 * a.length + 2 * b.length - (s.1 + s.2.1)) (0, 0, [], false) ?_ ⟨Nat.zero_le _, Nat.zero_le _, ⟨_, by simp only; omega, hres.symm⟩, by simp, by simp⟩ ?_
  ·refine wk [(0, some 11), (1, some 14), (2, none)]
  ·rintro ⟨p, q, out, o⟩ ⟨hp, hq, ⟨n, hn, hsw⟩, hone, hol⟩;simp only at hp hq hn hsw hone hol;clear hres;have d1 := over_ok a p hal hp;have d2 := over_ok b q hbl hq;have d3 := next_ok a p hal hp;have d4 := next_ok b q hbl hq;refine Nav.imp ?_;by_cases hover : p = 2 * a.length /\ q = 2 * b.length
   ·rw [decide_eq_true hover.1] at d1;rw [decide_eq_true hover.2] at d2;have hre : res = out := by
     rw [<- hsw];cases n with
     | zero => rfl
     | succ n => unfold swF; rw [if_pos hover]
    rw [hre];refine rx cx [(1, .x ⟨[(0, 0)], [.ptr 0 0 0], [(0, ⟨208, 2, [(zbp a p).map .d]⟩)], [(0, 0)], none, [(0, ⟨208, 2, [(zbp a p).map .d]⟩)], .d (.bool true)⟩), (5, .x ⟨[(0, 1)], [.ptr 0 0 0], [(0, ⟨208, 2, [(zbp b q).map .d]⟩)], [(0, 0)], none, [(0, ⟨208, 2, [(zbp b q).map .d]⟩)], .d (.bool true)⟩)] (fun K hK => by simp [push_cast, d1, d2]; (repeat refine ob ?_); exact hK) ?_;refine awp_cd false (fun hb => ?_) fun hb => ?_
    ·simp at hb
    ·refine rg cx ?_;have ht : List.take out.length (out.map Run.row) = out.map Run.row := List.take_of_length_le (by simp);simp [push_cast, ht]
   ·apply cut_
    ·intro key;by_cases hpo : p = 2 * a.length
     ·have hqo : ¬ q = 2 * b.length := fun e => hover ⟨hpo, e⟩;rw [decide_eq_true hpo] at d1;rw [decide_eq_false hqo] at d2;refine rx cx [(1, .x ⟨[(0, 0)], [.ptr 0 0 0], [(0, ⟨208, 2, [(zbp a p).map .d]⟩)], [(0, 0)], none, [(0, ⟨208, 2, [(zbp a p).map .d]⟩)], .d (.bool true)⟩), (5, .x ⟨[(0, 1)], [.ptr 0 0 0], [(0, ⟨208, 2, [(zbp b q).map .d]⟩)], [(0, 0)], none, [(0, ⟨208, 2, [(zbp b q).map .d]⟩)], .d (.bool false)⟩)] (fun K hK => by simp [push_cast, d1, d2]; (repeat refine ob ?_); exact hK) ?_;refine awp_cd true (fun hb => ?_) fun hb => ?_
      ·refine zby (s' := ⟨78, [(2, .d (.fn (.func g) [])), (7, .ptr 0 0 0), (8, .ptr 1 0 0), (9, .hs 2 0 out.length), (10, .d (.bool o))], [(0, some ⟨208, 2, [(zbp a p).map .d]⟩), (1, some ⟨208, 2, [(zbp b q).map .d]⟩), (2, some ⟨85, 2, dr (out.map Run.row)⟩)], 3⟩) ?_ key.h;refine wk [(0, some 0), (1, some 1), (2, some 2)]
      ·simp at hb
     ·rw [decide_eq_false hpo] at d1;refine rx cx [(1, .x ⟨[(0, 0)], [.ptr 0 0 0], [(0, ⟨208, 2, [(zbp a p).map .d]⟩)], [(0, 0)], none, [(0, ⟨208, 2, [(zbp a p).map .d]⟩)], .d (.bool false)⟩), (5, .skip)] (fun K hK => by simp [push_cast, d1]; (repeat refine ob ?_); exact hK) ?_;refine awp_cd true (fun hb => ?_) fun hb => ?_
      ·refine zby (s' := ⟨78, [(2, .d (.fn (.func g) [])), (7, .ptr 0 0 0), (8, .ptr 1 0 0), (9, .hs 2 0 out.length), (10, .d (.bool o))], [(0, some ⟨208, 2, [(zbp a p).map .d]⟩), (1, some ⟨208, 2, [(zbp b q).map .d]⟩), (2, some ⟨85, 2, dr (out.map Run.row)⟩)], 3⟩) ?_ key.h;refine wk [(0, some 0), (1, some 1), (2, some 2)]
      ·simp at hb
    ·obtain ⟨n, rfl⟩ : ∃ m, n = m + 1 := ⟨n - 1, by omega⟩
     obtain ⟨y1, y2, y3, y4⟩ := swX_le ha hb hp hq hover;unfold swF at hsw;rw [if_neg hover] at hsw;have hx : swX a b p q = min (bnd a p) (bnd b q) := rfl;have d5 := pass_ok a p (swX a b p q) hal hp;have d6 := pass_ok b q (swX a b p q) hbl hq;have d7 := inside_ok a (swP a (swX a b p q) p) hal y1;have d8 := inside_ok b (swP b (swX a b p q) q) hbl y2;have d9 := hg (swP a (swX a b p q) p % 2 == 1) (swP b (swX a b p q) q % 2 == 1);generalize swP a (swX a b p q) p = p' at *;generalize swP b (swX a b p q) q = q' at *;generalize swX a b p q = x at *;generalize bnd a p = ba at *;generalize bnd b q = bb at *;generalize (p' % 2 == 1) = i1 at *;generalize (q' % 2 == 1) = i2 at *;generalize f i1 i2 = now at *;refine Nav.imp ?_;refine rx cx [(1, .x ⟨[(0, 0)], [.ptr 0 0 0], [(0, ⟨208, 2, [(zbp a p).map .d]⟩)], [(0, 0)], none, [(0, ⟨208, 2, [(zbp a p).map .d]⟩)], .d (.int .i64 ba)⟩), (3, .x ⟨[(0, 1)], [.ptr 0 0 0], [(0, ⟨208, 2, [(zbp b q).map .d]⟩)], [(0, 0)], none, [(0, ⟨208, 2, [(zbp b q).map .d]⟩)], .d (.int .i64 bb)⟩)] (fun K hK => by simp [push_cast, d3, d4]; (repeat refine ob ?_); exact hK) ?_;rw [<- hx];refine rx cx [(2, .x ⟨[(0, 0)], [.ptr 0 0 0, .d (.int .i64 x)], [(0, ⟨208, 2, [(zbp a p).map .d]⟩)], [(0, 0)], none, [(0, ⟨208, 2, [(zbp a p').map .d]⟩)], .tup []⟩)] (fun K hK => by simp [push_cast, d5]; (repeat refine ob ?_); exact hK) ?_;refine rx cx [(2, .x ⟨[(0, 1)], [.ptr 0 0 0, .d (.int .i64 x)], [(0, ⟨208, 2, [(zbp b q).map .d]⟩)], [(0, 0)], none, [(0, ⟨208, 2, [(zbp b q').map .d]⟩)], .tup []⟩)] (fun K hK => by simp [push_cast, d6]; (repeat refine ob ?_); exact hK) ?_;refine rx cx [(2, .x ⟨[(0, 0)], [.ptr 0 0 0], [(0, ⟨208, 2, [(zbp a p').map .d]⟩)], [(0, 0)], none, [(0, ⟨208, 2, [(zbp a p').map .d]⟩)], .d (.bool i1)⟩), (4, .x ⟨[(0, 1)], [.ptr 0 0 0], [(0, ⟨208, 2, [(zbp b q').map .d]⟩)], [(0, 0)], none, [(0, ⟨208, 2, [(zbp b q').map .d]⟩)], .d (.bool i2)⟩), (5, .p (.bool now))] (fun K hK => by simp [push_cast, d7, d8, d9]; (repeat refine ob ?_); exact hK) ?_;clear d1 d2 d3 d4 d5 d6 d7 d8 d9 c1 c2;have ho16 : (out.length + 1) * 16 <= 140737488355328 := by omega
     cases now with
     | true =>
      cases o with
      | false =>
       have hso : zji true false out x = out ++ [⟨x, 0⟩] := by simp [zji]
       rw [hso] at hsw;refine rg cx ?_;refine awp_cd true (fun hb => ?_) fun hb => ?_
       ·refine rx cx [] (fun K hK => by simp [push_cast, ho16]; (repeat refine ob ?_); exact hK) ?_;refine rg cx ?_;refine ⟨(p', q', out ++ [⟨x, 0⟩], true), ⟨y1, y2, ⟨n, by simp only; omega, hsw⟩, by simp, by simp; omega⟩, by simp only; omega, ?_⟩;refine wq [(0, some 0), (1, some 1), (2, some 32)] (by simp [upT, upH, upR, upL, up, push_cast, Run.row])
       ·simp at hb
      | true =>
       have hso : zji true true out x = out := by simp [zji]
       rw [hso] at hsw;refine rg cx ?_;refine awp_cd false (fun hb => ?_) fun hb => ?_
       ·simp at hb
       ·refine rg cx ?_;refine awp_cd false (fun hb => ?_) fun hb => ?_
        ·simp at hb
        ·refine rg cx ?_;refine ⟨(p', q', out, true), ⟨y1, y2, ⟨n, by simp only; omega, hsw⟩, hone, by simp only; omega⟩, by simp only; omega, ?_⟩;refine wq [(0, some 0), (1, some 1), (2, some 2)] (by simp [upT, upH, upR, upL, up, push_cast, Run.row])
     | false =>
      cases o with
      | false =>
       have hso : zji false false out x = out := by simp [zji]
       rw [hso] at hsw;refine rg cx ?_;refine awp_cd false (fun hb => ?_) fun hb => ?_
       ·simp at hb
       ·refine rg cx ?_;refine awp_cd false (fun hb => ?_) fun hb => ?_
        ·simp at hb
        ·refine rg cx ?_;refine ⟨(p', q', out, false), ⟨y1, y2, ⟨n, by simp only; omega, hsw⟩, by simp, by simp only; omega⟩, by simp only; omega, ?_⟩;refine wq [(0, some 0), (1, some 1), (2, some 2)] (by simp [upT, upH, upR, upL, up, push_cast, Run.row])
      | true =>
       obtain ⟨L, r, rfl⟩ : ∃ L r, out = L ++ [r] := by
        rcases List.eq_nil_or_concat out with e | ⟨L, r, e⟩
        ·exact absurd e (hone rfl)
        ·exact ⟨L, r, by rw [e, List.concat_eq_append]⟩
       obtain ⟨ra, rb⟩ := r;have hso : zji false true (L ++ [⟨ra, rb⟩]) x = L ++ [⟨ra, x⟩] := by simp [zji]
       rw [hso] at hsw;have hz : (L ++ [(⟨ra, rb⟩ : Run)])[L.length]? = some ⟨ra, rb⟩ := by simp
       have hlen : (L ++ [(⟨ra, rb⟩ : Run)]).length = L.length + 1 := by simp
       have hset : (dr ((L ++ [(⟨ra, rb⟩ : Run)]).map Run.row)).set L.length [AV.d (.int .i64 ra), AV.d (.int .i64 x)] = dr ((L ++ [(⟨ra, x⟩ : Run)]).map Run.row) := by simp [dr, Run.row]
       have hlen2 : (L ++ [(⟨ra, x⟩ : Run)]).length = (L ++ [(⟨ra, rb⟩ : Run)]).length := by simp
       have hne : L ++ [(⟨ra, x⟩ : Run)] ≠ [] := by simp
       generalize L ++ [(⟨ra, x⟩ : Run)] = C at *;generalize L ++ [(⟨ra, rb⟩ : Run)] = B at *;have e7 := wI ((B.length : Int) - 1);have e8 : ((B.length : Int) - 1).toNat = L.length := by omega
       have e9 : (0 : Int) <= (B.length : Int) - 1 := by omega
       refine rg cx ?_;refine awp_cd false (fun hb => ?_) fun hb => ?_
       ·simp at hb
       ·refine rg cx ?_;refine awp_cd true (fun hb => ?_) fun hb => ?_
        ·refine rx cx [] (fun K hK => by simp [push_cast, hz, e7, e8, e9, hset, Run.row]; (repeat refine ob ?_); exact hK) ?_;refine rg cx ?_;rw [<- hlen2];refine ⟨(p', q', C, false), ⟨y1, y2, ⟨n, by simp only; omega, hsw⟩, by simp, by simp only; omega⟩, by simp only; omega, ?_⟩;refine wq [(0, some 0), (1, some 1), (2, some 2)] (by simp [upT, upH, upR, upL, up, push_cast, Run.row])
        ·simp at hb

def fU (x y : Bool) : Bool := x || y
def fI (x y : Bool) : Bool := x && y
def fD (x y : Bool) : Bool := x && !y
theorem keepU (x y : Bool) : PC Tryz.prog 124 [.bool x, .bool y] (.p (.bool (fU x y))) := by
 refine pw cx Tryz.func124 Tryz.ntmps124 ?_;refine rg cx ?_;cases x <;> cases y
 ·refine rg cx ?_;simp [push_cast, fU]
 ·refine rg cx ?_;simp [push_cast, fU]
 ·refine rg cx ?_;simp [push_cast, fU]
 ·refine rg cx ?_;simp [push_cast, fU]
theorem keepI (x y : Bool) : PC Tryz.prog 182 [.bool x, .bool y] (.p (.bool (fI x y))) := by
 refine pw cx Tryz.func182 Tryz.ntmps182 ?_;refine rg cx ?_;cases x <;> cases y
 ·refine rg cx ?_;simp [push_cast, fI]
 ·refine rg cx ?_;simp [push_cast, fI]
 ·refine rg cx ?_;simp [push_cast, fI]
 ·refine rg cx ?_;simp [push_cast, fI]
theorem keepD (x y : Bool) : PC Tryz.prog 120 [.bool x, .bool y] (.p (.bool (fD x y))) := by
 refine pw cx Tryz.func120 Tryz.ntmps120 ?_;refine rg cx ?_;cases x <;> cases y
 ·refine rg cx ?_;simp [push_cast, fD]
 ·refine rg cx ?_;simp [push_cast, fD]
 ·refine rg cx ?_;simp [push_cast, fD]
 ·refine rg cx ?_;simp [push_cast, fD]
theorem union_ok (a b : List Run) (hal : a.length <= 1000000) (hbl : b.length <= 1000000) (ha : zar a = true) (hb : zar b = true) : PC Tryz.prog 62 [zn a, zn b] (.p (zn (sweep fU a b))) := by
 have c1 := sweepc_ok fU 124 keepU a b hal hbl ha hb;generalize sweep fU a b = r at *;refine pw cx Tryz.func62 Tryz.ntmps62 ?_;refine rg cx ?_;refine rx cx [(2, .p (zn r))] (fun K hK => by simp [push_cast, c1]; (repeat refine ob ?_); exact hK) ?_;simp [push_cast]
theorem intersect_ok (a b : List Run) (hal : a.length <= 1000000) (hbl : b.length <= 1000000) (ha : zar a = true) (hb : zar b = true) : PC Tryz.prog 128 [zn a, zn b] (.p (zn (sweep fI a b))) := by
 have c1 := sweepc_ok fI 182 keepI a b hal hbl ha hb;generalize sweep fI a b = r at *;refine pw cx Tryz.func128 Tryz.ntmps128 ?_;refine rg cx ?_;refine rx cx [(2, .p (zn r))] (fun K hK => by simp [push_cast, c1]; (repeat refine ob ?_); exact hK) ?_;simp [push_cast]
theorem zpk (a b : List Run) (hal : a.length <= 1000000) (hbl : b.length <= 1000000) (ha : zar a = true) (hb : zar b = true) : PC Tryz.prog 56 [zn a, zn b] (.p (zn (sweep fD a b))) := by
 have c1 := sweepc_ok fD 120 keepD a b hal hbl ha hb;generalize sweep fD a b = r at *;refine pw cx Tryz.func56 Tryz.ntmps56 ?_;refine rg cx ?_;refine rx cx [(2, .p (zn r))] (fun K hK => by simp [push_cast, c1]; (repeat refine ob ?_); exact hK) ?_;simp [push_cast]
end Go.Proofs.YtdddknniooimmaaGreat
