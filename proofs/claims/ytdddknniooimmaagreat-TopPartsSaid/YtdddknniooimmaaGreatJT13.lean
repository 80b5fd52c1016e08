/-
  Texts of this seat put together: A12, A13, A14, A15, A16, A17, TP1, TP3.
-/
import Derived.Test.YtdddknniooimmaaGreatJT12
import Derived.Test.YtdddknniooimmaaGreatJT11
set_option linter.unusedVariables false
set_option linter.unusedSimpArgs false
set_option maxRecDepth 100000
namespace Go.Proofs.YtdddknniooimmaaGreat
open Go.Abs Go.ChangeShapes Go.WideShapes Go.ChangeAt Go.RowKit

theorem box_mem {R : List Row} (hv : zo R = true) {c : zf} (hc : c ∈ zl R) : zbd R <= c.x /\ c.x <= zbe R /\ zbv R <= c.y /\ c.y <= zdl R := by
 obtain ⟨w, hw, hy, r, hr, h1, h2⟩ := zdk.1 hc;have q1 := zso hv hw;have q2 := (zig (zbs hv hw).2).1 r hr;have q3 : zbd R <= zlm w := (zpo zlm R 4096).2.1 w hw;have q4 : zkk w - 1 <= zbe R := (zpp (fun w => zkk w - 1) R (-4096)).2.1 w hw;omega

end Go.Proofs.YtdddknniooimmaaGreat

namespace Go.Proofs.YtdddknniooimmaaGreat
open Go.Abs

section
variable {l : List zf} {adj : zf -> zf -> Bool}
theorem adjS {t : Bool} : ∀ x y, zao t x y = true -> zao t y x = true := fun _ _ => adjR_symm
theorem zvy {g : List zf} (hg : g ∈ zeb l adj) : ∃ h ∈ l, zbi l adj h h /\ g = cls l adj h l /\ h ∈ g := by
 obtain ⟨h, hh, rfl⟩ := List.mem_map.1 hg;have hl := hdS_in hh;exact ⟨h, hl, .refl hl, rfl, zfr.2 ⟨hl, .refl hl⟩⟩
theorem zpk (hsym : ∀ x y, adj x y = true -> adj y x = true) {i j : Nat} {g g' : List zf} (hi : (zeb l adj)[i]? = some g) (hj : (zeb l adj)[j]? = some g') (hne : i ≠ j) {x y : zf} (hx : x ∈ g) (hy : y ∈ g') : ¬ zbi l adj x y := by
 intro hc;simp only [zeb, List.getElem?_map, Option.map_eq_some_iff] at hi hj;obtain ⟨a, ha, rfl⟩ := hi;obtain ⟨b, hb, rfl⟩ := hj;have h1 := (zfr.1 hx).2;have h2 := (zfr.1 hy).2;exact hne (zvw hsym ha hb (h1.trans hc) h2)
theorem zue {x : zf} (hx : x ∈ l) : ∃ g ∈ zeb l adj, x ∈ g := by
 obtain ⟨h, hh, hc⟩ := znq (adj := adj) l.length (Nat.le_refl _) x (by rw [List.take_length]; exact hx);exact ⟨_, List.mem_map.2 ⟨h, hh, rfl⟩, zfr.2 ⟨hx, hc⟩⟩
end
theorem ofR_mem {g : List zf} (hp : g.Pairwise ltY) (hon : ∀ c ∈ g, onG c = true) : zo (ofR g) = true /\ zl (ofR g) = g := by
 obtain ⟨h1, h2, _⟩ := of_set (zno hp) hon;exact ⟨h1, ltY_uniq (zhv h1) hp h2⟩
theorem zwr {R : List Row} (hv : zo R = true) {i : Nat} {P : List Row} (h : (zaz R)[i]? = some P) : ∃ g, (zeb (zl R) (zao false))[i]? = some g /\ P = ofR g /\ zo P = true /\ zl P = g := by
 have hcl : cellsOf R = zl R := by unfold cellsOf; rw [if_pos hv]
 unfold zaz at h;rw [hcl, List.getElem?_map, Option.map_eq_some_iff] at h;obtain ⟨g, hg, rfl⟩ := h;have hgm := List.mem_of_getElem? hg;have hsub : ∀ c ∈ g, onG c = true := fun c hc => by
  obtain ⟨_, _, _, rfl, _⟩ := zvy hgm;exact cells_on hv (zfr.1 hc).1
 obtain ⟨h1, h2⟩ := ofR_mem (grps_pw (zhv hv) hgm) hsub;exact ⟨g, hg, rfl, h1, h2⟩
theorem zpm : ∀ (L : List (List Row)) (F : List Row), (∀ P ∈ L, zo P = true) -> zo F = true -> zo (L.foldl (opR fU) F) = true /\ ∀ c, c ∈ zl (L.foldl (opR fU) F) ↔ c ∈ zl F \/ ∃ P ∈ L, c ∈ zl P
 | [], F, _, hF => ⟨hF, fun c => by simp⟩
 | P :: L, F, hL, hF => by
  have hP := hL P (by simp);obtain ⟨h1, h2⟩ := zpm L (opR fU F P) (fun Q hQ => hL Q (by simp [hQ])) (zpa (f := fU) rfl _ _);refine ⟨h1, fun c => ?_⟩;rw [List.foldl_cons, h2, opU_iff hF hP];simp only [List.mem_cons, exists_eq_or_imp, or_assoc]
end Go.Proofs.YtdddknniooimmaaGreat

namespace Go.Proofs.YtdddknniooimmaaGreat
open Go.Abs Go.ChangeShapes Go.WideShapes Go.ChangeAt Go.RowKit



end Go.Proofs.YtdddknniooimmaaGreat

namespace Go.Proofs.YtdddknniooimmaaGreat
open Go.Abs

theorem zgr {R : List Row} {c : zf} (hv : zo R = true) (h0 : 0 < R.length) : c ∈ zag R ↔ (zbd R - 1 <= c.x /\ c.x <= zbe R + 1) /\ (zbv R - 1 <= c.y /\ c.y <= zdl R + 1) /\ c ∉ zl R := by
 have hb := zew hv h0;unfold zag frYs frXs zio;simp only [List.mem_flatMap, List.mem_map, List.mem_filter, zuq];constructor
 ·rintro ⟨y, hy, x, ⟨hx, hc⟩, rfl⟩;rw [conB_mem hv] at hc;refine ⟨by simp only; omega, by simp only; omega, by simpa using hc⟩
 ·rintro ⟨h1, h2, h3⟩;refine ⟨c.y, by omega, c.x, ⟨by omega, ?_⟩, rfl⟩;rw [conB_mem hv];simpa using h3
section
variable {R : List Row} (hv : zo R = true) (h0 : 0 < R.length)
include hv h0
def org (R : List Row) : zf := ⟨zbd R - 1, zbv R - 1⟩
theorem zlf {c : zf} (h1 : zbd R - 1 <= c.x /\ c.x <= zbe R + 1) (h2 : zbv R - 1 <= c.y /\ c.y <= zdl R + 1) (h3 : c.x < zbd R \/ zbe R < c.x \/ c.y < zbv R \/ zdl R < c.y) : c ∈ zag R :=
 (zgr hv h0).2 ⟨h1, h2, fun hc => by have := box_mem hv hc; omega⟩
theorem conn_top : ∀ j : Nat, zbd R - 1 + (j : Int) <= zbe R + 1 -> zbi (zag R) (zao true) (org R) ⟨zbd R - 1 + j, zbv R - 1⟩
 | 0, _ => by
  have hb := zew hv h0;have : (⟨zbd R - 1 + ((0 : Nat) : Int), zbv R - 1⟩ : zf) = org R := by simp [org]
  rw [this];exact .refl (zlf hv h0 (by simp only [org]; omega) (by simp only [org]; omega) (by simp only [org]; omega))
 | j + 1, h => by
  have hb := zew hv h0;refine .step (conn_top j (by omega)) (zlf hv h0 (by simp only; omega) (by simp only; omega) (by simp only; omega)) ?_;simp [zao]; omega
theorem conn_left : ∀ j : Nat, zbv R - 1 + (j : Int) <= zdl R + 1 -> zbi (zag R) (zao true) (org R) ⟨zbd R - 1, zbv R - 1 + j⟩
 | 0, _ => by
  have hb := zew hv h0;have : (⟨zbd R - 1, zbv R - 1 + ((0 : Nat) : Int)⟩ : zf) = org R := by simp [org]
  rw [this];exact .refl (zlf hv h0 (by simp only [org]; omega) (by simp only [org]; omega) (by simp only [org]; omega))
 | j + 1, h => by
  have hb := zew hv h0;refine .step (conn_left j (by omega)) (zlf hv h0 (by simp only; omega) (by simp only; omega) (by simp only; omega)) ?_;simp [zao]; omega
theorem conn_right : ∀ j : Nat, zbv R - 1 + (j : Int) <= zdl R + 1 -> zbi (zag R) (zao true) (org R) ⟨zbe R + 1, zbv R - 1 + j⟩
 | 0, _ => by
  have hb := zew hv h0;have := conn_top hv h0 (zbe R - zbd R + 2).toNat (by omega);rw [show zbd R - 1 + ((zbe R - zbd R + 2).toNat : Int) = zbe R + 1 by omega] at this;simpa using this
 | j + 1, h => by
  have hb := zew hv h0;refine .step (conn_right j (by omega)) (zlf hv h0 (by simp only; omega) (by simp only; omega) (by simp only; omega)) ?_;simp [zao]; omega
theorem conn_bot : ∀ j : Nat, zbd R - 1 + (j : Int) <= zbe R + 1 -> zbi (zag R) (zao true) (org R) ⟨zbd R - 1 + j, zdl R + 1⟩
 | 0, _ => by
  have hb := zew hv h0;have := conn_left hv h0 (zdl R - zbv R + 2).toNat (by omega);rw [show zbv R - 1 + ((zdl R - zbv R + 2).toNat : Int) = zdl R + 1 by omega] at this;simpa using this
 | j + 1, h => by
  have hb := zew hv h0;refine .step (conn_bot j (by omega)) (zlf hv h0 (by simp only; omega) (by simp only; omega) (by simp only; omega)) ?_;simp [zao]; omega
theorem zjh {c : zf} (h1 : zbd R - 1 <= c.x /\ c.x <= zbe R + 1) (h2 : zbv R - 1 <= c.y /\ c.y <= zdl R + 1) (h3 : c.x < zbd R \/ zbe R < c.x \/ c.y < zbv R \/ zdl R < c.y) : zbi (zag R) (zao true) (org R) c := by
 obtain ⟨x, y⟩ := c;simp only at h1 h2 h3;rcases h3 with h3 | h3 | h3 | h3
 ·have := conn_left hv h0 (y - zbv R + 1).toNat (by omega)
  rwa [show zbv R - 1 + ((y - zbv R + 1).toNat : Int) = y by omega, show zbd R - 1 = x by omega] at this
 ·have := conn_right hv h0 (y - zbv R + 1).toNat (by omega)
  rwa [show zbv R - 1 + ((y - zbv R + 1).toNat : Int) = y by omega, show zbe R + 1 = x by omega] at this
 ·have := conn_top hv h0 (x - zbd R + 1).toNat (by omega)
  rwa [show zbd R - 1 + ((x - zbd R + 1).toNat : Int) = x by omega, show zbv R - 1 = y by omega] at this
 ·have := conn_bot hv h0 (x - zbd R + 1).toNat (by omega)
  rwa [show zbd R - 1 + ((x - zbd R + 1).toNat : Int) = x by omega, show zdl R + 1 = y by omega] at this
theorem zer : (zag R)[0]? = some (org R) := by
 have hb := zew hv h0;have hm : org R ∈ zag R := zlf hv h0 (by simp only [org]; omega) (by simp only [org]; omega) (by simp only [org]; omega);have hp := free_pw R;cases hl : zag R with
 | nil => rw [hl] at hm; simp at hm
 | cons c m =>
  rw [hl] at hm hp;simp only [List.getElem?_cons_zero];rcases List.mem_cons.1 hm with e | hm
  ·rw [e]
  ·exfalso
   have h1 := (List.pairwise_cons.1 hp).1 _ hm;have hc : c ∈ zag R := by rw [hl]; simp
   have h2 := (zgr hv h0).1 hc;rcases h1 with h1 | ⟨h1, h3⟩ <;> simp only [org] at h1 <;> (try simp only [org] at h3) <;> omega
end
theorem zpj {l : List zf} {adj : zf -> zf -> Bool} {c : zf} (hc : l[0]? = some c) : (zeb l adj)[0]? = some (cls l adj c l) := by
 have key : ∀ k, (hdS l adj (k + 1))[0]? = some c := by
  intro k;induction k with
  | zero =>
   rcases zgp (adj := adj) hc with ⟨⟨x, hx, _⟩, _⟩ | ⟨_, e⟩
   ·simp [hdS] at hx
   ·rw [e]; simp [hdS]
  | succ k ih =>
   cases hk : l[k + 1]? with
   | none =>
    have e : hdS l adj (k + 1 + 1) = hdS l adj (k + 1) := by simp only [hdS, hk]
    rw [e]; exact ih
   | some x =>
    rcases zgp (adj := adj) hk with ⟨_, e⟩ | ⟨_, e⟩
    ·rw [e]; exact ih
    ·rw [e, List.getElem?_append_left (List.getElem?_eq_some_iff.1 ih).1]; exact ih
 have hl : 0 < l.length := (List.getElem?_eq_some_iff.1 hc).1;have := key (l.length - 1);rw [show l.length - 1 + 1 = l.length by omega] at this;simp only [zeb, List.getElem?_map, this, Option.map_some]
theorem hole_get {R : List Row} (hv : zo R = true) (h0 : 0 < R.length) {i : Nat} {P : List Row} (h : (zcf R)[i]? = some P) : ∃ g, (zeb (zag R) (zao true))[i + 1]? = some g /\ zo P = true /\ zl P = g /\ ∀ c ∈ g, c ∈ zag R /\ ¬ zbi (zag R) (zao true) (org R) c /\ (zbd R <= c.x /\ c.x <= zbe R) /\ zbv R <= c.y /\ c.y <= zdl R := by
 have hs : some? R = true := by simp [some?, hv, h0]
 unfold zcf at h;rw [if_pos hs, List.getElem?_map, List.getElem?_drop, Option.map_eq_some_iff] at h;obtain ⟨g, hg, rfl⟩ := h;rw [Nat.add_comm] at hg;have hgm := List.mem_of_getElem? hg;have hb := zew hv h0;have hfirst := zpj (adj := zao true) (zer hv h0);have horg : org R ∈ cls (zag R) (zao true) (org R) (zag R) := zfr.2 ⟨List.mem_of_getElem? (zer hv h0), .refl (List.mem_of_getElem? (zer hv h0))⟩;have hin : ∀ c ∈ g, c ∈ zag R /\ ¬ zbi (zag R) (zao true) (org R) c /\ (zbd R <= c.x /\ c.x <= zbe R) /\ zbv R <= c.y /\ c.y <= zdl R := fun c hc => by
  have h1 : c ∈ zag R := by
   obtain ⟨_, _, _, rfl, _⟩ := zvy hgm;exact (zfr.1 hc).1
  have h2 : ¬ zbi (zag R) (zao true) (org R) c := zpk adjS hfirst hg (by omega) horg hc;have h3 := (zgr hv h0).1 h1;refine ⟨h1, h2, ?_, ?_⟩
  ·constructor
   ·apply Int.not_lt.1; intro q; exact h2 (zjh hv h0 h3.1 h3.2.1 (.inl q))
   ·apply Int.not_lt.1; intro q; exact h2 (zjh hv h0 h3.1 h3.2.1 (.inr (.inl q)))
  ·constructor
   ·apply Int.not_lt.1; intro q; exact h2 (zjh hv h0 h3.1 h3.2.1 (.inr (.inr (.inl q))))
   ·apply Int.not_lt.1; intro q; exact h2 (zjh hv h0 h3.1 h3.2.1 (.inr (.inr (.inr q))))
 obtain ⟨h1, h2⟩ := ofR_mem (grps_pw (free_pw R) hgm) fun c hc => by
  have := hin c hc;simp [onG]; omega
 exact ⟨g, hg, h1, h2, hin⟩
theorem hole_cover {R : List Row} (hv : zo R = true) (h0 : 0 < R.length) {c : zf} (hc : c ∈ zag R) (hn : ¬ zbi (zag R) (zao true) (org R) c) : ∃ P ∈ zcf R, c ∈ zl P := by
 have hs : some? R = true := by simp [some?, hv, h0]
 obtain ⟨g, hg, hm⟩ := zue (adj := zao true) hc;obtain ⟨i, hi⟩ := List.mem_iff_getElem?.1 hg;have hfirst := zpj (adj := zao true) (zer hv h0);cases i with
 | zero =>
  rw [hfirst] at hi;cases hi;exact absurd (zfr.1 hm).2 hn
 | succ i =>
  have hP : (zcf R)[i]? = some (ofR g) := by
   unfold zcf;rw [if_pos hs, List.getElem?_map, List.getElem?_drop, Nat.add_comm, hi]; rfl
  obtain ⟨g', hg', _, h4, _⟩ := hole_get hv h0 hP;rw [hi] at hg';cases hg';exact ⟨ofR g, List.mem_of_getElem? hP, by rw [h4]; exact hm⟩
theorem zwe {R : List Row} (hv : zo R = true) (h0 : 0 < R.length) : zo (zcq R) = true /\ ∀ c, c ∈ zl (zcq R) ↔ c ∈ zl R \/ (c ∈ zag R /\ ¬ zbi (zag R) (zao true) (org R) c) := by
 have hH : ∀ P ∈ zcf R, zo P = true := fun P hP => zhh P hP;have hF0 : zo (opR fU R []) = true := zpa (f := fU) rfl _ _;obtain ⟨h1, h2⟩ := zpm (zcf R) (opR fU R []) hH hF0;have e : zcq R = (zcf R).foldl (opR fU) (opR fU R []) := by unfold zcq; rw [if_pos hv]
 rw [e];refine ⟨h1, fun c => ?_⟩;rw [h2, opU_iff hv rfl];constructor
 ·rintro ((h | h) | ⟨P, hP, h⟩)
  ·exact .inl h
  ·simp [zl] at h
  ·obtain ⟨i, hi⟩ := List.mem_iff_getElem?.1 hP;obtain ⟨g, _, _, h4, h5⟩ := hole_get hv h0 hi;rw [h4] at h;exact .inr ⟨(h5 c h).1, (h5 c h).2.1⟩
 ·rintro (h | ⟨h3, h4⟩)
  ·exact .inl (.inl h)
  ·exact .inr (hole_cover hv h0 h3 h4)
theorem row_cells {R : List Row} (hv : zo R = true) {w : Row} (hw : w ∈ R) : (⟨zlm w, w.y⟩ : zf) ∈ zl R /\ (⟨zkk w - 1, w.y⟩ : zf) ∈ zl R := by
 obtain ⟨f, z, hf, hz, hf1, hz1, hl⟩ := znu (zbs hv hw).2;have e1 : zlm w = f.a := by simp [zlm, hf]
 have e2 : zkk w = z.b := by simp [zkk, hz]
 rw [e1, e2];exact ⟨zdk.2 ⟨w, hw, rfl, f, List.mem_of_getElem? hf, by simp, by simp only; omega⟩, zdk.2 ⟨w, hw, rfl, z, List.mem_of_getElem? hz, by simp only; omega, by simp only; omega⟩⟩
theorem count_valid {R : List Row} (hv : zo R = true) : zke R = (zl R).length := by unfold zke; rw [if_pos hv]
end Go.Proofs.YtdddknniooimmaaGreat

namespace Go.Proofs.YtdddknniooimmaaGreat
open Go.Abs


theorem zlk {α : Type} [DecidableEq α] : ∀ {l m : List α}, l.Nodup -> (∀ x ∈ l, x ∈ m) -> l.length <= m.length
 | [], m, _, _ => Nat.zero_le _
 | a :: l, m, hn, hs => by
  obtain ⟨h1, h2⟩ := List.nodup_cons.1 hn;have ha := hs a (by simp);have := zlk (l := l) (m := m.erase a) h2 fun x hx => by
   have hne : x ≠ a := fun e => h1 (e ▸ hx);exact (List.mem_erase_of_ne hne).2 (hs x (by simp [hx]))
  rw [List.length_erase_of_mem ha] at this;have hp := List.length_pos_of_mem ha;simp only [List.length_cons];omega
theorem comps_le {l m : List zf} {adj : zf -> zf -> Bool} (hsym : ∀ x y, adj x y = true -> adj y x = true) (hsub : ∀ x ∈ l, x ∈ m) (hreach : ∀ y ∈ m, ∃ x ∈ l, zbi m adj x y) : (zeb m adj).length <= (zeb l adj).length := by
 have hg : ∀ l : List zf, (zeb l adj).length = (hdS l adj l.length).length := fun l => by simp [zeb]
 rw [hg, hg];have hf : ∀ h : zf, ∃ g : zf, h ∈ hdS m adj m.length -> g ∈ hdS l adj l.length /\ zbi m adj g h := fun h => by
  by_cases hh : h ∈ hdS m adj m.length
  ·obtain ⟨x, hx, hc⟩ := hreach h (hdS_in hh);obtain ⟨g, hg, hc2⟩ := znq (adj := adj) l.length (Nat.le_refl _) x (by rw [List.take_length]; exact hx);exact ⟨g, fun _ => ⟨hg, (hc2.mono hsub).trans hc⟩⟩
  ·exact ⟨h, fun h2 => absurd h2 hh⟩
 have hfs := fun h => Classical.choose_spec (hf h);generalize hF : (fun h => Classical.choose (hf h)) = f at *;have hfs : ∀ h, h ∈ hdS m adj m.length -> f h ∈ hdS l adj l.length /\ zbi m adj (f h) h := fun h => by
  rw [<- hF]; exact hfs h
 have hle := zlk (l := (hdS m adj m.length).map f) (m := hdS l adj l.length) (by
  unfold List.Nodup;rw [List.pairwise_map];refine List.Pairwise.imp_of_mem (fun {a b} ha hb h e => ?_) (hdS_pw hsym m.length);have h1 := (hfs a ha).2;have h2 := (hfs b hb).2;rw [<- e] at h2;exact h ((h1.symm hsym).trans h2)) fun x hx => by
   obtain ⟨h, hh, rfl⟩ := List.mem_map.1 hx;exact (hfs h hh).1
 rwa [List.length_map] at hle
theorem zoc {R : List Row} (hv : zo R = true) : (zaz R).length = (zeb (zl R) (zao false)).length := by
 unfold zaz cellsOf;rw [if_pos hv, List.length_map]
theorem fill_left {R : List Row} (hv : zo R = true) (h0 : 0 < R.length) : ∀ (n : Nat) (y : zf), y.x - zbd R <= n -> y ∈ zag R -> ¬ zbi (zag R) (zao true) (org R) y -> ∃ x ∈ zl R, zbi (zl (zcq R)) (zao false) x y := by
 obtain ⟨_, hm⟩ := zwe hv h0;have step : ∀ y : zf, y ∈ zag R -> ¬ zbi (zag R) (zao true) (org R) y -> (∃ x ∈ zl R, zbi (zl (zcq R)) (zao false) x y) \/ (zbd R <= y.x - 1 /\ (⟨y.x - 1, y.y⟩ : zf) ∈ zag R /\ ¬ zbi (zag R) (zao true) (org R) ⟨y.x - 1, y.y⟩ /\ ∀ x, zbi (zl (zcq R)) (zao false) x ⟨y.x - 1, y.y⟩ -> zbi (zl (zcq R)) (zao false) x y) := fun y hy hn => by
  obtain ⟨h1, h2, h3⟩ := (zgr hv h0).1 hy;have hyf : y ∈ zl (zcq R) := (hm y).2 (.inr ⟨hy, hn⟩);have ha : zao false ⟨y.x - 1, y.y⟩ y = true := by simp [zao]; omega
  have ha2 : zao true ⟨y.x - 1, y.y⟩ y = true := by simp [zao]; omega
  have hlow : zbd R <= y.x := by
   by_cases hc : zbd R <= y.x
   ·exact hc
   ·exact absurd (zjh hv h0 h1 h2 (.inl (by omega))) hn
  by_cases hz : (⟨y.x - 1, y.y⟩ : zf) ∈ zl R
  ·exact .inl ⟨_, hz, .step (.refl ((hm _).2 (.inl hz))) hyf ha⟩
  ·have hzf : (⟨y.x - 1, y.y⟩ : zf) ∈ zag R := (zgr hv h0).2 ⟨by simp only; omega, h2, hz⟩;have hzn : ¬ zbi (zag R) (zao true) (org R) ⟨y.x - 1, y.y⟩ := fun hc => hn (.step hc hy ha2);refine .inr ⟨?_, hzf, hzn, fun x hx => .step hx hyf ha⟩;by_cases hc : zbd R <= y.x - 1
   ·exact hc
   ·exact absurd (zjh hv h0 (c := ⟨y.x - 1, y.y⟩) (by simp only; omega) h2 (.inl (by simp only; omega))) hzn
 intro n;induction n with
 | zero =>
  intro y hle hy hn;rcases step y hy hn with h | ⟨h1, _⟩
  ·exact h
  ·omega
 | succ n ih =>
  intro y hle hy hn;rcases step y hy hn with h | ⟨h1, h2, h3, h4⟩
  ·exact h
  ·obtain ⟨x, hx, hc⟩ := ih ⟨y.x - 1, y.y⟩ (by simp only; omega) h2 h3;exact ⟨x, hx, h4 x hc⟩
theorem fill_parts {R : List Row} (hv : zo R = true) (h0 : 0 < R.length) : (zaz (zcq R)).length <= (zaz R).length := by
 obtain ⟨hf, hm⟩ := zwe hv h0;rw [zoc hf, zoc hv];refine comps_le adjS (fun x hx => (hm x).2 (.inl hx)) fun y hy => ?_;rcases (hm y).1 hy with h | ⟨h1, h2⟩
 ·exact ⟨y, h, .refl hy⟩
 ·exact fill_left hv h0 (y.x - zbd R).toNat y (by omega) h1 h2
theorem dil_parts {R : List Row} (hv : zo R = true) (hD : zsa R 1 = 0) : (zaz (zgz R 1)).length <= (zaz R).length := by
 obtain ⟨_, hd, hm⟩ := zta hD;rw [zoc hd, zoc hv];have h1 : (1 : Int).toNat = 1 := rfl;rw [h1] at hm;have hin : ∀ w ∈ R, ∀ r ∈ w.runs, ∀ x, r.a <= x -> x < r.b -> (⟨x, w.y⟩ : zf) ∈ zl R := fun w hw r hr x q1 q2 => by
  unfold zl zcg;rw [List.mem_flatMap];refine ⟨w, hw, ?_⟩;rw [List.mem_flatMap];refine ⟨r, hr, ?_⟩;rw [zcp];exact ⟨rfl, q1, q2⟩
 refine comps_le adjS (fun x hx => ?_) fun y hy => ?_
 ·rw [hm];obtain ⟨w, hw, hx⟩ := List.mem_flatMap.1 hx;obtain ⟨r, hr, hx⟩ := List.mem_flatMap.1 hx;obtain ⟨e, q1, q2⟩ := zcp.1 hx;exact ⟨w, hw, by omega, by omega, r, hr, by omega, by omega⟩
 ·obtain ⟨w, hw, q1, q2, r, hr, q3, q4⟩ := (hm y).1 hy;have hab : r.a < r.b := (zfd.1 (zbs hv hw).2).2.1.1 r hr;obtain ⟨x, hx1, hx2, hx3⟩ : ∃ x, r.a <= x /\ x < r.b /\ (-1 <= y.x - x /\ y.x - x <= 1) := by
   by_cases c1 : y.x < r.a
   ·exact ⟨r.a, by omega, by omega, by omega⟩
   ·by_cases c2 : y.x < r.b
    ·exact ⟨y.x, by omega, by omega, by omega⟩
    ·exact ⟨r.b - 1, by omega, by omega, by omega⟩
  have hd1 : (⟨x, w.y⟩ : zf) ∈ zl (zgz R 1) := (hm _).2 ⟨w, hw, by simp only; omega, by simp only; omega, r, hr, by simp only; omega, by simp only; omega⟩;have hd2 : (⟨y.x, w.y⟩ : zf) ∈ zl (zgz R 1) := (hm _).2 ⟨w, hw, by simp only; omega, by simp only; omega, r, hr, q3, q4⟩;refine ⟨⟨x, w.y⟩, hin w hw r hr x hx1 hx2, .step (.step (.refl hd1) hd2 ?_) hy ?_⟩
  ·simp [zao]; omega
  ·simp [zao]; omega

theorem hole_end {R : List Row} (hv : zo R = true) (h0 : 0 < R.length) : ∀ (n : Nat) (y : zf), y.x - zbd R <= n -> y ∈ zag R -> ¬ zbi (zag R) (zao true) (org R) y -> ∃ r ∈ zl R, r.y = y.y /\ zbi (zag R) (zao true) y ⟨r.x + 1, r.y⟩ := by
 have step : ∀ y : zf, y ∈ zag R -> ¬ zbi (zag R) (zao true) (org R) y -> (∃ r ∈ zl R, r.y = y.y /\ zbi (zag R) (zao true) y ⟨r.x + 1, r.y⟩) \/ (zbd R <= y.x - 1 /\ (⟨y.x - 1, y.y⟩ : zf) ∈ zag R /\ ¬ zbi (zag R) (zao true) (org R) ⟨y.x - 1, y.y⟩ /\ zbi (zag R) (zao true) y ⟨y.x - 1, y.y⟩) := fun y hy hn => by
  obtain ⟨h1, h2, h3⟩ := (zgr hv h0).1 hy;have ha2 : zao true ⟨y.x - 1, y.y⟩ y = true := by simp [zao]; omega
  have hlow : zbd R <= y.x := by
   by_cases hc : zbd R <= y.x
   ·exact hc
   ·exact absurd (zjh hv h0 h1 h2 (.inl (by omega))) hn
  by_cases hz : (⟨y.x - 1, y.y⟩ : zf) ∈ zl R
  ·refine .inl ⟨_, hz, rfl, ?_⟩;have : (⟨y.x - 1 + 1, y.y⟩ : zf) = y := by
    obtain ⟨a, b⟩ := y;simp
   simp only;rw [this];exact .refl hy
  ·have hzf : (⟨y.x - 1, y.y⟩ : zf) ∈ zag R := (zgr hv h0).2 ⟨by simp only; omega, h2, hz⟩;have hzn : ¬ zbi (zag R) (zao true) (org R) ⟨y.x - 1, y.y⟩ := fun hc => hn (.step hc hy ha2);refine .inr ⟨?_, hzf, hzn, .step (.refl hy) hzf (adjR_symm ha2)⟩;by_cases hc : zbd R <= y.x - 1
   ·exact hc
   ·exact absurd (zjh hv h0 (c := ⟨y.x - 1, y.y⟩) (by simp only; omega) h2 (.inl (by simp only; omega))) hzn
 intro n;induction n with
 | zero =>
  intro y hle hy hn;rcases step y hy hn with h | ⟨h1, _⟩
  ·exact h
  ·omega
 | succ n ih =>
  intro y hle hy hn;rcases step y hy hn with h | ⟨h1, h2, h3, h4⟩
  ·exact h
  ·obtain ⟨r, hr, e, hc⟩ := ih ⟨y.x - 1, y.y⟩ (by simp only; omega) h2 h3;exact ⟨r, hr, e, h4.trans hc⟩
theorem zru {R : List Row} (hv : zo R = true) (h0 : 0 < R.length) : (zeb (zag R) (zao true)).length <= (zl R).length + 1 := by
 have hg : (zeb (zag R) (zao true)).length = (hdS (zag R) (zao true) (zag R).length).length := by simp [zeb]
 rw [hg];have hpw := hdS_pw (l := zag R) (adj := zao true) adjS (zag R).length;have hin : ∀ h ∈ hdS (zag R) (zao true) (zag R).length, h ∈ zag R := fun h hh => hdS_in hh;obtain ⟨H, hH⟩ : ∃ H, hdS (zag R) (zao true) (zag R).length = H := ⟨_, rfl⟩
 have hfirst := zpj (adj := zao true) (zer hv h0);have h1 : H[0]? = some (org R) := by
  have : (zeb (zag R) (zao true))[0]? = (H[0]?).map fun h => cls (zag R) (zao true) h (zag R) := by
   unfold zeb; rw [hH, List.getElem?_map]
  rw [this] at hfirst;obtain ⟨h, hh, hcl⟩ := Option.map_eq_some_iff.1 hfirst;have hhm := hin h (hH ▸ List.mem_of_getElem? hh);have : h ∈ cls (zag R) (zao true) (org R) (zag R) := by rw [<- hcl]; exact zfr.2 ⟨hhm, .refl hhm⟩
  have hc := (zfr.1 this).2;have hof : org R ∈ zag R := hc.left;obtain ⟨h', hh', hc'⟩ := znq (l := zag R) (adj := zao true) 1 (by
   have := (List.getElem?_eq_some_iff.1 (zer hv h0)).1;omega) (org R) (by rw [List.take_one, List.head?_eq_getElem?, zer hv h0]; simp)
  have hm1 := zvx (adj := zao true) 1 h' hh';rw [List.take_one, List.head?_eq_getElem?, zer hv h0] at hm1;simp at hm1;subst hm1;have hmem : ∀ n, org R ∈ hdS (zag R) (zao true) (1 + n) := fun n => by
   induction n with
   | zero => exact hh'
   | succ n ih =>
    cases hk : (zag R)[1 + n]? with
    | none =>
     have e : hdS (zag R) (zao true) (1 + n + 1) = hdS (zag R) (zao true) (1 + n) := by simp only [hdS, hk]
     rw [show 1 + (n + 1) = 1 + n + 1 by omega, e]; exact ih
    | some c =>
     rw [show 1 + (n + 1) = 1 + n + 1 by omega];rcases zgp (adj := zao true) hk with ⟨_, e⟩ | ⟨q, e⟩
     ·rw [e]; exact ih
     ·rw [e]; exact List.mem_append_left _ ih
  have hom : org R ∈ H := by
   have := hmem ((zag R).length - 1);rw [show 1 + ((zag R).length - 1) = (zag R).length by
    have := (List.getElem?_eq_some_iff.1 (zer hv h0)).1;omega, hH] at this
   exact this
  obtain ⟨j, hj⟩ := List.mem_iff_getElem?.1 hom;have hz := zvw (adj := zao true) adjS (k := (zag R).length) (by rw [hH]; exact hh) (by rw [hH]; exact hj) ((zbi.refl hhm)) (hc);subst hz;exact hj
 rw [hH] at hpw hin ⊢;cases H with
 | nil => simp
 | cons o T =>
  have ho : o = org R := by simpa using h1
  subst ho;obtain ⟨hp1, hp2⟩ := List.pairwise_cons.1 hpw;have hf : ∀ h : zf, ∃ r : zf, h ∈ T -> r ∈ zl R /\ zbi (zag R) (zao true) h ⟨r.x + 1, r.y⟩ := fun h => by
   by_cases hh : h ∈ T
   ·obtain ⟨r, hr, _, hc⟩ := hole_end hv h0 (h.x - zbd R).toNat h (by omega) (hin h (by simp [hh])) (hp1 h hh);exact ⟨r, fun _ => ⟨hr, hc⟩⟩
   ·exact ⟨h, fun h2 => absurd h2 hh⟩
  have hfs := fun h => Classical.choose_spec (hf h);generalize hF : (fun h => Classical.choose (hf h)) = f at *;have hfs : ∀ h, h ∈ T -> f h ∈ zl R /\ zbi (zag R) (zao true) h ⟨(f h).x + 1, (f h).y⟩ := fun h => by
   rw [<- hF]; exact hfs h
  have hle := zlk (l := T.map f) (m := zl R) (by
   unfold List.Nodup;rw [List.pairwise_map];refine List.Pairwise.imp_of_mem (fun {a b} ha hb h e => ?_) hp2;have h1 := (hfs a ha).2;have h2 := (hfs b hb).2;rw [<- e] at h2;exact h (h1.trans (h2.symm adjS))) fun x hx => by
    obtain ⟨h, hh, rfl⟩ := List.mem_map.1 hx;exact (hfs h hh).1
  rw [List.length_map] at hle;rw [List.length_cons];omega
theorem hole_cells {R : List Row} (hv : zo R = true) (h0 : 0 < R.length) {i : Nat} {g : List zf} (hg : (zeb (zag R) (zao true))[i + 1]? = some g) : g.length <= R.length * (zbe R - zbd R + 3).toNat := by
 have hnot : ∀ c ∈ g, ¬ zbi (zag R) (zao true) (org R) c := fun c hc => by
  have hfirst := zpj (adj := zao true) (zer hv h0);have hom : org R ∈ zag R := List.mem_of_getElem? (zer hv h0);exact zpk adjS hfirst hg (by omega) (zfr.2 ⟨hom, .refl hom⟩) hc
 obtain ⟨h, _, _, e, _⟩ := zvy (List.mem_of_getElem? hg);have hin : ∀ c ∈ g, c ∈ zag R := fun c hc => by rw [e] at hc; exact (zfr.1 hc).1
 have hnd : g.Nodup := by
  rw [e];unfold cls;exact (zno (free_pw R)).sublist List.filter_sublist
 have hle := zlk (l := g) (m := R.flatMap fun w => (ysD (zbd R - 1) (zbe R - zbd R + 3).toNat).map fun x => (⟨x, w.y⟩ : zf)) hnd fun c hc => by
  obtain ⟨r, hr, e1, _⟩ := hole_end hv h0 (c.x - zbd R).toNat c (by omega) (hin c hc) (hnot c hc);obtain ⟨w, hw, hrw⟩ := List.mem_flatMap.1 hr;obtain ⟨q, hq, hrq⟩ := List.mem_flatMap.1 hrw;obtain ⟨e2, _, _⟩ := zcp.1 hrq;obtain ⟨f1, _, _⟩ := (zgr hv h0).1 (hin c hc);refine List.mem_flatMap.2 ⟨w, hw, List.mem_map.2 ⟨c.x, ?_, ?_⟩⟩
  ·rw [zuq]; omega
  ·have : w.y = c.y := by omega
   rw [this]
 have hl := zkx (f := fun w : Row => (ysD (zbd R - 1) (zbe R - zbd R + 3).toNat).map fun x => (⟨x, w.y⟩ : zf)) (n := (zbe R - zbd R + 3).toNat) (fun w => by rw [List.length_map, zur]; exact Nat.le_refl _) R;rw [Nat.mul_comm] at hl;omega
end Go.Proofs.YtdddknniooimmaaGreat
