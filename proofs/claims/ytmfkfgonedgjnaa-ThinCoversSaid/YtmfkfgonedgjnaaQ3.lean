/-
  The walks of this seat's functions and the plain laws behind them: part Q3.
-/
import Derived.Test.YtmfkfgonedgjnaaQ2
import Derived.Test.YtmfkfgonedgjnaaS1
set_option linter.unusedVariables false
set_option linter.unusedSimpArgs false
namespace Go.Proofs.Ytmfkfgonedgjnaa
open Go.Abs

/-! How the program divides its ordered single cells. -/
/-- n cells from place i on, one above the other, from cell a on. -/
def Col (s : List Cell) (i n : Nat) (a : Cell) : Prop := ∀ j, j < n → s[i + j]? = some ⟨a.x, a.y + j⟩
def Stop (s : List Cell) (i n : Nat) (a : Cell) : Prop := ∀ b, s[i + n]? = some b → ¬ (b.x = a.x ∧ b.y = a.y + n)

theorem col_out {s : List Cell} (h : s.Pairwise ltX) {i n : Nat} {a : Cell} (hn : 0 < n) (hc : Col s i n a) (hs : Stop s i n a) : (⟨a.x, a.y + n⟩ : Cell) ∉ s := by
  intro hm
  have h1 := hc (n - 1) (by omega)
  have hu : upc (⟨a.x, a.y + ((n - 1 : Nat) : Int)⟩ : Cell) = ⟨a.x, a.y + n⟩ := by simp [upc]; omega
  have h2 := up_next h h1 (by rw [hu]; exact hm)
  rw [hu, show i + (n - 1) + 1 = i + n from by omega] at h2
  exact hs _ h2 ⟨rfl, rfl⟩
theorem col_vch {s : List Cell} (h : s.Pairwise ltX) (hon : ∀ c ∈ s, onG c = true) {i n : Nat} {a : Cell} (hn : 0 < n) (hc : Col s i n a) (hs : Stop s i n a) : ∀ (m j : Nat), m + j = n → vch s ⟨a.x, a.y + j⟩ = (s.drop (i + j)).take m
  | 0, j, hj => by
    have : j = n := by omega
    subst this
    rw [vch_out (col_out h hn hc hs)]; simp
  | m + 1, j, hj => by
    have h1 := hc j (by omega)
    have hm := List.mem_of_getElem? h1
    have hg := onG_bd (hon _ hm)
    have ih := col_vch h hon hn hc hs m (j + 1) (by omega)
    rw [vch_in hm (by simpa using hg.2.2.2), drop_get h1, List.take_succ_cons]
    congr 1
    rw [show i + j + 1 = i + (j + 1) from by omega, ← ih]
    simp only [upc]
    congr 2
    omega
theorem col_piece {s : List Cell} (h : s.Pairwise ltX) (hon : ∀ c ∈ s, onG c = true) {i n : Nat} {a : Cell} (hn : 0 < n) (hc : Col s i n a) (hs : Stop s i n a) (hv : vst s a = true) :
    (s.take (i + n)).flatMap (vT s) = (s.take i).flatMap (vT s) ++ [trk ((s.drop i).take n)] := by
  have h0 := col_vch h hon hn hc hs n 0 (by omega)
  have e0 : (⟨a.x, a.y + ((0 : Nat) : Int)⟩ : Cell) = a := by cases a; simp
  rw [e0, Nat.add_zero] at h0
  rw [List.take_add, List.flatMap_append]
  congr 1
  have hd : ∀ (m j : Nat), m + j = n → 0 < j → ((s.drop (i + j)).take m).flatMap (vT s) = [] := by
    intro m
    induction m with
    | zero => intro j _ _; simp
    | succ m ih =>
      intro j hj h1
      have h2 := hc j (by omega)
      have h3 := hc (j - 1) (by omega)
      rw [drop_get h2, List.take_succ_cons, List.flatMap_cons, show i + j + 1 = i + (j + 1) from by omega, ih (j + 1) (by omega) (by omega), List.append_nil]
      have : vst s ⟨a.x, a.y + (j : Int)⟩ = false := by
        simp only [vst, Bool.not_eq_false', decide_eq_true_eq]
        have e : (⟨a.x, a.y + ((j - 1 : Nat) : Int)⟩ : Cell) = ⟨a.x, a.y + (j : Int) - 1⟩ := by simp; omega
        rw [← e]
        exact List.mem_of_getElem? h3
      simp [vT, this]
  obtain ⟨m, rfl⟩ : ∃ m, n = m + 1 := ⟨n - 1, by omega⟩
  have h2 := hc 0 (by omega)
  rw [e0, Nat.add_zero] at h2
  conv => lhs; rw [drop_get h2, List.take_succ_cons, List.flatMap_cons]
  rw [hd m 1 (by omega) (by omega), ← h0]
  simp [vT, hv]
theorem col_next {s : List Cell} (h : s.Pairwise ltX) {i n : Nat} {a b : Cell} (hn : 0 < n) (hc : Col s i n a) (hs : Stop s i n a) (hb : s[i + n]? = some b) : vst s b = true := by
  have h1 := hc (n - 1) (by omega)
  have := hs b hb
  refine (down_prev h h1 (show s[i + (n - 1) + 1]? = some b by rw [show i + (n - 1) + 1 = i + n from by omega]; exact hb)).2 ?_
  simp only
  intro ⟨h2, h3⟩
  exact this ⟨h2, by omega⟩

/-! The comparisons order what they compare. -/
theorem cfX_ord : CmpOrd VC cfX where
  irrefl := by rintro _ ⟨⟨ax, ay⟩, rfl, _⟩; simp [cfX, Cell.row]
  trans := by
    rintro _ _ _ ⟨⟨ax, ay⟩, rfl, _⟩ ⟨⟨bx, by'⟩, rfl, _⟩ ⟨⟨dx, dy⟩, rfl, _⟩
    simp only [cfX, Cell.row]
    intro h1 h2
    split at h1 <;> split at h2 <;> split <;> omega
  ntrans := by
    rintro _ _ _ ⟨⟨ax, ay⟩, rfl, _⟩ ⟨⟨bx, by'⟩, rfl, _⟩ ⟨⟨dx, dy⟩, rfl, _⟩
    simp only [cfX, Cell.row]
    intro h1 h2
    split at h1 <;> split at h2 <;> split <;> omega
theorem cfX_cells (a b : Cell) : cfX a.row b.row < 0 ↔ ltX a b := by
  cases a; cases b
  simp only [cfX, Cell.row, ltX]
  split <;> omega
theorem cfY_of {s t : Track} {c d : Cell} {l m : List Cell} (h1 : s.cells = c :: l) (h2 : t.cells = d :: m) : cfY s.row t.row = if c.y ≠ d.y then c.y - d.y else c.x - d.x := by
  cases s; cases t; cases c; cases d
  simp only at h1 h2
  subst h1 h2
  rw [cfY_rows]
theorem cfY_ord : CmpOrd VT cfY where
  irrefl := by rintro _ ⟨t, c, l, rfl, h, _⟩; rw [cfY_of h h]; simp
  trans := by
    rintro _ _ _ ⟨t, c, l, rfl, h, _⟩ ⟨t', c', l', rfl, h', _⟩ ⟨t'', c'', l'', rfl, h'', _⟩
    rw [cfY_of h h', cfY_of h' h'', cfY_of h h'']
    intro h1 h2
    split at h1 <;> split at h2 <;> split <;> omega
  ntrans := by
    rintro _ _ _ ⟨t, c, l, rfl, h, _⟩ ⟨t', c', l', rfl, h', _⟩ ⟨t'', c'', l'', rfl, h'', _⟩
    rw [cfY_of h h', cfY_of h' h'', cfY_of h h'']
    intro h1 h2
    split at h1 <;> split at h2 <;> split <;> omega

/-! The two sorts. -/
theorem sortX_rows (l : List Cell) (hd : l.Nodup) : ((sortX l).map Cell.row).Pairwise fun a b => ¬ cfX b a < 0 := by
  rw [List.pairwise_map]
  refine (sortX_lt hd).imp fun {a b} h => ?_
  rw [cfX_cells]
  simp only [ltX] at *
  omega
theorem cfX_anti {a b : Cell} (h1 : ¬ cfX b.row a.row < 0) (h2 : ¬ cfX a.row b.row < 0) : a = b := by
  rw [cfX_cells] at h1 h2
  cases a; cases b
  simp only [ltX, Cell.mk.injEq] at *
  omega
theorem upAll_VT {s : List Cell} (hon : ∀ c ∈ s, onG c = true) {t : Track} (ht : t ∈ upAll s) : VT t.row := by
  obtain ⟨c, hc, _, l, hl⟩ := upAll_mem hon ht
  exact ⟨t, c, l, rfl, hl, hon c hc⟩
theorem upAll_rows {l : List Cell} (hp : l.Pairwise ltY) (hon : ∀ c ∈ l, onG c = true) : ((upAll l).map Track.row).Pairwise fun a b => ¬ cfY b a < 0 := by
  rw [List.pairwise_map]
  refine List.Pairwise.imp_of_mem (fun {s t} hs ht h => ?_) (upAll_pw hp hon)
  obtain ⟨c, hc, _, l, hl⟩ := upAll_mem hon hs
  obtain ⟨d, hd, _, m, hm⟩ := upAll_mem hon ht
  rw [cfY_of hm hl]
  rw [hl, hm] at h
  simp only [ltY, List.getElem?_cons_zero, Option.getD_some] at h
  split <;> omega
theorem upAll_anti {l : List Cell} (hon : ∀ c ∈ l, onG c = true) {s t : Track} (hs : s ∈ upAll l) (ht : t ∈ upAll l) (h1 : ¬ cfY t.row s.row < 0) (h2 : ¬ cfY s.row t.row < 0) : s = t := by
  obtain ⟨c, hc, e1, l1, hl⟩ := upAll_mem hon hs
  obtain ⟨d, hd, e2, m, hm⟩ := upAll_mem hon ht
  rw [cfY_of hm hl] at h1
  rw [cfY_of hl hm] at h2
  have : c = d := by
    cases c; cases d
    simp only [Cell.mk.injEq] at *
    split at h1 <;> split at h2 <;> omega
  rw [e1, e2, this]

/-- The tracks that cover a region. -/
def linesOf (R : List Row) : List Track := if validR R then regTrk R ++ upAll (regSng R) else []
theorem upAll_len {s : List Cell} : (upAll s).length ≤ s.length := by
  have : ∀ l : List Cell, (l.flatMap (vT s)).length ≤ l.length := by
    intro l
    induction l with
    | nil => simp
    | cons c l ih =>
      rw [List.flatMap_cons, List.length_append, List.length_cons]
      have : (vT s c).length ≤ 1 := by unfold vT; split <;> simp
      omega
  exact this s
end Go.Proofs.Ytmfkfgonedgjnaa
