/-
  Texts of this seat put together: W2, Q3, Q4, V2, V3.
-/
import Derived.Test.YtknelhiejjdioaaJ4
import Derived.Test.YtknelhiejjdioaaI7
import Derived.Test.YtknelhiejjdioaaI10
import Derived.Test.YtknelhiejjdioaaJ5
import Derived.Test.YtknelhiejjdioaaI6
import Derived.Test.YtknelhiejjdioaaI8
set_option linter.unusedVariables false
set_option linter.unusedSimpArgs false
namespace Go.Proofs.Ytknelhiejjdioaa
open Go.Abs

theorem cellsOf_on (R : List Row) : ∀ c ∈ cellsOf R, onG c = true := by
  intro c hc
  unfold cellsOf at hc
  split at hc
  · rename_i h; exact cells_on h hc
  · simp at hc
theorem fT_len (l : List Cell) (c : Cell) : (fT l c).length ≤ 1 := by unfold fT; split <;> (try split) <;> simp
theorem fS_len (l : List Cell) (c : Cell) : (fS l c).length ≤ 1 := by unfold fS; split <;> (try split) <;> simp
theorem vT_len (l : List Cell) (c : Cell) : (vT l c).length ≤ 1 := by unfold vT; split <;> simp
theorem flat_one {α β : Type} {f : α → List β} (h : ∀ x, (f x).length ≤ 1) : ∀ l : List α, (l.flatMap f).length ≤ l.length
  | [] => by simp
  | x :: l => by
    have := h x; have := flat_one h l
    rw [List.flatMap_cons, List.length_append, List.length_cons]; omega
theorem take_flat_one {α β : Type} {f : α → List β} (h : ∀ x, (f x).length ≤ 1) (l : List α) (k : Nat) : ((l.take k).flatMap f).length ≤ l.length := by
  have := flat_one h (l.take k)
  simp at this ⊢; omega

def refL (l : List Cell) : List Track := l.flatMap (fT l) ++ upAll (l.flatMap (fS l))

end Go.Proofs.Ytknelhiejjdioaa

set_option linter.unusedVariables false
set_option linter.unusedSimpArgs false
namespace Go.Proofs.Ytknelhiejjdioaa
open Go.Abs

/-! How the program divides its ordered single cells. -/
/-- n cells from place i on, one above the other, from cell a on. -/
def Col (s : List Cell) (i n : Nat) (a : Cell) : Prop := ∀ j, j < n → s[i + j]? = some ⟨a.x, a.y + j⟩
def Stop (s : List Cell) (i n : Nat) (a : Cell) : Prop := ∀ b, s[i + n]? = some b → ¬ (b.x = a.x ∧ b.y = a.y + n)

theorem col_out {s : List Cell} (h : s.Pairwise ltX) {i n : Nat} {a : Cell} (hn : 0 < n) (hc : Col s i n a) (hs : Stop s i n a) : (⟨a.x, a.y + n⟩ : Cell) ∉ s := by
  intro hm
  have h1 := hc (n - 1) (by omega)
  have hu : upc (⟨a.x, a.y + ((n - 1 : Nat) : Int)⟩ : Cell) = ⟨a.x, a.y + n⟩ := by simp [upc]; omega
  have h2 := up_next h h1 (by rw [hu]; exact hm)
  rw [hu, show i + (n - 1) + 1 = i + n from by omega] at h2
  exact hs _ h2 ⟨rfl, rfl⟩
theorem col_vch {s : List Cell} (h : s.Pairwise ltX) (hon : ∀ c ∈ s, onG c = true) {i n : Nat} {a : Cell} (hn : 0 < n) (hc : Col s i n a) (hs : Stop s i n a) : ∀ (m j : Nat), m + j = n → vch s ⟨a.x, a.y + j⟩ = (s.drop (i + j)).take m
  | 0, j, hj => by
    have : j = n := by omega
    subst this
    rw [vch_out (col_out h hn hc hs)]; simp
  | m + 1, j, hj => by
    have h1 := hc j (by omega)
    have hm := List.mem_of_getElem? h1
    have hg := onG_bd (hon _ hm)
    have ih := col_vch h hon hn hc hs m (j + 1) (by omega)
    rw [vch_in hm (by simpa using hg.2.2.2), drop_get h1, List.take_succ_cons]
    congr 1
    rw [show i + j + 1 = i + (j + 1) from by omega, ← ih]
    simp only [upc]
    congr 2
    omega
theorem col_piece {s : List Cell} (h : s.Pairwise ltX) (hon : ∀ c ∈ s, onG c = true) {i n : Nat} {a : Cell} (hn : 0 < n) (hc : Col s i n a) (hs : Stop s i n a) (hv : vst s a = true) :
    (s.take (i + n)).flatMap (vT s) = (s.take i).flatMap (vT s) ++ [trk ((s.drop i).take n)] := by
  have h0 := col_vch h hon hn hc hs n 0 (by omega)
  have e0 : (⟨a.x, a.y + ((0 : Nat) : Int)⟩ : Cell) = a := by cases a; simp
  rw [e0, Nat.add_zero] at h0
  rw [List.take_add, List.flatMap_append]
  congr 1
  have hd : ∀ (m j : Nat), m + j = n → 0 < j → ((s.drop (i + j)).take m).flatMap (vT s) = [] := by
    intro m
    induction m with
    | zero => intro j _ _; simp
    | succ m ih =>
      intro j hj h1
      have h2 := hc j (by omega)
      have h3 := hc (j - 1) (by omega)
      rw [drop_get h2, List.take_succ_cons, List.flatMap_cons, show i + j + 1 = i + (j + 1) from by omega, ih (j + 1) (by omega) (by omega), List.append_nil]
      have : vst s ⟨a.x, a.y + (j : Int)⟩ = false := by
        simp only [vst, Bool.not_eq_false', decide_eq_true_eq]
        have e : (⟨a.x, a.y + ((j - 1 : Nat) : Int)⟩ : Cell) = ⟨a.x, a.y + (j : Int) - 1⟩ := by simp; omega
        rw [← e]
        exact List.mem_of_getElem? h3
      simp [vT, this]
  obtain ⟨m, rfl⟩ : ∃ m, n = m + 1 := ⟨n - 1, by omega⟩
  have h2 := hc 0 (by omega)
  rw [e0, Nat.add_zero] at h2
  conv => lhs; rw [drop_get h2, List.take_succ_cons, List.flatMap_cons]
  rw [hd m 1 (by omega) (by omega), ← h0]
  simp [vT, hv]
theorem col_next {s : List Cell} (h : s.Pairwise ltX) {i n : Nat} {a b : Cell} (hn : 0 < n) (hc : Col s i n a) (hs : Stop s i n a) (hb : s[i + n]? = some b) : vst s b = true := by
  have h1 := hc (n - 1) (by omega)
  have := hs b hb
  refine (down_prev h h1 (show s[i + (n - 1) + 1]? = some b by rw [show i + (n - 1) + 1 = i + n from by omega]; exact hb)).2 ?_
  simp only
  intro ⟨h2, h3⟩
  exact this ⟨h2, by omega⟩

/-! The comparisons order what they compare. -/
theorem cfX_ord : CmpOrd VC cfX where
  irrefl := by rintro _ ⟨⟨ax, ay⟩, rfl, _⟩; simp [cfX, Cell.row]
  trans := by
    rintro _ _ _ ⟨⟨ax, ay⟩, rfl, _⟩ ⟨⟨bx, by'⟩, rfl, _⟩ ⟨⟨dx, dy⟩, rfl, _⟩
    simp only [cfX, Cell.row]
    intro h1 h2
    split at h1 <;> split at h2 <;> split <;> omega
  ntrans := by
    rintro _ _ _ ⟨⟨ax, ay⟩, rfl, _⟩ ⟨⟨bx, by'⟩, rfl, _⟩ ⟨⟨dx, dy⟩, rfl, _⟩
    simp only [cfX, Cell.row]
    intro h1 h2
    split at h1 <;> split at h2 <;> split <;> omega
theorem cfX_cells (a b : Cell) : cfX a.row b.row < 0 ↔ ltX a b := by
  cases a; cases b
  simp only [cfX, Cell.row, ltX]
  split <;> omega
theorem cfY_of {s t : Track} {c d : Cell} {l m : List Cell} (h1 : s.cells = c :: l) (h2 : t.cells = d :: m) : cfY s.row t.row = if c.y ≠ d.y then c.y - d.y else c.x - d.x := by
  cases s; cases t; cases c; cases d
  simp only at h1 h2
  subst h1 h2
  rw [cfY_rows]
theorem cfY_ord : CmpOrd VT cfY where
  irrefl := by rintro _ ⟨t, c, l, rfl, h, _⟩; rw [cfY_of h h]; simp
  trans := by
    rintro _ _ _ ⟨t, c, l, rfl, h, _⟩ ⟨t', c', l', rfl, h', _⟩ ⟨t'', c'', l'', rfl, h'', _⟩
    rw [cfY_of h h', cfY_of h' h'', cfY_of h h'']
    intro h1 h2
    split at h1 <;> split at h2 <;> split <;> omega
  ntrans := by
    rintro _ _ _ ⟨t, c, l, rfl, h, _⟩ ⟨t', c', l', rfl, h', _⟩ ⟨t'', c'', l'', rfl, h'', _⟩
    rw [cfY_of h h', cfY_of h' h'', cfY_of h h'']
    intro h1 h2
    split at h1 <;> split at h2 <;> split <;> omega

/-! The two sorts. -/
theorem sortX_rows (l : List Cell) (hd : l.Nodup) : ((sortX l).map Cell.row).Pairwise fun a b => ¬ cfX b a < 0 := by
  rw [List.pairwise_map]
  refine (sortX_lt hd).imp fun {a b} h => ?_
  rw [cfX_cells]
  simp only [ltX] at *
  omega
theorem cfX_anti {a b : Cell} (h1 : ¬ cfX b.row a.row < 0) (h2 : ¬ cfX a.row b.row < 0) : a = b := by
  rw [cfX_cells] at h1 h2
  cases a; cases b
  simp only [ltX, Cell.mk.injEq] at *
  omega
theorem upAll_VT {s : List Cell} (hon : ∀ c ∈ s, onG c = true) {t : Track} (ht : t ∈ upAll s) : VT t.row := by
  obtain ⟨c, hc, _, l, hl⟩ := upAll_mem hon ht
  exact ⟨t, c, l, rfl, hl, hon c hc⟩
theorem upAll_rows {l : List Cell} (hp : l.Pairwise ltY) (hon : ∀ c ∈ l, onG c = true) : ((upAll l).map Track.row).Pairwise fun a b => ¬ cfY b a < 0 := by
  rw [List.pairwise_map]
  refine List.Pairwise.imp_of_mem (fun {s t} hs ht h => ?_) (upAll_pw hp hon)
  obtain ⟨c, hc, _, l, hl⟩ := upAll_mem hon hs
  obtain ⟨d, hd, _, m, hm⟩ := upAll_mem hon ht
  rw [cfY_of hm hl]
  rw [hl, hm] at h
  simp only [ltY, List.getElem?_cons_zero, Option.getD_some] at h
  split <;> omega
theorem upAll_anti {l : List Cell} (hon : ∀ c ∈ l, onG c = true) {s t : Track} (hs : s ∈ upAll l) (ht : t ∈ upAll l) (h1 : ¬ cfY t.row s.row < 0) (h2 : ¬ cfY s.row t.row < 0) : s = t := by
  obtain ⟨c, hc, e1, l1, hl⟩ := upAll_mem hon hs
  obtain ⟨d, hd, e2, m, hm⟩ := upAll_mem hon ht
  rw [cfY_of hm hl] at h1
  rw [cfY_of hl hm] at h2
  have : c = d := by
    cases c; cases d
    simp only [Cell.mk.injEq] at *
    split at h1 <;> split at h2 <;> omega
  rw [e1, e2, this]

/-- The tracks that cover a region. -/
def linesOf (R : List Row) : List Track := if validR R then regTrk R ++ upAll (regSng R) else []
theorem upAll_len {s : List Cell} : (upAll s).length ≤ s.length := by
  have : ∀ l : List Cell, (l.flatMap (vT s)).length ≤ l.length := by
    intro l
    induction l with
    | nil => simp
    | cons c l ih =>
      rw [List.flatMap_cons, List.length_append, List.length_cons]
      have : (vT s c).length ≤ 1 := by unfold vT; split <;> simp
      omega
  exact this s
end Go.Proofs.Ytknelhiejjdioaa

set_option linter.unusedVariables false
set_option linter.unusedSimpArgs false
namespace Go.Proofs.Ytknelhiejjdioaa
open Go.Abs

/-! Sizes. -/
theorem flat_bound {α β : Type} {f : α → List β} {k n : Nat} {l : List α} (hl : l.length ≤ n) (h : ∀ x ∈ l, (f x).length ≤ k) : (l.flatMap f).length ≤ n * k := by
  have : ∀ m : List α, (∀ x ∈ m, (f x).length ≤ k) → (m.flatMap f).length ≤ m.length * k := by
    intro m
    induction m with
    | nil => simp
    | cons x m ih =>
      intro h
      have h1 := h x (by simp)
      have h2 := ih fun y hy => h y (by simp [hy])
      rw [List.flatMap_cons, List.length_append, List.length_cons, Nat.succ_mul]
      omega
  exact Nat.le_trans (this l h) (Nat.mul_le_mul_right _ hl)
theorem few_rows (R : List Row) : (fewR R).length ≤ 12 ∧ ∀ w ∈ fewR R, w.runs.length ≤ 4 := by
  refine ⟨by simp [fewR]; omega, fun w hw => ?_⟩
  obtain ⟨v, _, rfl⟩ := List.mem_map.1 hw
  simp [fewW]; omega
theorem few_cells {R : List Row} (h : validR (fewR R) = true) : (regCells (fewR R)).length ≤ 393216 := by
  obtain ⟨h1, h2⟩ := few_rows R
  refine flat_bound (n := 12) (k := 32768) h1 fun w hw => flat_bound (n := 4) (k := 8192) (h2 w hw) fun r hr => ?_
  have := row_runs h hw hr
  rw [runCells_len]; omega
theorem few_cells' {R : List Row} (h : validR (fewR R) = true) : (regCells (fewR R)).length ≤ 1000000 := by have := few_cells h; omega
theorem few_cellsOf (R : List Row) : (cellsOf (fewR R)).length ≤ 1000000 := by
  unfold cellsOf
  split
  · rename_i h; exact few_cells' h
  · simp
theorem refL_lines (R : List Row) : refL (cellsOf R) = linesOf R := by
  unfold refL cellsOf linesOf
  split
  · rename_i h
    rw [(ref_trk h).1, (ref_trk h).2]
  · simp [upAll]
theorem lines_len {R : List Row} : (linesOf (fewR R)).length ≤ 96 := by
  unfold linesOf
  split
  · rename_i h
    obtain ⟨h1, h2⟩ := few_rows R
    have e1 : (regTrk (fewR R)).length ≤ 12 * (4 * 1) := flat_bound h1 fun w hw => flat_bound (h2 w hw) fun r hr => by unfold trkOf; split <;> simp
    have e2 : (regSng (fewR R)).length ≤ 12 * (4 * 1) := flat_bound h1 fun w hw => flat_bound (h2 w hw) fun r hr => by unfold sngOf; split <;> simp
    have e3 : (upAll (regSng (fewR R))).length ≤ (regSng (fewR R)).length := upAll_len
    rw [List.length_append]; omega
  · simp
theorem lines_cells {R : List Row} : ∀ t ∈ linesOf R, t.cells.length ≤ 8192 := by
  intro t ht
  unfold linesOf at ht
  split at ht
  · rename_i h
    rcases List.mem_append.1 ht with ht | ht
    · simp only [regTrk, rowTrk, List.mem_flatMap] at ht
      obtain ⟨w, hw, r, hr, ht⟩ := ht
      have := row_runs h hw hr
      unfold trkOf at ht
      split at ht
      · simp at ht
      · simp at ht; subst ht; simp only; rw [runCells_len]; omega
    · obtain ⟨c, hc, rfl, _⟩ := upAll_mem (fun c hc => cells_on h (sng_mem h hc)) ht
      have hg := onG_bd (cells_on h (sng_mem h hc))
      have := vN_len (regSng R) (4096 - c.y).toNat c
      simp only [trk, vch]; omega
  · simp at ht
end Go.Proofs.Ytknelhiejjdioaa

set_option linter.unusedVariables false
set_option linter.unusedSimpArgs false
namespace Go.Proofs.Ytknelhiejjdioaa
open Go.Abs

/-! The tracks of a region are valid. -/
theorem nb_right (x y : Int) (j : Nat) : nbT ⟨x + j, y⟩ ⟨x + (j + 1 : Nat), y⟩ = true := by simp [nbT, dist]; omega
theorem nb_up (x y : Int) (j : Nat) : nbT ⟨x, y + j⟩ ⟨x, y + (j + 1 : Nat)⟩ = true := by simp [nbT, dist]; omega
theorem chain_ok {l : List Cell} (hon : ∀ c ∈ l, onG c = true) (hnb : ∀ (j : Nat) (a b : Cell), l[j]? = some a → l[j + 1]? = some b → nbT a b = true) : (List.range l.length).all (okAt l) = true := by
  refine List.all_eq_true.2 fun i hi => ?_
  have hi : i < l.length := by simpa using hi
  obtain ⟨c, hc⟩ := getq hi
  obtain ⟨p, hp⟩ : ∃ p, l[i - 1]? = some p := getq (by omega)
  rw [okAt_some hc hp, hon c (List.mem_of_getElem? hc)]
  cases i with
  | zero => simp
  | succ i => simp only [Nat.add_sub_cancel] at hp; rw [hnb i p c hp hc]; simp
theorem valid_open {l : List Cell} (hp : 1 ≤ l.length) (hl : l.length ≤ 65536) (hon : ∀ c ∈ l, onG c = true) (hnb : ∀ (j : Nat) (a b : Cell), l[j]? = some a → l[j + 1]? = some b → nbT a b = true) : validT ⟨2, false, l⟩ = true := by
  simp only [validT, Bool.and_eq_true]
  refine ⟨⟨?_, chain_ok hon hnb⟩, by simp [closes]⟩
  simp [roleOk]; omega
theorem vN_get {l : List Cell} : ∀ (n : Nat) (c : Cell) (j : Nat) (d : Cell), (vN l n c)[j]? = some d → d = ⟨c.x, c.y + j⟩
  | 0, c, j, d, h => by simp [vN] at h
  | n + 1, c, j, d, h => by
    simp only [vN] at h
    split at h
    · cases j with
      | zero => simp at h; subst h; simp
      | succ j =>
        have := vN_get n (upc c) j d (by simpa using h)
        rw [this]; simp [upc]; omega
    · simp at h
theorem lines_valid {R : List Row} {t : Track} (ht : t ∈ linesOf R) : validT t = true ∧ t.closed = false ∧ t.role = 2 := by
  have h8 := lines_cells t ht
  unfold linesOf at ht
  split at ht
  · rename_i h
    rcases List.mem_append.1 ht with ht | ht
    · simp only [regTrk, rowTrk, List.mem_flatMap] at ht
      obtain ⟨w, hw, r, hr, ht⟩ := ht
      have hrr := row_runs h hw hr
      have hwf := row_fine h hw
      unfold trkOf at ht
      split at ht
      · simp at ht
      · simp at ht; subst ht
        refine ⟨valid_open (by rw [runCells_len]; omega) (by simp only at h8; omega) (fun c hc => ?_) (fun j a b ha hb => ?_), rfl, rfl⟩
        · obtain ⟨h1, h2, h3⟩ := mem_runCells.1 hc
          simp [onG]; omega
        · have hj := (List.getElem?_eq_some_iff.1 hb).1
          rw [runCells_len] at hj
          rw [runCells_get w.y r (by omega)] at ha
          rw [runCells_get w.y r hj] at hb
          cases ha; cases hb
          exact nb_right _ _ _
    · obtain ⟨c, hc, rfl, l, hl⟩ := upAll_mem (fun c hc => cells_on h (sng_mem h hc)) ht
      refine ⟨valid_open (by have : (vch (regSng R) c).length = l.length + 1 := by have := congrArg List.length hl; simpa [trk] using this
                             omega) (by simp only [trk] at h8; omega) (fun d hd => cells_on h (sng_mem h (vch_sub _ _ _ _ hd))) (fun j a b ha hb => ?_), rfl, rfl⟩
      have e1 := vN_get _ _ _ _ ha
      have e2 := vN_get _ _ _ _ hb
      rw [e1, e2]
      exact nb_up _ _ _
  · simp at ht

/-! They cover each cell once. -/
theorem col_exists {s : List Cell} {i : Nat} {a : Cell} (ha : s[i]? = some a) : ∃ n, 0 < n ∧ i + n ≤ s.length ∧ Col s i n a ∧ Stop s i n a := by
  have hi := (List.getElem?_eq_some_iff.1 ha).1
  have key : ∀ (m n : Nat), s.length - (i + n) = m → 0 < n → i + n ≤ s.length → Col s i n a → ∃ n, 0 < n ∧ i + n ≤ s.length ∧ Col s i n a ∧ Stop s i n a := by
    intro m
    induction m with
    | zero =>
      intro n hm hn hl hc
      exact ⟨n, hn, hl, hc, fun b hb => by have := (List.getElem?_eq_some_iff.1 hb).1; omega⟩
    | succ m ih =>
      intro n hm hn hl hc
      by_cases hs : Stop s i n a
      · exact ⟨n, hn, hl, hc, hs⟩
      · have : ∃ b, s[i + n]? = some b ∧ b.x = a.x ∧ b.y = a.y + n := by
          apply Classical.byContradiction
          intro h
          exact hs fun b hb hx => h ⟨b, hb, hx⟩
        obtain ⟨b, hb, h1, h2⟩ := this
        refine ih (n + 1) (by omega) (by omega) (by omega) fun j hj => ?_
        by_cases e : j = n
        · subst e; rw [hb]; cases b; simp at h1 h2; simp [h1, h2]
        · exact hc j (by omega)
  exact key _ 1 rfl (by omega) (by omega) fun j hj => by rw [show j = 0 from by omega]; cases a; simpa using ha
def tc (l : List Track) : List Cell := l.flatMap (·.cells)
theorem tc_app (a b : List Track) : tc (a ++ b) = tc a ++ tc b := by simp [tc]
theorem up_cells {s : List Cell} (h : s.Pairwise ltX) (hon : ∀ c ∈ s, onG c = true) : tc (upAll s) = s := by
  have key : ∀ (m i : Nat), s.length - i = m → i ≤ s.length → (∀ a, s[i]? = some a → vst s a = true) → tc ((s.take i).flatMap (vT s)) = s.take i → tc (upAll s) = s := by
    intro m
    induction m using Nat.strongRecOn with
    | ind m ih =>
      intro i hm hi hst ht
      by_cases e : i = s.length
      · subst e; rw [List.take_length] at ht; exact ht
      · obtain ⟨a, ha⟩ := getq (show i < s.length by omega)
        obtain ⟨n, hn, hl, hc, hs⟩ := col_exists ha
        refine ih (s.length - (i + n)) (by omega) (i + n) rfl hl (fun b hb => col_next h hn hc hs hb) ?_
        rw [col_piece h hon hn hc hs (hst a ha), tc_app, ht, List.take_add]
        simp [tc, trk]
  exact key _ 0 rfl (Nat.zero_le _) (fun a ha => vst_first h ha) (by simp [tc])
theorem flat_perm {α β : Type} {f g h : α → List β} : ∀ l : List α, (∀ x ∈ l, (f x).Perm (g x ++ h x)) → (l.flatMap f).Perm (l.flatMap g ++ l.flatMap h)
  | [], _ => List.Perm.refl _
  | x :: l, hx => by
    simp only [List.flatMap_cons]
    refine ((hx x (by simp)).append (flat_perm l fun y hy => hx y (by simp [hy]))).trans ?_
    rw [List.append_assoc, List.append_assoc]
    refine List.Perm.append_left _ ?_
    rw [← List.append_assoc, ← List.append_assoc]
    exact List.Perm.append_right _ List.perm_append_comm
theorem tc_flat {α : Type} (f : α → List Track) : ∀ l : List α, tc (l.flatMap f) = l.flatMap fun x => tc (f x)
  | [] => rfl
  | x :: l => by simp only [List.flatMap_cons, tc_app, tc_flat f l]
theorem run_part {y : Int} {r : Run} (h : r.a < r.b) : runCells y r = tc (trkOf y r) ++ sngOf y r := by
  unfold trkOf sngOf
  split
  · rename_i e
    simp [tc, runCells, show (r.b - r.a).toNat = 1 from by omega]
  · simp [tc]
theorem cells_part {R : List Row} (h : validR R = true) : (regCells R).Perm (tc (regTrk R) ++ regSng R) := by
  unfold regCells regTrk regSng
  rw [tc_flat]
  refine flat_perm R fun w hw => ?_
  unfold rowCells rowTrk rowSng
  rw [tc_flat]
  exact flat_perm _ fun r hr => by rw [run_part (row_runs h hw hr).2.1]
theorem lines_perm {R : List Row} (h : validR R = true) : (tc (linesOf R)).Perm (regCells R) := by
  have e : linesOf R = regTrk R ++ upAll (regSng R) := by simp [linesOf, h]
  rw [e, tc_app]
  refine List.Perm.trans ?_ (cells_part h).symm
  refine List.Perm.append_left _ ?_
  have hnd := nodup_of_ltY (sng_pw h)
  have h1 := up_cells (sortX_lt hnd) (fun c hc => cells_on h (sng_mem h ((sortX_mem c).1 hc)))
  have h2 := (upAll_perm (sortX_perm (regSng R))).flatMap_right (·.cells)
  refine h2.symm.trans ?_
  rw [show (upAll (sortX (regSng R))).flatMap (·.cells) = tc (upAll (sortX (regSng R))) from rfl, h1]
  exact sortX_perm _
theorem lines_cover {R : List Row} (h : validR R = true) : ofR (tc (linesOf R)) = R := by
  have hp := lines_perm h
  have hall : (tc (linesOf R)).all onG = true := List.all_eq_true.2 fun c hc => cells_on h (hp.mem_iff.1 hc)
  unfold ofR
  rw [if_pos hall, sortY_cells h hp, build_cells h]
end Go.Proofs.Ytknelhiejjdioaa

set_option linter.unusedVariables false
set_option linter.unusedSimpArgs false
namespace Go.Proofs.Ytknelhiejjdioaa
open Go.Abs

def coverL (l : List Track) : List Cell := (l.filter validT).flatMap (·.cells)
theorem cover_take {l : List Track} {k : Nat} {t : Track} (h : l[k]? = some t) : coverL (l.take (k + 1)) = coverL (l.take k) ++ (if validT t then t.cells else []) := by
  unfold coverL
  rw [take_get h, List.filter_append, List.flatMap_append]
  congr 1
  by_cases hv : validT t = true <;> simp [hv]
theorem cover_sub {l : List Track} {k : Nat} (hk : k ≤ l.length) : (coverL (l.take k)).length ≤ (tc l).length := by
  have h1 : ∀ m : List Track, (coverL m).length ≤ (tc m).length := by
    intro m
    induction m with
    | nil => simp [coverL, tc]
    | cons t m ih =>
      unfold coverL tc at *
      by_cases hv : validT t = true
      · simp [hv]; simpa using ih
      · simp [hv]; simp at ih; omega
  have h2 : (tc (l.take k)).length ≤ (tc l).length := by
    conv => rhs; rw [← List.take_append_drop k l, tc_app, List.length_append]
    omega
  exact Nat.le_trans (h1 _) h2

theorem cover_ok (l : List Track) (hc : ∀ t ∈ l, t.cells.length ≤ 65536) (hl : l.length ≤ 1000) (hn : (tc l).length ≤ 1000000) : PC Try.prog 26 [encTracks l] (.p (.agg (regRow (ofR (coverL l))))) := by
  refine pc_of_awp cx (fn := Try.f26) (c := _) Try.func26 rfl rfl (Nat.le_of_ble_eq_true rfl) ?_
  rw [Try.ntmps26]; refine Nav.imp ?_
  refine awp_region cx [] fun K hK => ?_
  simp [push_cast]
  repeat (refine And.intro (by clear hK; intros; first | omega | (simp_all; done) | (simp_all <;> omega)) ?_)
  refine hK _ ?_; clear hK K; refine Nav.imp ?_
  refine awp_region cx [] fun K hK => ?_
  simp [push_cast]
  repeat (refine And.intro (by clear hK; intros; first | omega | (simp_all; done) | (simp_all <;> omega)) ?_)
  refine hK _ ?_; clear hK K; refine Nav.imp ?_
  refine awp_region cx [] fun K hK => ?_
  simp [push_cast]
  repeat (refine And.intro (by clear hK; intros; first | omega | (simp_all; done) | (simp_all <;> omega)) ?_)
  refine hK _ ?_; clear hK K; refine Nav.imp ?_
  refine awp_loop (β := Nat × List Cell) (fun b => ⟨27, [(2, .ptr 0 0 0), (3, .hs 1 0 b.2.length), (8, .d (encTracks l)), (9, .d (.int .i64 l.length)), (10, .d (.int .i64 b.1))], [(0, some ⟨24, 1, [[.nl]]⟩), (1, some ⟨31, 2, dr (b.2.map Cell.row)⟩)], 2⟩) (fun b => b.1 ≤ l.length ∧ b.2 = coverL (l.take b.1)) (fun b => l.length - b.1) (0, []) ?_ ⟨Nat.zero_le _, by simp [coverL]⟩ ?_
  · refine weak_of [(0, some 0), (1, none)] rfl (by simp [upT, up, upL, push_cast]) (by simp [upH, upR, upL, up, push_cast]) (by simp [namesOk, push_cast]) (by simp [olds])
  · rintro ⟨k, Z⟩ ⟨hk, hZ⟩
    simp only at hk hZ
    refine Nav.imp ?_
    refine awp_region cx [] fun K hK => ?_
    simp [push_cast]
    repeat (refine And.intro (by clear hK; intros; first | omega | (simp_all; done) | (simp_all <;> omega)) ?_)
    refine hK _ ?_; clear hK K; refine Nav.imp ?_
    refine awp_cond (b := decide ((k : Int) < l.length)) (by simp [push_cast]) (fun hb => ?_) (fun hb => ?_) <;> (refine Nav.imp ?_)
    · have hlt : k < l.length := by simpa using hb
      obtain ⟨t, ht⟩ := getq hlt
      have htl := hc t (List.mem_of_getElem? ht)
      have c1 := tvalid_ok t htl
      have hnx := cover_take ht
      rw [← hZ] at hnx
      have hZl : Z.length ≤ 1000000 := by rw [hZ]; exact Nat.le_trans (cover_sub hk) hn
      have e0 := wrap_i64 (n := (k : Int) + 1) (by omega) (by omega)
      have hb16 : (Z.length + t.cells.length) * 16 ≤ 140737488355328 := by omega
      generalize validT t = v at *
      obtain ⟨ro, cl, ce⟩ := t
      simp only at htl hnx hb16
      refine awp_region cx [] fun K hK => ?_
      simp [push_cast, ht, Track.row]
      repeat (refine And.intro (by clear hK; intros; first | omega | (simp_all; done) | (simp_all <;> omega)) ?_)
      refine hK _ ?_; clear hK K; refine Nav.imp ?_
      refine awp_region cx [(1, .p (.bool v))] fun K hK => ?_
      simp [push_cast, c1, Track.row]
      repeat (refine And.intro (by clear hK; intros; first | omega | (simp_all; done) | (simp_all <;> omega)) ?_)
      refine hK _ ?_; clear hK K; refine Nav.imp ?_
      refine awp_cond (b := v) (by simp [push_cast]) (fun hb => ?_) (fun hb => ?_) <;> (refine Nav.imp ?_)
      · rw [if_pos hb] at hnx
        refine awp_region cx [] fun K hK => ?_
        simp [push_cast, hb16, Track.row]
        repeat (refine And.intro (by clear hK; intros; first | omega | (simp_all; done) | (simp_all <;> omega)) ?_)
        refine hK _ ?_; clear hK K; refine Nav.imp ?_
        refine awp_region cx [] fun K hK => ?_
        simp [push_cast, e0]
        repeat (refine And.intro (by clear hK; intros; first | omega | (simp_all; done) | (simp_all <;> omega)) ?_)
        refine hK _ ?_; clear hK K; refine Nav.imp ?_
        refine ⟨(k + 1, Z ++ ce), ⟨hlt, hnx.symm⟩, by simp only; omega, ?_⟩
        refine weak_of [(0, some 0), (1, some 12)] rfl (by simp [upT, up, upL, push_cast]) (by simp [upH, upR, upL, up, push_cast]) (by simp [namesOk, push_cast]) (by simp [olds])
      · have hnx : coverL (l.take (k + 1)) = Z := by rw [hnx, hb]; simp
        refine awp_region cx [] fun K hK => ?_
        simp [push_cast, e0]
        repeat (refine And.intro (by clear hK; intros; first | omega | (simp_all; done) | (simp_all <;> omega)) ?_)
        refine hK _ ?_; clear hK K; refine Nav.imp ?_
        refine ⟨(k + 1, Z), ⟨hlt, hnx.symm⟩, by simp only; omega, ?_⟩
        refine weak_of [(0, some 0), (1, some 1)] rfl (by simp [upT, up, upL, push_cast]) (by simp [upH, upR, upL, up, push_cast]) (by simp [namesOk, push_cast]) (by simp [olds])
    · have hge : k = l.length := by simp at hb; omega
      subst hge
      have hZl : Z.length ≤ 1000000 := by rw [hZ]; exact Nat.le_trans (cover_sub hk) hn
      rw [List.take_length] at hZ
      rw [← hZ]
      have c1 := of_ok Z hZl
      have hD : ofD Z = .tup [.agg (regRow (ofR Z)), .int .i64 (ofE Z)] := rfl
      rw [hD] at c1
      clear hZ hD
      generalize ofR Z = R at *
      generalize ofE Z = e at *
      refine awp_freeze 1 (Z.map Cell.row) rfl (by simp [push_cast]) fun K hK => ?_
      simp [push_cast, St.fz, fzT, fzH, fzO, fz, fzL, fzR, fzR_dr, fzR_app, fzR_set, fzL_map]
      refine hK _ ?_; clear hK K; refine Nav.imp ?_
      refine awp_region cx [(1, .p (.tup [.agg (regRow R), .int .i64 e]))] fun K hK => ?_
      simp [push_cast, c1]
      repeat (refine And.intro (by clear hK; intros; first | omega | (simp_all; done) | (simp_all <;> omega)) ?_)
      refine hK _ ?_; clear hK K; refine Nav.imp ?_
      refine awp_region cx [] fun K hK => ?_
      simp [push_cast]
      repeat (refine And.intro (by clear hK; intros; first | omega | (simp_all; done) | (simp_all <;> omega)) ?_)
      refine hK _ ?_; clear hK K; refine Nav.imp ?_
      simp [push_cast]
end Go.Proofs.Ytknelhiejjdioaa
