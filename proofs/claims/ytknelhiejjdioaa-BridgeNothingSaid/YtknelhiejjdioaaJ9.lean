/-
  Texts of this seat put together: W2, Q3, Q4, AbsY, W1, L1, X6.
-/
import Derived.Test.YtknelhiejjdioaaJ4
import Derived.Test.YtknelhiejjdioaaJ7
import Derived.Test.YtknelhiejjdioaaJ8
import Derived.Test.YtknelhiejjdioaaJ3
set_option linter.unusedVariables false
set_option linter.unusedSimpArgs false
namespace Go.Proofs.Ytknelhiejjdioaa
open Go.Abs

theorem cellsOf_on (R : List Row) : ∀ c ∈ cellsOf R, onG c = true := by
  intro c hc
  unfold cellsOf at hc
  split at hc
  · rename_i h; exact cells_on h hc
  · simp at hc
theorem fT_len (l : List Cell) (c : Cell) : (fT l c).length ≤ 1 := by unfold fT; split <;> (try split) <;> simp
theorem fS_len (l : List Cell) (c : Cell) : (fS l c).length ≤ 1 := by unfold fS; split <;> (try split) <;> simp
theorem vT_len (l : List Cell) (c : Cell) : (vT l c).length ≤ 1 := by unfold vT; split <;> simp
theorem flat_one {α β : Type} {f : α → List β} (h : ∀ x, (f x).length ≤ 1) : ∀ l : List α, (l.flatMap f).length ≤ l.length
  | [] => by simp
  | x :: l => by
    have := h x; have := flat_one h l
    rw [List.flatMap_cons, List.length_append, List.length_cons]; omega
theorem take_flat_one {α β : Type} {f : α → List β} (h : ∀ x, (f x).length ≤ 1) (l : List α) (k : Nat) : ((l.take k).flatMap f).length ≤ l.length := by
  have := flat_one h (l.take k)
  simp at this ⊢; omega

def refL (l : List Cell) : List Track := l.flatMap (fT l) ++ upAll (l.flatMap (fS l))

end Go.Proofs.Ytknelhiejjdioaa

set_option linter.unusedVariables false
set_option linter.unusedSimpArgs false
namespace Go.Proofs.Ytknelhiejjdioaa
open Go.Abs

/-! How the program divides its ordered single cells. -/
/-- n cells from place i on, one above the other, from cell a on. -/
def Col (s : List Cell) (i n : Nat) (a : Cell) : Prop := ∀ j, j < n → s[i + j]? = some ⟨a.x, a.y + j⟩
def Stop (s : List Cell) (i n : Nat) (a : Cell) : Prop := ∀ b, s[i + n]? = some b → ¬ (b.x = a.x ∧ b.y = a.y + n)

theorem col_out {s : List Cell} (h : s.Pairwise ltX) {i n : Nat} {a : Cell} (hn : 0 < n) (hc : Col s i n a) (hs : Stop s i n a) : (⟨a.x, a.y + n⟩ : Cell) ∉ s := by
  intro hm
  have h1 := hc (n - 1) (by omega)
  have hu : upc (⟨a.x, a.y + ((n - 1 : Nat) : Int)⟩ : Cell) = ⟨a.x, a.y + n⟩ := by simp [upc]; omega
  have h2 := up_next h h1 (by rw [hu]; exact hm)
  rw [hu, show i + (n - 1) + 1 = i + n from by omega] at h2
  exact hs _ h2 ⟨rfl, rfl⟩
theorem col_vch {s : List Cell} (h : s.Pairwise ltX) (hon : ∀ c ∈ s, onG c = true) {i n : Nat} {a : Cell} (hn : 0 < n) (hc : Col s i n a) (hs : Stop s i n a) : ∀ (m j : Nat), m + j = n → vch s ⟨a.x, a.y + j⟩ = (s.drop (i + j)).take m
  | 0, j, hj => by
    have : j = n := by omega
    subst this
    rw [vch_out (col_out h hn hc hs)]; simp
  | m + 1, j, hj => by
    have h1 := hc j (by omega)
    have hm := List.mem_of_getElem? h1
    have hg := onG_bd (hon _ hm)
    have ih := col_vch h hon hn hc hs m (j + 1) (by omega)
    rw [vch_in hm (by simpa using hg.2.2.2), drop_get h1, List.take_succ_cons]
    congr 1
    rw [show i + j + 1 = i + (j + 1) from by omega, ← ih]
    simp only [upc]
    congr 2
    omega
theorem col_piece {s : List Cell} (h : s.Pairwise ltX) (hon : ∀ c ∈ s, onG c = true) {i n : Nat} {a : Cell} (hn : 0 < n) (hc : Col s i n a) (hs : Stop s i n a) (hv : vst s a = true) :
    (s.take (i + n)).flatMap (vT s) = (s.take i).flatMap (vT s) ++ [trk ((s.drop i).take n)] := by
  have h0 := col_vch h hon hn hc hs n 0 (by omega)
  have e0 : (⟨a.x, a.y + ((0 : Nat) : Int)⟩ : Cell) = a := by cases a; simp
  rw [e0, Nat.add_zero] at h0
  rw [List.take_add, List.flatMap_append]
  congr 1
  have hd : ∀ (m j : Nat), m + j = n → 0 < j → ((s.drop (i + j)).take m).flatMap (vT s) = [] := by
    intro m
    induction m with
    | zero => intro j _ _; simp
    | succ m ih =>
      intro j hj h1
      have h2 := hc j (by omega)
      have h3 := hc (j - 1) (by omega)
      rw [drop_get h2, List.take_succ_cons, List.flatMap_cons, show i + j + 1 = i + (j + 1) from by omega, ih (j + 1) (by omega) (by omega), List.append_nil]
      have : vst s ⟨a.x, a.y + (j : Int)⟩ = false := by
        simp only [vst, Bool.not_eq_false', decide_eq_true_eq]
        have e : (⟨a.x, a.y + ((j - 1 : Nat) : Int)⟩ : Cell) = ⟨a.x, a.y + (j : Int) - 1⟩ := by simp; omega
        rw [← e]
        exact List.mem_of_getElem? h3
      simp [vT, this]
  obtain ⟨m, rfl⟩ : ∃ m, n = m + 1 := ⟨n - 1, by omega⟩
  have h2 := hc 0 (by omega)
  rw [e0, Nat.add_zero] at h2
  conv => lhs; rw [drop_get h2, List.take_succ_cons, List.flatMap_cons]
  rw [hd m 1 (by omega) (by omega), ← h0]
  simp [vT, hv]
theorem col_next {s : List Cell} (h : s.Pairwise ltX) {i n : Nat} {a b : Cell} (hn : 0 < n) (hc : Col s i n a) (hs : Stop s i n a) (hb : s[i + n]? = some b) : vst s b = true := by
  have h1 := hc (n - 1) (by omega)
  have := hs b hb
  refine (down_prev h h1 (show s[i + (n - 1) + 1]? = some b by rw [show i + (n - 1) + 1 = i + n from by omega]; exact hb)).2 ?_
  simp only
  intro ⟨h2, h3⟩
  exact this ⟨h2, by omega⟩

/-! The comparisons order what they compare. -/
theorem cfX_ord : CmpOrd VC cfX where
  irrefl := by rintro _ ⟨⟨ax, ay⟩, rfl, _⟩; simp [cfX, Cell.row]
  trans := by
    rintro _ _ _ ⟨⟨ax, ay⟩, rfl, _⟩ ⟨⟨bx, by'⟩, rfl, _⟩ ⟨⟨dx, dy⟩, rfl, _⟩
    simp only [cfX, Cell.row]
    intro h1 h2
    split at h1 <;> split at h2 <;> split <;> omega
  ntrans := by
    rintro _ _ _ ⟨⟨ax, ay⟩, rfl, _⟩ ⟨⟨bx, by'⟩, rfl, _⟩ ⟨⟨dx, dy⟩, rfl, _⟩
    simp only [cfX, Cell.row]
    intro h1 h2
    split at h1 <;> split at h2 <;> split <;> omega
theorem cfX_cells (a b : Cell) : cfX a.row b.row < 0 ↔ ltX a b := by
  cases a; cases b
  simp only [cfX, Cell.row, ltX]
  split <;> omega
theorem cfY_of {s t : Track} {c d : Cell} {l m : List Cell} (h1 : s.cells = c :: l) (h2 : t.cells = d :: m) : cfY s.row t.row = if c.y ≠ d.y then c.y - d.y else c.x - d.x := by
  cases s; cases t; cases c; cases d
  simp only at h1 h2
  subst h1 h2
  rw [cfY_rows]
theorem cfY_ord : CmpOrd VT cfY where
  irrefl := by rintro _ ⟨t, c, l, rfl, h, _⟩; rw [cfY_of h h]; simp
  trans := by
    rintro _ _ _ ⟨t, c, l, rfl, h, _⟩ ⟨t', c', l', rfl, h', _⟩ ⟨t'', c'', l'', rfl, h'', _⟩
    rw [cfY_of h h', cfY_of h' h'', cfY_of h h'']
    intro h1 h2
    split at h1 <;> split at h2 <;> split <;> omega
  ntrans := by
    rintro _ _ _ ⟨t, c, l, rfl, h, _⟩ ⟨t', c', l', rfl, h', _⟩ ⟨t'', c'', l'', rfl, h'', _⟩
    rw [cfY_of h h', cfY_of h' h'', cfY_of h h'']
    intro h1 h2
    split at h1 <;> split at h2 <;> split <;> omega

/-! The two sorts. -/
theorem sortX_rows (l : List Cell) (hd : l.Nodup) : ((sortX l).map Cell.row).Pairwise fun a b => ¬ cfX b a < 0 := by
  rw [List.pairwise_map]
  refine (sortX_lt hd).imp fun {a b} h => ?_
  rw [cfX_cells]
  simp only [ltX] at *
  omega
theorem cfX_anti {a b : Cell} (h1 : ¬ cfX b.row a.row < 0) (h2 : ¬ cfX a.row b.row < 0) : a = b := by
  rw [cfX_cells] at h1 h2
  cases a; cases b
  simp only [ltX, Cell.mk.injEq] at *
  omega
theorem upAll_VT {s : List Cell} (hon : ∀ c ∈ s, onG c = true) {t : Track} (ht : t ∈ upAll s) : VT t.row := by
  obtain ⟨c, hc, _, l, hl⟩ := upAll_mem hon ht
  exact ⟨t, c, l, rfl, hl, hon c hc⟩
theorem upAll_rows {l : List Cell} (hp : l.Pairwise ltY) (hon : ∀ c ∈ l, onG c = true) : ((upAll l).map Track.row).Pairwise fun a b => ¬ cfY b a < 0 := by
  rw [List.pairwise_map]
  refine List.Pairwise.imp_of_mem (fun {s t} hs ht h => ?_) (upAll_pw hp hon)
  obtain ⟨c, hc, _, l, hl⟩ := upAll_mem hon hs
  obtain ⟨d, hd, _, m, hm⟩ := upAll_mem hon ht
  rw [cfY_of hm hl]
  rw [hl, hm] at h
  simp only [ltY, List.getElem?_cons_zero, Option.getD_some] at h
  split <;> omega
theorem upAll_anti {l : List Cell} (hon : ∀ c ∈ l, onG c = true) {s t : Track} (hs : s ∈ upAll l) (ht : t ∈ upAll l) (h1 : ¬ cfY t.row s.row < 0) (h2 : ¬ cfY s.row t.row < 0) : s = t := by
  obtain ⟨c, hc, e1, l1, hl⟩ := upAll_mem hon hs
  obtain ⟨d, hd, e2, m, hm⟩ := upAll_mem hon ht
  rw [cfY_of hm hl] at h1
  rw [cfY_of hl hm] at h2
  have : c = d := by
    cases c; cases d
    simp only [Cell.mk.injEq] at *
    split at h1 <;> split at h2 <;> omega
  rw [e1, e2, this]

/-- The tracks that cover a region. -/
def linesOf (R : List Row) : List Track := if validR R then regTrk R ++ upAll (regSng R) else []
theorem upAll_len {s : List Cell} : (upAll s).length ≤ s.length := by
  have : ∀ l : List Cell, (l.flatMap (vT s)).length ≤ l.length := by
    intro l
    induction l with
    | nil => simp
    | cons c l ih =>
      rw [List.flatMap_cons, List.length_append, List.length_cons]
      have : (vT s c).length ≤ 1 := by unfold vT; split <;> simp
      omega
  exact this s
end Go.Proofs.Ytknelhiejjdioaa

set_option linter.unusedVariables false
set_option linter.unusedSimpArgs false
namespace Go.Proofs.Ytknelhiejjdioaa
open Go.Abs

/-! Sizes. -/
theorem flat_bound {α β : Type} {f : α → List β} {k n : Nat} {l : List α} (hl : l.length ≤ n) (h : ∀ x ∈ l, (f x).length ≤ k) : (l.flatMap f).length ≤ n * k := by
  have : ∀ m : List α, (∀ x ∈ m, (f x).length ≤ k) → (m.flatMap f).length ≤ m.length * k := by
    intro m
    induction m with
    | nil => simp
    | cons x m ih =>
      intro h
      have h1 := h x (by simp)
      have h2 := ih fun y hy => h y (by simp [hy])
      rw [List.flatMap_cons, List.length_append, List.length_cons, Nat.succ_mul]
      omega
  exact Nat.le_trans (this l h) (Nat.mul_le_mul_right _ hl)
theorem few_rows (R : List Row) : (fewR R).length ≤ 12 ∧ ∀ w ∈ fewR R, w.runs.length ≤ 4 := by
  refine ⟨by simp [fewR]; omega, fun w hw => ?_⟩
  obtain ⟨v, _, rfl⟩ := List.mem_map.1 hw
  simp [fewW]; omega
theorem few_cells {R : List Row} (h : validR (fewR R) = true) : (regCells (fewR R)).length ≤ 393216 := by
  obtain ⟨h1, h2⟩ := few_rows R
  refine flat_bound (n := 12) (k := 32768) h1 fun w hw => flat_bound (n := 4) (k := 8192) (h2 w hw) fun r hr => ?_
  have := row_runs h hw hr
  rw [runCells_len]; omega
theorem few_cells' {R : List Row} (h : validR (fewR R) = true) : (regCells (fewR R)).length ≤ 1000000 := by have := few_cells h; omega
theorem few_cellsOf (R : List Row) : (cellsOf (fewR R)).length ≤ 1000000 := by
  unfold cellsOf
  split
  · rename_i h; exact few_cells' h
  · simp
theorem refL_lines (R : List Row) : refL (cellsOf R) = linesOf R := by
  unfold refL cellsOf linesOf
  split
  · rename_i h
    rw [(ref_trk h).1, (ref_trk h).2]
  · simp [upAll]
theorem lines_len {R : List Row} : (linesOf (fewR R)).length ≤ 96 := by
  unfold linesOf
  split
  · rename_i h
    obtain ⟨h1, h2⟩ := few_rows R
    have e1 : (regTrk (fewR R)).length ≤ 12 * (4 * 1) := flat_bound h1 fun w hw => flat_bound (h2 w hw) fun r hr => by unfold trkOf; split <;> simp
    have e2 : (regSng (fewR R)).length ≤ 12 * (4 * 1) := flat_bound h1 fun w hw => flat_bound (h2 w hw) fun r hr => by unfold sngOf; split <;> simp
    have e3 : (upAll (regSng (fewR R))).length ≤ (regSng (fewR R)).length := upAll_len
    rw [List.length_append]; omega
  · simp
theorem lines_cells {R : List Row} : ∀ t ∈ linesOf R, t.cells.length ≤ 8192 := by
  intro t ht
  unfold linesOf at ht
  split at ht
  · rename_i h
    rcases List.mem_append.1 ht with ht | ht
    · simp only [regTrk, rowTrk, List.mem_flatMap] at ht
      obtain ⟨w, hw, r, hr, ht⟩ := ht
      have := row_runs h hw hr
      unfold trkOf at ht
      split at ht
      · simp at ht
      · simp at ht; subst ht; simp only; rw [runCells_len]; omega
    · obtain ⟨c, hc, rfl, _⟩ := upAll_mem (fun c hc => cells_on h (sng_mem h hc)) ht
      have hg := onG_bd (cells_on h (sng_mem h hc))
      have := vN_len (regSng R) (4096 - c.y).toNat c
      simp only [trk, vch]; omega
  · simp at ht
end Go.Proofs.Ytknelhiejjdioaa

set_option linter.unusedVariables false
set_option linter.unusedSimpArgs false
namespace Go.Abs

def effY (P : Program) (f : FuncId) (c : XC) (ti : List (Nat × Nat)) (obj : Nat → Option Ob) (args : List AV) : Eff :=
  { val := dn (swp ti) c.r, wr := gone c.σ ++ back (swp ti) c.hp' ti,
    ob := (rnsOk c.σ c.as args ∧ hpOk obj c.σ c.hp ∧ nodupB (c.σ.map (·.2)) = true ∧ c.σ.map (·.1) = c.hp.map (·.1) ∧ nodupB (ti.map (·.1)) = true ∧ nodupB (ti.map (·.2)) = true) ∧ PX P f c.as c.hp c.pin c.hp' c.r }

/-- What a call leaves that makes objects with the names N. -/
def AfterN (g : G) (obj : Nat → Option Ob) (w : World) (N : Nat → Prop) (e : Eff) (v : Value) (w' : World) : Prop :=
  ∃ g', HRel g' (updL obj e.wr) w' ∧ Step g w g' w' ∧ Later g w g' w' ∧ (∀ k, g'.used k → g.used k ∨ N k) ∧ RepA g' w' e.val v

theorem y_sound {P : Program} {f : FuncId} {g : G} {obj : Nat → Option Ob} {w : World} (h : HRel g obj w) {c : XC} {ti : List (Nat × Nat)} {N : Nat → Prop} (hid : ∀ x, N x → ¬ g.used x) (hti : ∀ x j, find ti x = some j → N x ∨ ∃ i, (i, j) ∈ c.pin ∧ find c.σ i = some x) {args : List AV} {us : List Value} (hargs : RepAs g w args us) (hob : (effY P f c ti obj args).ob) :
    Calls P f us.toArray w fun e w' => ∃ v, e = .returned v ∧ AfterN g obj w N (effY P f c ti obj args) v w' := by
  obtain ⟨⟨ha, hhp, hσ0, hdom, ht10, ht20⟩, _, hpx⟩ := hob
  have hσ := nodup_of hσ0
  have ht1 := nodup_of ht10
  have ht2 := nodup_of ht20
  have hin : ∀ {i x}, find c.σ i = some x → (find c.hp i).isSome = true := fun {i x} hi => by
    have := find_key hi
    rw [hdom] at this
    obtain ⟨v, hv⟩ := find_some_of_key this
    rw [hv]; rfl
  let g0 : G := via g c.σ c.hp
  have hloc0 : ∀ i x, find c.σ i = some x → g0.loc i = g.loc x := fun i x hi => via_loc hi
  have hused0 : ∀ i x, find c.σ i = some x → g0.used i := fun i x hi => hin hi
  have hl0 : ∀ i L, g0.loc i = some L → ∃ x, find c.σ i = some x ∧ g.loc x = some L := fun i L hL => via_loc' hL
  have hH0 : HRel g0 (objL c.hp) w := via_rel h hhp hσ hdom
  refine (hpx g0 w us hH0 (fun _ hk => hk) (rnsOk_rep hused0 hloc0 (fun _ hb => hb) ha hargs)).mono fun e w' ⟨v, g1, he, hH1, hr1, hs1, hp1⟩ => ⟨v, he, ?_⟩
  have hown0 : ∀ b, g0.owns b → ∃ x, x ∈ c.σ.map (·.2) ∧ ∃ L, g.loc x = some L ∧ L.virt = false ∧ L.blk = b := by
    rintro b ⟨i, L, hL, hv, hb⟩
    obtain ⟨x, h1, h2⟩ := hl0 i L hL
    exact ⟨x, find_val h1, L, h2, hv, hb⟩
  have hkeep : ∀ x L, x ∉ c.σ.map (·.2) → g.loc x = some L → L.virt = false → ¬ g0.owns L.blk := by
    rintro x L hx hL hv ho
    obtain ⟨y, hy, M, hM, hvM, hb⟩ := hown0 _ ho
    have := h.inj y x M L hM hL hvM hv hb
    exact hx (this ▸ hy)
  let g2 : G := ⟨g1.ro, fun x => match find ti x with | some j => g1.loc j | none => if x ∈ c.σ.map (·.2) then none else g.loc x, fun x => g.used x ∨ find ti x ≠ none⟩
  have hg2t : ∀ x j, find ti x = some j → g2.loc x = g1.loc j := fun x j hx => by simp only [g2, hx]
  have hg2n : ∀ x, find ti x = none → g2.loc x = if x ∈ c.σ.map (·.2) then none else g.loc x := fun x hx => by simp only [g2, hx]
  have hτ : ∀ i x, find (swp ti) i = some x → find ti x = some i := fun i x hi => swp_find ht1 ht2 hi
  have hlater : Later g w g2 w' := by
    refine ⟨fun b hb => ⟨hs1.ro b hb, ?_⟩, fun x hx => .inl hx, fun x hx => ?_⟩
    · refine hs1.block b (h.ro b hb) fun ho => ?_
      obtain ⟨y, hy, M, hM, hvM, hbb⟩ := hown0 b ho
      exact ((h.live y M hM).2 hvM).2 (hbb ▸ hb)
    · cases hf : find ti x with
      | none =>
        rw [hg2n x hf]
        split
        · exact .inr rfl
        · exact .inl rfl
      | some j =>
        rcases hti x j hf with hN | ⟨i, h1, h2⟩
        · exact absurd hx (hid x hN)
        · left
          rw [hg2t x j hf, hp1 i j h1, hloc0 i x h2]
  have hobj2 : ∀ x, updL obj (effY P f c ti obj args).wr x = match find ti x with
      | some j => (find c.hp' j).map fun o => ⟨o.elem, o.m, dnR (swp ti) o.rows⟩
      | none => if x ∈ c.σ.map (·.2) then none else obj x := by
    intro x
    simp only [effY]
    rw [updL_append, updL_get (by rw [back_keys]; exact ht1), updL_get (by rw [gone_keys]; exact hσ), back_find, gone_find]
    cases find ti x with
    | some j => rfl
    | none => simp only [Option.map_none, Option.getD_none]; split <;> rfl
  refine ⟨g2, ⟨?_, ?_, ?_, ?_, hH1.ro⟩, ?_, hlater, ?_, ?_⟩
  · intro x o ho
    rw [hobj2] at ho
    cases hf : find ti x with
    | some j =>
      rw [hf] at ho
      simp only [Option.map_eq_some_iff] at ho
      obtain ⟨o1, ho1, rfl⟩ := ho
      obtain ⟨L, hL, hok⟩ := hH1.own j o1 ho1
      refine ⟨L, by rw [hg2t x j hf]; exact hL, hok.m, hok.pos, by simpa only [dnR_length] using hok.len, fun hv => by simp [hok.virt hv, dnR], fun hv => ?_, fun hv => ⟨(hok.ents hv).1, (hok.ents hv).2.imp fun es he => he.imp fun clock he => ⟨he.1, he.2.1, dnR_ents (fun i y hy => Or.inr (by rw [hτ i y hy]; simp)) (fun i y hy => hg2t y i (hτ i y hy)) (fun _ hb => hb) _ _ he.2.2⟩⟩⟩
      obtain ⟨cur, c1, c2, c3, c5⟩ := hok.cells hv
      refine ⟨cur, c1, c2, c3, fun k row hi => ?_⟩
      obtain ⟨r0, hr0, rfl⟩ := dnR_get _ _ k row hi
      obtain ⟨d1, d2⟩ := c5 k r0 hr0
      refine ⟨by rw [dnL_length]; exact d1, fun q av hq => ?_⟩
      obtain ⟨a0, ha0, rfl⟩ := dnL_get _ _ q av hq
      obtain ⟨u, q1, q2, q3⟩ := d2 q a0 ha0
      exact ⟨u, q1, q2, dn_rep (fun i y hy => Or.inr (by rw [hτ i y hy]; simp)) (fun i y hy => hg2t y i (hτ i y hy)) (fun _ hb => hb) _ _ q3⟩
    | none =>
      rw [hf] at ho
      simp only at ho
      split at ho
      · cases ho
      · rename_i hx
        obtain ⟨L, hL, hok⟩ := h.own x o ho
        exact ⟨L, by rw [hg2n x hf, if_neg hx]; exact hL, hok.later hlater fun hv => hs1.block _ ((h.live x L hL).2 hv).1 (hkeep x L hx hL hv)⟩
  · intro x hx
    rw [hobj2] at hx
    cases hf : find ti x with
    | some j =>
      rw [hf] at hx
      rw [hg2t x j hf]
      simp only [Option.map_eq_none_iff] at hx
      exact hH1.gone j hx
    | none =>
      rw [hf] at hx
      simp only at hx
      rw [hg2n x hf]
      split
      · rfl
      · rename_i hn; rw [if_neg hn] at hx; exact h.gone x hx
  · intro x L hL
    cases hf : find ti x with
    | some j =>
      rw [hg2t x j hf] at hL
      exact ⟨.inr (by rw [hf]; simp), (hH1.live j L hL).2⟩
    | none =>
      rw [hg2n x hf] at hL
      split at hL
      · cases hL
      · rename_i hx
        refine ⟨.inl (h.live x L hL).1, fun hv => ⟨Nat.lt_of_lt_of_le ((h.live x L hL).2 hv).1 hs1.size, fun hro => ?_⟩⟩
        rcases hs1.ro' _ hro with h1 | h1 | h1
        · exact ((h.live x L hL).2 hv).2 h1
        · have := ((h.live x L hL).2 hv).1; omega
        · exact hkeep x L hx hL hv h1
  · intro x y L L' hL hL' hv hv' hb
    have mix : ∀ x y L L', (∃ j, find ti x = some j) → find ti y = none → g2.loc x = some L → g2.loc y = some L' → L.virt = false → L'.virt = false → L.blk = L'.blk → False := by
      rintro x y L L' ⟨j, hx⟩ hy hL hL' hv hv' hb
      rw [hg2t x j hx] at hL
      rw [hg2n y hy] at hL'
      split at hL'
      · cases hL'
      · rename_i hny
        rcases hs1.own L.blk ⟨j, L, hL, hv, rfl⟩ with h1 | h1
        · have := ((h.live y L' hL').2 hv').1; omega
        · exact hkeep y L' hny hL' hv' (hb ▸ h1)
    cases hx : find ti x with
    | some j =>
      cases hy : find ti y with
      | some k =>
        rw [hg2t x j hx] at hL
        rw [hg2t y k hy] at hL'
        have := hH1.inj j k L L' hL hL' hv hv' hb
        subst this
        exact find_inj2 ht2 hx hy
      | none => exact (mix x y L L' ⟨j, hx⟩ hy hL hL' hv hv' hb).elim
    | none =>
      cases hy : find ti y with
      | some k => exact (mix y x L' L ⟨k, hy⟩ hx hL' hL hv' hv hb.symm).elim
      | none =>
        rw [hg2n x hx] at hL
        rw [hg2n y hy] at hL'
        split at hL
        · cases hL
        · split at hL'
          · cases hL'
          · exact h.inj x y L L' hL hL' hv hv' hb
  · refine ⟨hs1.os, hs1.tape, hs1.output, hs1.size, fun b hb hn => hs1.block b hb fun ho => hn ?_, ?_, fun b hb => hs1.ro b hb, fun b hb => ?_⟩
    · obtain ⟨x, _, L, h1, h2, h3⟩ := hown0 b ho
      exact ⟨x, L, h1, h2, h3⟩
    · rintro b ⟨x, L, hL, hv, hb⟩
      cases hf : find ti x with
      | some j =>
        rw [hg2t x j hf] at hL
        rcases hs1.own b ⟨j, L, hL, hv, hb⟩ with h1 | h1
        · exact .inl h1
        · obtain ⟨y, _, M, q1, q2, q3⟩ := hown0 b h1
          exact .inr ⟨y, M, q1, q2, q3⟩
      | none =>
        rw [hg2n x hf] at hL
        split at hL
        · cases hL
        · exact .inr ⟨x, L, hL, hv, hb⟩
    · rcases hs1.ro' b hb with h1 | h1 | h1
      · exact .inl h1
      · exact .inr (.inl h1)
      · obtain ⟨y, _, M, q1, q2, q3⟩ := hown0 b h1
        exact .inr (.inr ⟨y, M, q1, q2, q3⟩)
  · intro k hk
    rcases hk with hk | hk
    · exact .inl hk
    · cases hf : find ti k with
      | none => exact absurd hf hk
      | some j =>
        rcases hti k j hf with hN | ⟨i, h1, h2⟩
        · exact .inr hN
        · have h3 := hin h2
          obtain ⟨o, ho⟩ := Option.isSome_iff_exists.1 h3
          obtain ⟨x', o', q1, q2, _⟩ := hpOk_find hhp i o ho
          rw [h2] at q1
          cases q1
          obtain ⟨L, hL, _⟩ := h.own k o' q2
          exact .inl (h.live k L hL).1
  · exact dn_rep (fun i y hy => Or.inr (by rw [hτ i y hy]; simp)) (fun i y hy => hg2t y i (hτ i y hy)) (fun _ hb => hb) _ _ hr1

theorem wpT_sound2 {P : Program} {ty : TypeId → Option TI} (hc : Ctx P ty) {orc : List (Nat × Res)} {gs : List (Option Tmp)} {ops : Array Oper} (hgs : ∀ j : Nat, gs[j]? = (ops[j]?).map fun o : Oper => o.dst) {base nxt : Nat} {Q : Exit → Act → World → Prop} {K : St → Prop} {g0 : G} {w0 : World}
    {l2 : List Oper} {en n0 : Nat} (hQ : ∀ s g a w, s.nxt = nxt → s.n = n0 → Rel (· < base + en) g s.get s.obj s.n a w → Step g0 w0 g w → K s → wpList P ops Q l2 a w) :
    ∀ (l : List Oper) (i : Nat) (s : St) (g : G) (a : Act) (w : World), i + l.length = en → s.nxt = nxt → s.n = n0 → Rel (· < base + i) g s.get s.obj s.n a w → Step g0 w0 g w → wpT ty P orc gs base i l s K → wpList P ops Q (l ++ l2) a w
  | [], i, s, g, a, w, hle, hnx, hn0, h, hs, hk => hQ s g a w hnx hn0 (by simp at hle; rw [← hle]; exact h) hs hk
  | o :: rest, i, s, g, a, w, hle, hnx, hn0, h, hs, hk => by
    simp only [List.length_cons] at hle
    have hargs : RepAs g w (o.op.operands.toList.map s.eval) (o.op.operands.toList.map a.eval) := by
      refine RepAs.of_get (by simp) fun j av hj => ?_
      rw [List.getElem?_map] at hj ⊢
      cases hx : o.op.operands.toList[j]? with
      | none => rw [hx] at hj; cases hj
      | some x => rw [hx] at hj; cases hj; exact ⟨a.eval x, rfl, eval_rep h (fun _ => rfl) x⟩
    have relapp : ∀ (e : Eff) (g' : G) (a' : Act) (w' : World), Rel (fun k => k < base + i ∨ k = base + i) g' (putG s.get o.dst e.val) (updL s.obj e.wr) s.n a' w' → Rel (· < base + (i + 1)) g' (s.app o.dst e).get (s.app o.dst e).obj (s.app o.dst e).n a' w' := by
      intro e g' a' w' hr
      have hn : (s.app o.dst e).n = s.n := by unfold St.app St.put; cases o.dst <;> rfl
      rw [hn]
      exact ⟨hr.defers, hr.size, fun t => by rw [app_get]; exact hr.tmp t, fun id hu => by
        have := hr.used id hu
        show id < base + (i + 1)
        rcases this with hh | hh <;> omega, by
        have : (s.app o.dst e).obj = updL s.obj e.wr := funext (app_obj s o.dst e)
        rw [this]; exact hr.heap⟩
    have hnapp : ∀ e, (s.app o.dst e).nxt = nxt := fun e => by rw [← hnx]; unfold St.app St.put; cases o.dst <;> rfl
    have hna : ∀ e, (s.app o.dst e).n = s.n := fun e => by unfold St.app St.put; cases o.dst <;> rfl
    have hnput : ∀ v, (s.put o.dst v).nxt = nxt := fun v => by rw [← hnx]; unfold St.put; cases o.dst <;> rfl
    have hnn : ∀ v, (s.put o.dst v).n = s.n := fun v => by unfold St.put; cases o.dst <;> rfl
    have relput : ∀ (v : AV) (g' : G) (a' : Act) (w' : World) (U : Nat → Prop), (∀ k, U k → k < base + (i + 1)) → Rel U g' (putG s.get o.dst v) s.obj s.n a' w' → Rel (· < base + (i + 1)) g' (s.put o.dst v).get (s.put o.dst v).obj (s.put o.dst v).n a' w' := by
      intro v g' a' w' U hU hr
      rw [hnn]
      have := hr.congr (get' := (s.put o.dst v).get) (obj' := (s.put o.dst v).obj) (fun t => St.get_put s o.dst v t) (fun id => put_obj s o.dst v id)
      exact ⟨this.defers, this.size, this.tmp, fun k hk => hU k (this.used k hk), this.heap⟩
    have skipped : ∀ v, (∀ d, o.dst = some d → d < s.n) → RepA g w v undef → wpT ty P orc gs base (i + 1) rest (s.put o.dst v) K → wpList P ops Q (rest ++ l2) (a.put o.dst undef) w := by
      intro v hd hv hrest
      have hr := rel_put (U' := (· < base + i)) (dst := o.dst) (v := v) (u := undef) h h.heap ⟨fun b hb => ⟨hb, rfl⟩, fun _ hx => hx, fun _ _ => .inl rfl⟩ (fun k hk => h.used k hk) hv hd
      exact wpT_sound2 (nxt := nxt) hc hgs hQ rest (i + 1) _ g _ w (by omega) (hnput v) ((hnn v).trans hn0) (relput v g _ w _ (fun k hk => by omega) hr) hs hrest
    simp only [List.cons_append, wpList]
    unfold wpT at hk
    split at hk
    · rename_i hg
      have hw : Region.wanted o (yielded ops a.tmps) = true := by simp [Region.wanted, hg]
      rw [if_pos hw]
      left
      unfold doOp at hk
      split at hk
      · rename_i e he
        obtain ⟨hob, hd, hrest⟩ := hk
        exact op_step hc (nid := base + i) h (by simp) hargs he hob (fun d hd' => by rw [hd'] at hd; exact hd) fun g' a' w' hr hst =>
          wpT_sound2 (nxt := nxt) hc hgs hQ rest (i + 1) (s.app o.dst e) g' a' w' (by omega) (hnapp e) ((hna e).trans hn0) (relapp e g' a' w' hr) (hs.trans hst) hrest
      · exact hk.elim
    · rename_i j want hg
      split at hk
      · rename_i x hgv
        have hw := guard_wanted (a := a) hgs h.tmp hg hgv
        rw [hw]
        obtain ⟨hd, hk⟩ := hk
        have hd' : ∀ d, o.dst = some d → d < s.n := fun d hd' => by rw [hd'] at hd; exact hd
        split at hk
        · rename_i e he
          split at hk
          · rename_i hwr
            obtain ⟨hexec, hrest⟩ := hk
            cases x with
            | true =>
              rw [if_pos rfl]
              left
              obtain ⟨hso, hob⟩ := hexec rfl
              refine op_step hc (nid := base + i) h (by simp) (strips_repG hargs hso) he hob hd' fun g' a' w' hr hst => ?_
              rw [hwr] at hr
              exact wpT_sound2 (nxt := nxt) hc hgs hQ rest (i + 1) _ g' a' w' (by omega) (hnput _) ((hnn _).trans hn0) (relput _ g' a' w' _ (fun k hk => by rcases hk with hh | hh <;> omega) hr.opt) (hs.trans hst) hrest
            | false =>
              rw [if_neg (by simp)]
              exact skipped _ hd' (by simp [RepA]) hrest
          · obtain ⟨rfl, hso, hob, hrest⟩ := hk
            rw [if_pos rfl]
            left
            exact op_step hc (nid := base + i) h (by simp) (strips_repG hargs hso) he hob hd' fun g' a' w' hr hst =>
              wpT_sound2 (nxt := nxt) hc hgs hQ rest (i + 1) (s.app o.dst e) g' a' w' (by omega) (hnapp e) ((hna e).trans hn0) (relapp e g' a' w' hr) (hs.trans hst) hrest
        · obtain ⟨rfl, hrest⟩ := hk
          rw [if_neg (by simp)]
          exact skipped _ hd' (by simp [RepA]) hrest
      · exact hk.elim


/-- The new names of a call. -/
def freshOk (lo n : Nat) : List (Nat × Nat) → Prop
  | [] => True
  | (x, _) :: r => (lo ≤ x ∧ x < lo + n) ∧ freshOk lo n r
theorem freshOk_find {lo n x j : Nat} : ∀ {l : List (Nat × Nat)}, freshOk lo n l → find l x = some j → lo ≤ x ∧ x < lo + n
  | [], _, h => by simp [find] at h
  | (y, k) :: r, hl, h => by
    simp only [freshOk] at hl
    simp only [find] at h
    split at h
    · rename_i e; rw [← e]; exact hl.1
    · exact freshOk_find hl.2 h
theorem find_append' {α : Type} (x : Nat) : ∀ (a b : List (Nat × α)), find (a ++ b) x = (find a x).or (find b x)
  | [], b => by simp [find]
  | (y, k) :: r, b => by
    simp only [List.cons_append, find]
    split
    · rfl
    · exact find_append' x r b

/-- A REGION IN THE TEXT's ORDER with one call that makes m more objects than one. -/
theorem awp_region2 {P : Program} {ty : TypeId → Option TI} (hc : Ctx P ty) (orc : List (Nat × Res)) {id : Nat} {l pre post : List Oper} {o : Oper} (hl : l = pre ++ o :: post) (hg : o.guard = none) {cl : Call} {fo : Operand} (ho : o.op = .call cl) (hcal : cl.callee = .value fo) (m : Nat) (c : XC) (fr : List (Nat × Nat)) {Q : Exit → St → Prop} {s : St}
    (h : ∀ K : St → Prop, (∀ s', Q .normal s' → K s') → wpT ty P orc (l.map (·.dst)) s.nxt 0 pre { s with nxt := s.nxt + l.length + m } fun s1 =>
      match calleeA (s1.eval fo) with
      | some q => freshOk (s.nxt + pre.length) (m + 1) fr ∧ (effY P q.1 c (fr ++ pinT c.σ c.pin) s1.obj (cl.args.toList.map s1.eval ++ q.2)).ob ∧ (match o.dst with | some d => d < s1.n | none => True) ∧
          wpT ty P orc (l.map (·.dst)) (s.nxt + m) (pre.length + 1) post (s1.app o.dst (effY P q.1 c (fr ++ pinT c.σ c.pin) s1.obj (cl.args.toList.map s1.eval ++ q.2))) K
      | none => False) : AWp P (.region id l.toArray false) Q s := by
  intro g a w hr
  refine wp_region ?_
  have hgs : ∀ j : Nat, (l.map (·.dst))[j]? = (l.toArray[j]?).map fun o : Oper => o.dst := by intro j; simp
  have hlen : l.length = pre.length + 1 + post.length := by rw [hl]; simp; omega
  have hh := h _ fun _ hq => hq
  have key : wpList P l.toArray (fun e a' w' => ∃ s' g', RelS s' g' a' w' ∧ Step g w g' w' ∧ Q e s') l a w := by
    have h2 := wpT_sound2 (P := P) hc (orc := orc) (gs := l.map (·.dst)) (ops := l.toArray) hgs (base := s.nxt) (nxt := s.nxt + l.length + m)
      (Q := fun e a' w' => ∃ s' g', RelS s' g' a' w' ∧ Step g w g' w' ∧ Q e s') (g0 := g) (w0 := w) (l2 := o :: post) (en := pre.length) (n0 := s.n) (K := fun s1 =>
        match calleeA (s1.eval fo) with
        | some q => freshOk (s.nxt + pre.length) (m + 1) fr ∧ (effY P q.1 c (fr ++ pinT c.σ c.pin) s1.obj (cl.args.toList.map s1.eval ++ q.2)).ob ∧ (match o.dst with | some d => d < s1.n | none => True) ∧
            wpT ty P orc (l.map (·.dst)) (s.nxt + m) (pre.length + 1) post (s1.app o.dst (effY P q.1 c (fr ++ pinT c.σ c.pin) s1.obj (cl.args.toList.map s1.eval ++ q.2))) fun s' => Q .normal s'
        | none => False) ?_ pre 0 { s with nxt := s.nxt + l.length + m } g a w (by simp) rfl rfl ⟨hr.defers, hr.size, hr.tmp, fun id hu => by have := hr.used id hu; simpa using this, hr.heap⟩ (Step.refl g w) hh
    · rw [← hl] at h2; exact h2
    · intro s1 g1 a1 w1 hnx hn0 hrel hst hk
      simp only [wpList]
      have hw : Region.wanted o (yielded l.toArray a1.tmps) = true := by simp [Region.wanted, hg]
      rw [if_pos hw]
      left
      have hev : ∀ x : Operand, RepA g1 w1 (s1.eval x) (a1.eval x) := fun x => eval_rep hrel (fun _ => rfl) x
      cases hq : calleeA (s1.eval fo) with
      | none => rw [hq] at hk; exact hk.elim
      | some q =>
        rw [hq] at hk
        obtain ⟨hfr, hob, hd, hrest⟩ := hk
        obtain ⟨k, caps⟩ := q
        have hargs : RepAs g1 w1 (cl.args.toList.map s1.eval) (cl.args.toList.map a1.eval) := by
          refine RepAs.of_get (by simp) fun j av hj => ?_
          rw [List.getElem?_map] at hj ⊢
          cases hx : cl.args.toList[j]? with
          | none => rw [hx] at hj; cases hj
          | some x => rw [hx] at hj; cases hj; exact ⟨a1.eval x, rfl, hev x⟩
        have hf : ∃ cs : List Value, a1.eval fo = .func (.func k) #[] cs.toArray ∧ RepAs g1 w1 caps cs := by
          have hfv := hev fo
          unfold calleeA at hq
          split at hq
          · rename_i heq
            cases hq
            rw [heq] at hfv
            simp only [RepA, RepD] at hfv
            obtain ⟨cs, h1, h2⟩ := hfv
            exact ⟨cs, h1, RepAs.of_ds h2⟩
          · rename_i heq
            cases hq
            rw [heq] at hfv
            simp only [RepA] at hfv
            exact hfv
          · cases hq
        obtain ⟨cs, hcs, hrc⟩ := hf
        obtain ⟨fn, hfn, hname, hbody⟩ := hob.2.1
        have hrun : (execOp a1.eval o).run P w1 = .ok (.enter k ((cl.args.toList.map a1.eval) ++ cs).toArray) w1 := by
          unfold execOp
          simp only [ho, resolve, hcal, Deferred.ofValue, hcs, Sem.run_bind, Sem.run_pure, Result.andThen_ok, invoke, callFunc, run_program, hfn, hname, hbody, Bool.false_eq_true, if_false]
          congr 2
          simp
        have hys := y_sound (N := fun x => s.nxt + pre.length ≤ x ∧ x < s.nxt + pre.length + (m + 1)) hrel.heap (fun x hx hu => by have := hrel.used x hu; omega) (c := c) (ti := fr ++ pinT c.σ c.pin) (fun x j hxj => by
          rw [find_append'] at hxj
          cases hfx : find fr x with
          | some j' => exact .inl (freshOk_find hfr hfx)
          | none =>
            rw [hfx] at hxj
            exact .inr (pinT_find hxj)) (hargs.append hrc) hob
        refine does_calls hrun hys _ _ fun v w2 hA => ?_
        obtain ⟨g2, k1, k2, k3, k4, k5⟩ := hA
        have hput := rel_put (U' := fun x => x < s.nxt + m + (pre.length + 1)) (dst := o.dst) hrel k1 k3 (fun x hx => by
          rcases k4 x hx with hx | hx
          · have := hrel.used x hx; omega
          · omega) k5 (fun d hd' => by rw [hd'] at hd; exact hd)
        have hn : (s1.app o.dst (effY P k c (fr ++ pinT c.σ c.pin) s1.obj (cl.args.toList.map s1.eval ++ caps))).n = s1.n := by unfold St.app St.put; cases o.dst <;> rfl
        have hnx' : (s1.app o.dst (effY P k c (fr ++ pinT c.σ c.pin) s1.obj (cl.args.toList.map s1.eval ++ caps))).nxt = s.nxt + l.length + m := by rw [← hnx]; unfold St.app St.put; cases o.dst <;> rfl
        refine wpT_sound (P := P) hc (orc := orc) (gs := l.map (·.dst)) (ops := l.toArray) hgs (base := s.nxt + m) (nxt := s.nxt + l.length + m) (K := fun s' => Q .normal s') (g0 := g) (w0 := w)
          (fun s' g' a' w' h1 h2 h3 => ⟨s', g', h1, h2, h3⟩) post (pre.length + 1) _ g2 _ w2 (by omega) hnx' ?_ (hst.trans k2) hrest
        rw [hn]
        exact ⟨hput.defers, hput.size, fun t => by rw [app_get]; exact hput.tmp t, hput.used, by
          have : (s1.app o.dst (effY P k c (fr ++ pinT c.σ c.pin) s1.obj (cl.args.toList.map s1.eval ++ caps))).obj = updL s1.obj (effY P k c (fr ++ pinT c.σ c.pin) s1.obj (cl.args.toList.map s1.eval ++ caps)).wr := funext (app_obj s1 o.dst _)
          rw [this]; exact hput.heap⟩
  have := wpOps_eq_wpList (P := P) (ops := l.toArray) (Q := fun e a' w' => ∃ s' g', RelS s' g' a' w' ∧ Step g w g' w' ∧ Q e s') l 0 (by intro j; simp)
  rw [show List.range l.toArray.size = List.range' 0 l.length by simp [List.range_eq_range'], this]
  exact key
end Go.Abs

set_option linter.unusedVariables false
set_option linter.unusedSimpArgs false
namespace Go.Proofs.Ytknelhiejjdioaa
open Go.Abs

theorem sortCell_px (l : List Cell) (hd : l.Nodup) (hon : ∀ c ∈ l, onG c = true) (hl : l.length ≤ 1000000) : PX Try.prog 60 [.hs 0 0 l.length, .d (.fn (.func 61) [])] [(0, ⟨31, 2, dr (l.map Cell.row)⟩)] [(0, 0)] [(0, ⟨31, 2, dr ((sortX l).map Cell.row)⟩)] (.tup []) := by
  have h := sortFunc_all (P := Try.prog) sortCell_lays (k := 2) (by decide) (fun w => by kernel_rfl) (fun w => by kernel_rfl) ⟨_, Try.func60, by kernel_rfl, by kernel_rfl⟩ (cg := 61) (fun args w => by kernel_rfl) cmpX_ok cfX_ord 31 (rows := l.map Cell.row) (rows' := (sortX l).map Cell.row)
    (fun r hr => by obtain ⟨c, hc, rfl⟩ := List.mem_map.1 hr; exact ⟨c, rfl, hon c hc⟩)
    (fun a ha b hb h1 h2 => by
      obtain ⟨c, hc, rfl⟩ := List.mem_map.1 ha
      obtain ⟨d, hd, rfl⟩ := List.mem_map.1 hb
      rw [cfX_anti h2 h1])
    ((sortX_perm l).map _) (sortX_rows l hd) (by simp; omega)
  simp only [List.length_map] at h
  exact h
theorem sortTrack_px (s l : List Cell) (hp : s.Perm l) (hl : l.Pairwise ltY) (hon : ∀ c ∈ l, onG c = true) (hn : l.length ≤ 1000000) : PX Try.prog 63 [.hs 0 0 (upAll s).length, .d (.fn (.func 64) [])] [(0, ⟨42, 3, dr ((upAll s).map Track.row)⟩)] [(0, 0)] [(0, ⟨42, 3, dr ((upAll l).map Track.row)⟩)] (.tup []) := by
  have hs : ∀ c ∈ s, onG c = true := fun c hc => hon c (hp.mem_iff.1 hc)
  have hlen : (upAll s).length ≤ s.length := upAll_len
  have hsl := hp.length_eq
  have h := sortFunc_all (P := Try.prog) sortTrack_lays (k := 3) (by decide) (fun w => by kernel_rfl) (fun w => by kernel_rfl) ⟨_, Try.func63, by kernel_rfl, by kernel_rfl⟩ (cg := 64) (fun args w => by kernel_rfl) cmpY_ok cfY_ord 42 (rows := (upAll s).map Track.row) (rows' := (upAll l).map Track.row)
    (fun r hr => by obtain ⟨t, ht, rfl⟩ := List.mem_map.1 hr; exact upAll_VT hs ht)
    (fun a ha b hb h1 h2 => by
      obtain ⟨c, hc, rfl⟩ := List.mem_map.1 ha
      obtain ⟨d, hd, rfl⟩ := List.mem_map.1 hb
      rw [upAll_anti hs hc hd h1 h2])
    ((upAll_perm hp.symm).map _) (upAll_rows hl hon) (by simp; omega)
  simp only [List.length_map] at h
  exact h

set_option maxHeartbeats 4000000 in
theorem lines_ok (R : List Row) (hR : smallR R) (hn : validR R = true → (regCells R).length ≤ 1000000) : PC Try.prog 37 [.agg (regRow R)] (.p (encTracks (linesOf R))) := by
  have c1 := valid_ok R hR
  have hL : linesOf R = if validR R then regTrk R ++ upAll (regSng R) else [] := rfl
  have hv0 : validR R = validR R := rfl
  generalize hv : validR R = v at c1 hL hn
  refine pc_of_awp cx (fn := Try.f37) (c := _) Try.func37 rfl rfl (Nat.le_of_ble_eq_true rfl) ?_
  rw [Try.ntmps37]; refine Nav.imp ?_
  refine awp_region cx [] fun K hK => ?_
  simp [push_cast]
  repeat (refine And.intro (by clear hK; intros; first | omega | (simp_all; done) | (simp_all <;> omega)) ?_)
  refine hK _ ?_; clear hK K; refine Nav.imp ?_
  refine awp_region cx [(1, .p (.bool v))] fun K hK => ?_
  simp [push_cast, c1]
  repeat (refine And.intro (by clear hK; intros; first | omega | (simp_all; done) | (simp_all <;> omega)) ?_)
  refine hK _ ?_; clear hK K; refine Nav.imp ?_
  refine awp_cond (b := !v) (by simp [push_cast]) (fun hb => ?_) (fun hb => ?_) <;> (refine Nav.imp ?_)
  · simp at hb
    rw [hL, hb]
    refine awp_region cx [] fun K hK => ?_
    simp [push_cast]
    repeat (refine And.intro (by clear hK; intros; first | omega | (simp_all; done) | (simp_all <;> omega)) ?_)
    refine hK _ ?_; clear hK K; refine Nav.imp ?_
    simp [push_cast]
  · simp at hb
    rw [hb] at hv hL
    rw [if_pos rfl] at hL
    have hn := hn hb
    have c2 := wide_ok R hR hv hn
    have hle := reg_le hv
    have c3 := sortCell_px (regSng R) (nodup_of_ltY (sng_pw hv)) (fun c hc => cells_on hv (sng_mem hv hc)) (by omega)
    have hpw := sortX_lt (nodup_of_ltY (sng_pw hv))
    have hon : ∀ c ∈ sortX (regSng R), onG c = true := fun c hc => cells_on hv (sng_mem hv ((sortX_mem c).1 hc))
    have c4 := sortTrack_px (sortX (regSng R)) (regSng R) (sortX_perm _) (sng_pw hv) (fun c hc => cells_on hv (sng_mem hv hc)) (by omega)
    have hsl : (sortX (regSng R)).length = (regSng R).length := (sortX_perm _).length_eq
    have hul : (upAll (regSng R)).length ≤ (regSng R).length := upAll_len
    have hul2 : (upAll (sortX (regSng R))).length = (upAll (regSng R)).length := (upAll_perm (sortX_perm _)).length_eq
    generalize sortX (regSng R) = s at *
    generalize regSng R = q at *
    generalize regTrk R = T at *
    rw [hL]
    clear hL
    refine awp_region2 cx [] (pre := [_]) rfl rfl rfl rfl 1 ⟨[], [.d (.agg (regRow R))], [], [], none, [(1, ⟨42, 3, dr (T.map Track.row)⟩), (2, ⟨31, 2, dr (q.map Cell.row)⟩)], .tup [.hs 1 0 T.length, .hs 2 0 q.length]⟩ [(6, 1), (7, 2)] fun K hK => ?_
    simp [push_cast, effY, freshOk, c2]
    refine hK _ ?_; clear hK K
    refine Nav.imp ?_
    have hq63 : q.length ≤ 1000000 := by omega
    refine awp_region cx [(1, .x ⟨[(0, 7)], [.hs 0 0 q.length, .d (.fn (.func 61) [])], [(0, ⟨31, 2, dr (q.map Cell.row)⟩)], [(0, 0)], none, [(0, ⟨31, 2, dr (s.map Cell.row)⟩)], .tup []⟩)] fun K hK => ?_
    simp [push_cast, c3]
    repeat (refine And.intro (by clear hK; intros; first | omega | (simp_all; done) | (simp_all <;> omega)) ?_)
    refine hK _ ?_; clear hK K; refine Nav.imp ?_
    rw [← hsl]
    refine awp_freeze 7 (s.map Cell.row) rfl (by simp [push_cast]) fun K hK => ?_
    simp [push_cast, St.fz, fzT, fzH, fzO, fz, fzL, fzR, fzR_dr, fzR_app, fzR_set, fzL_map]
    refine hK _ ?_; clear hK K; refine Nav.imp ?_
    refine awp_region cx [] fun K hK => ?_
    simp [push_cast]
    repeat (refine And.intro (by clear hK; intros; first | omega | (simp_all; done) | (simp_all <;> omega)) ?_)
    refine hK _ ?_; clear hK K; refine Nav.imp ?_
    refine awp_region cx [] fun K hK => ?_
    simp [push_cast]
    repeat (refine And.intro (by clear hK; intros; first | omega | (simp_all; done) | (simp_all <;> omega)) ?_)
    refine hK _ ?_; clear hK K; refine Nav.imp ?_
    refine awp_loop (β := Nat × List Track) (fun b => ⟨72, [(3, .hs 6 0 T.length), (4, .d (encCells s)), (5, .hs 7 0 b.2.length), (6, .d (.int .i64 b.1))], [(6, some ⟨42, 3, dr (T.map Track.row)⟩), (7, some ⟨42, 3, dr (b.2.map Track.row)⟩)], 8⟩)
      (fun b => b.1 ≤ s.length ∧ b.2 = (s.take b.1).flatMap (vT s) ∧ ∀ a, s[b.1]? = some a → vst s a = true) (fun b => s.length - b.1) (0, []) ?_ ⟨Nat.zero_le _, by simp, fun a ha => vst_first hpw ha⟩ ?_
    · refine weak_of [(6, some 6), (7, none)] rfl (by simp [upT, up, upL, push_cast]) (by simp [upH, upR, upL, up, push_cast]) (by simp [namesOk, push_cast]) (by simp [olds])
    · rintro ⟨i, U⟩ ⟨hi, hU, hst⟩
      simp only at hi hU hst
      refine Nav.imp ?_
      refine awp_region cx [] fun K hK => ?_
      simp [push_cast]
      repeat (refine And.intro (by clear hK; intros; first | omega | (simp_all; done) | (simp_all <;> omega)) ?_)
      refine hK _ ?_; clear hK K; refine Nav.imp ?_
      refine awp_cond (b := decide ((i : Int) < s.length)) (by simp [push_cast]) (fun hb => ?_) (fun hb => ?_) <;> (refine Nav.imp ?_)
      · have hlt : i < s.length := by simpa using hb
        obtain ⟨a, ha⟩ := getq hlt
        have hv := hst a ha
        have e0 := wrap_i64 (n := (i : Int) + 1) (by omega) (by omega)
        have hUl : U.length ≤ 1000000 := by
          have : U.length ≤ s.length := by rw [hU]; exact take_flat_one (vT_len s) s i
          omega
        have hU40 : (U.length + 1) * 40 ≤ 140737488355328 := by omega
        refine awp_region cx [] fun K hK => ?_
        simp [push_cast, e0]
        repeat (refine And.intro (by clear hK; intros; first | omega | (simp_all; done) | (simp_all <;> omega)) ?_)
        refine hK _ ?_; clear hK K; refine Nav.imp ?_
        refine awp_loop (β := Nat) (fun n => ⟨72, [(3, .hs 6 0 T.length), (4, .d (encCells s)), (5, .hs 7 0 U.length), (6, .d (.int .i64 i)), (7, .d (.int .i64 (i + n)))], [(6, some ⟨42, 3, dr (T.map Track.row)⟩), (7, some ⟨42, 3, dr (U.map Track.row)⟩)], 8⟩)
          (fun n => 0 < n ∧ i + n ≤ s.length ∧ Col s i n a) (fun n => s.length - i - n) 1 ?_ ⟨by omega, by omega, fun j hj => by rw [show j = 0 from by omega]; cases a; simpa using ha⟩ ?_
        · refine weak_of [(6, some 6), (7, some 7)] rfl (by simp [upT, up, upL, push_cast]) (by simp [upH, upR, upL, up, push_cast]) (by simp [namesOk, push_cast]) (by simp [olds])
        · rintro n ⟨hn0, hnl, hcol⟩
          refine Nav.imp ?_
          have hp := hcol (n - 1) (by omega)
          have e1 := wrap_i64 (n := (i : Int) + n - 1) (by omega) (by omega)
          have e2 : ((i : Int) + n).toNat = i + n := by omega
          have e3 : ((i : Int) + n - 1).toNat = i + (n - 1) := by omega
          have e5 : (0 : Int) ≤ (i : Int) + n - 1 := by omega
          have e6 : (0 : Int) ≤ (i : Int) + n := by omega
          have hag := onG_bd (hon _ (List.mem_of_getElem? hp))
          simp only at hag
          have e7 := wrap_i64 (n := a.y + ((n - 1 : Nat) : Int) + 1) (by omega) (by omega)
          have e8 := wrap_i64 (n := (i : Int) + n + 1) (by omega) (by omega)
          have e9 : a.y + ((n - 1 : Nat) : Int) + 1 = a.y + n := by omega
          by_cases hs : Stop s i n a
          · apply cut_
            · intro key
              by_cases hkl : i + n < s.length
              · obtain ⟨b, hb⟩ := getq hkl
                have e4 : (i : Int) + n < s.length := by omega
                have hsb : (b.x == a.x && b.y == a.y + (n : Int)) = false := by
                  rw [Bool.eq_false_iff]
                  intro h
                  simp at h
                  exact hs b hb h
                refine awp_region_draw cx mixed [] fun K hK => ?_
                simp [push_cast, ha, hb, hp, e1, e2, e3, e4, e5, e6, e7]
                repeat (refine And.intro (by clear hK; intros; first | omega | (simp_all; done) | (simp_all <;> omega)) ?_)
                refine hK _ _ (by kernel_rfl) ?_; clear hK K; refine Nav.imp ?_
                refine awp_cond (b := false) (by simp [push_cast, e9, e4, hsb]) (fun hb => ?_) (fun hb => ?_) <;> (refine Nav.imp ?_)
                · simp at hb
                · refine awp_weak (s' := ⟨72, [(3, .hs 6 0 T.length), (4, .d (encCells s)), (5, .hs 7 0 U.length), (6, .d (.int .i64 i)), (7, .d (.int .i64 (i + n)))], [(6, some ⟨42, 3, dr (T.map Track.row)⟩), (7, some ⟨42, 3, dr (U.map Track.row)⟩)], 8⟩) ?_ key.h
                  refine weak_of [(6, some 6), (7, some 7)] rfl (by simp [upT, up, upL, push_cast]) (by simp [upH, upR, upL, up, push_cast]) (by simp [namesOk, push_cast]) (by simp [olds])
              · have e4 : ¬ (i : Int) + n < s.length := by omega
                have hbn : s[i + n]? = none := List.getElem?_eq_none (by omega)
                refine awp_region_draw cx mixed [] fun K hK => ?_
                simp [push_cast, ha, hp, hbn, e1, e2, e3, e4, e5, e6, e7]
                repeat (refine And.intro (by clear hK; intros; first | omega | (simp_all; done) | (simp_all <;> omega)) ?_)
                refine hK _ _ (by kernel_rfl) ?_; clear hK K; refine Nav.imp ?_
                refine awp_cond (b := false) (by simp [push_cast, e4]) (fun hb => ?_) (fun hb => ?_) <;> (refine Nav.imp ?_)
                · simp at hb
                · refine awp_weak (s' := ⟨72, [(3, .hs 6 0 T.length), (4, .d (encCells s)), (5, .hs 7 0 U.length), (6, .d (.int .i64 i)), (7, .d (.int .i64 (i + n)))], [(6, some ⟨42, 3, dr (T.map Track.row)⟩), (7, some ⟨42, 3, dr (U.map Track.row)⟩)], 8⟩) ?_ key.h
                  refine weak_of [(6, some 6), (7, some 7)] rfl (by simp [upT, up, upL, push_cast]) (by simp [upH, upR, upL, up, push_cast]) (by simp [namesOk, push_cast]) (by simp [olds])
            · have hpc := col_piece hpw hon hn0 hcol hs hv
              rw [← hU] at hpc
              have hpl : ((s.drop i).take n).length ≤ 1000000 := by simp; omega
              have c5 : PC Try.prog 62 [encCells ((s.drop i).take n)] (.f (.agg (trk ((s.drop i).take n)).row)) := path_ok _ hpl
              have hm : List.drop i (List.take (i + n) (s.map Cell.row)) = ((s.drop i).take n).map Cell.row := by
                rw [List.map_take, List.map_drop, List.drop_take]; simp
              have hm2 : ∀ f : Cell → List D, List.take n (List.drop i (List.map f s)) = ((s.drop i).take n).map f := fun f => by rw [List.map_take, List.map_drop]
              have hnext : ∀ b, s[i + n]? = some b → vst s b = true := fun b hb => col_next hpw hn0 hcol hs hb
              generalize hPd : (s.drop i).take n = Pc at *
              have e4 : (i : Int) ≤ (i : Int) + n := by omega
              refine Nav.imp ?_
              refine awp_region cx [(5, .f (.agg (trk Pc).row))] fun K hK => ?_
              simp [push_cast, c5, e2, e4, e6, hm, hnl, hU40]
              repeat (refine And.intro (by clear hK; intros; first | omega | (simp_all; done) | (simp_all <;> omega)) ?_)
              refine hK _ ?_; clear hK K; refine Nav.imp ?_
              refine awp_region cx [] fun K hK => ?_
              simp [push_cast]
              repeat (refine And.intro (by clear hK; intros; first | omega | (simp_all; done) | (simp_all <;> omega)) ?_)
              refine hK _ ?_; clear hK K; refine Nav.imp ?_
              refine ⟨(i + n, U ++ [trk Pc]), ⟨hnl, hpc.symm, hnext⟩, by simp only; omega, ?_⟩
              refine weak_of [(6, some 6), (7, some 15)] rfl (by simp [upT, up, upL, push_cast, Track.row]) (by simp [upH, upR, upL, up, push_cast, Track.row]) (by simp [namesOk, push_cast]) (by simp [olds])
          · have : ∃ b, s[i + n]? = some b ∧ b.x = a.x ∧ b.y = a.y + n := by
              apply Classical.byContradiction
              intro h
              exact hs fun b hb hx => h ⟨b, hb, hx⟩
            obtain ⟨b, hb, hbx, hby⟩ := this
            have hkl := (List.getElem?_eq_some_iff.1 hb).1
            have e4 : (i : Int) + n < s.length := by omega
            obtain ⟨bx, bY⟩ := b
            simp only at hbx hby
            subst hbx hby
            refine awp_region_draw cx mixed [] fun K hK => ?_
            simp [push_cast, ha, hb, hp, e1, e2, e3, e4, e5, e6, e7]
            repeat (refine And.intro (by clear hK; intros; first | omega | (simp_all; done) | (simp_all <;> omega)) ?_)
            refine hK _ _ (by kernel_rfl) ?_; clear hK K; refine Nav.imp ?_
            refine awp_cond (b := true) (by simp [push_cast, e9, e4]) (fun hb => ?_) (fun hb => ?_) <;> (refine Nav.imp ?_)
            · refine awp_region cx [] fun K hK => ?_
              simp [push_cast, e8]
              repeat (refine And.intro (by clear hK; intros; first | omega | (simp_all; done) | (simp_all <;> omega)) ?_)
              refine hK _ ?_; clear hK K; refine Nav.imp ?_
              refine ⟨n + 1, ⟨by omega, by omega, fun j hj => ?_⟩, by omega, ?_⟩
              · by_cases hjn : j = n
                · subst hjn; exact hb
                · exact hcol j (by omega)
              · refine weak_of [(6, some 6), (7, some 7)] rfl (by simp [upT, up, upL, push_cast, Int.add_assoc]) (by simp [upH, upR, upL, up, push_cast, Int.add_assoc]) (by simp [namesOk, push_cast]) (by simp [olds])
            · simp at hb
      · have hin : i = s.length := by simp at hb; omega
        subst hin
        rw [List.take_length] at hU
        have hU' : U = upAll s := hU
        subst hU'
        clear hU hst
        have hTU : (T.length + (upAll q).length) * 40 ≤ 140737488355328 := by omega
        refine awp_region cx [(1, .x ⟨[(0, 7)], [.hs 0 0 (upAll s).length, .d (.fn (.func 64) [])], [(0, ⟨42, 3, dr ((upAll s).map Track.row)⟩)], [(0, 0)], none, [(0, ⟨42, 3, dr ((upAll q).map Track.row)⟩)], .tup []⟩)] fun K hK => ?_
        simp [push_cast, c4]
        repeat (refine And.intro (by clear hK; intros; first | omega | (simp_all; done) | (simp_all <;> omega)) ?_)
        refine hK _ ?_; clear hK K; refine Nav.imp ?_
        rw [hul2]
        generalize upAll q = V at *
        refine awp_region cx [] fun K hK => ?_
        simp [push_cast, hTU]
        repeat (refine And.intro (by clear hK; intros; first | omega | (simp_all; done) | (simp_all <;> omega)) ?_)
        refine hK _ ?_; clear hK K; refine Nav.imp ?_
        have ht : List.take (T.length + V.length) (T.map Track.row ++ V.map Track.row) = T.map Track.row ++ V.map Track.row := List.take_of_length_le (by simp)
        simp [push_cast, ht]
end Go.Proofs.Ytknelhiejjdioaa

set_option linter.unusedVariables false
set_option linter.unusedSimpArgs false
set_option maxRecDepth 100000
namespace Go.Proofs.Ytknelhiejjdioaa
open Go.Abs Go.ChangeShapes Go.WideShapes Go.ChangeAt Go.RowKit

def exR : List Row := [⟨0, [⟨0, 3⟩, ⟨5, 6⟩]⟩, ⟨1, [⟨5, 6⟩]⟩]
def exT : List Track := [⟨2, false, [⟨0, 0⟩, ⟨1, 0⟩, ⟨2, 0⟩]⟩, ⟨2, false, [⟨5, 0⟩, ⟨5, 1⟩]⟩]
theorem ex_lines : linesOf exR = exT := by kernel_rfl
theorem awake25_ok : PC Try.prog 15 [] (.p (.bool true)) := by
  have c1 := lines_ok exR ⟨by decide, by decide⟩ (fun _ => of_decide_eq_true (by kernel_rfl))
  rw [ex_lines] at c1
  simp only [exR, regRow] at c1
  refine pc_of_awp cx (fn := Try.f15) (c := _) Try.func15 rfl rfl (Nat.le_of_ble_eq_true rfl) ?_
  rw [Try.ntmps15]; refine Nav.imp ?_
  refine awp_region cx [] fun K hK => ?_
  simp [push_cast]
  repeat (refine And.intro (by clear hK; intros; first | omega | (simp_all; done) | (simp_all <;> omega)) ?_)
  refine hK _ ?_; clear hK K; refine Nav.imp ?_
  refine awp_region cx [(2, .f (encRuns [⟨0, 3⟩, ⟨5, 6⟩])), (5, .f (encRuns [⟨5, 6⟩])), (7, .f (encRows exR))] fun K hK => ?_
  simp [push_cast, exR, Row.row, Run.row]
  repeat (refine And.intro (by clear hK; intros; first | omega | (simp_all; done) | (simp_all <;> omega)) ?_)
  refine hK _ ?_; clear hK K; refine Nav.imp ?_
  refine awp_region cx [(1, .p (encTracks exT))] fun K hK => ?_
  simp [push_cast, c1]
  repeat (refine And.intro (by clear hK; intros; first | omega | (simp_all; done) | (simp_all <;> omega)) ?_)
  refine hK _ ?_; clear hK K; refine Nav.imp ?_
  refine awp_region cx [] fun K hK => ?_
  simp [push_cast, exT, Track.row]
  repeat (refine And.intro (by clear hK; intros; first | omega | (simp_all; done) | (simp_all <;> omega)) ?_)
  refine hK _ ?_; clear hK K; refine Nav.imp ?_
  simp [push_cast]


end Go.Proofs.Ytknelhiejjdioaa

set_option linter.unusedVariables false
set_option linter.unusedSimpArgs false
namespace Go.Proofs.Ytknelhiejjdioaa
open Go.Abs

/-! Cells of a region, looked for. -/
def hitB (x : Int) (r : Run) : Bool := decide (r.a ≤ x) && decide (x < r.b)
def conB (R : List Row) (c : Cell) : Bool := validR R && inR (rowOf R c.y) c.x
theorem conB_mem {R : List Row} (h : validR R = true) (c : Cell) : conB R c = decide (c ∈ regCells R) := by
  unfold conB
  rw [h, Bool.true_and, Bool.eq_iff_iff, decide_eq_true_eq]
  exact (rowOf_in h c).symm
theorem tw_len : ∀ {l : List Run} {k : Nat} {x : Int} {r : Run}, (∀ q ∈ l.take k, hitB x q = false) → l[k]? = some r → hitB x r = true → (l.takeWhile fun q => !hitB x q).length = k
  | [], k, x, r, _, h, _ => by simp at h
  | q :: l, 0, x, r, _, h, hr => by simp at h; subst h; simp [hr]
  | q :: l, k + 1, x, r, hp, h, hr => by
    have hq := hp q (by simp)
    have := tw_len (l := l) (k := k) (x := x) (r := r) (fun s hs => hp s (by simp [hs])) (by simpa using h) hr
    simp [hq, this]
theorem find_at : ∀ {R : List Row} {k : Nat} {y : Int} {w : Row}, (∀ v ∈ R.take k, v.y ≠ y) → R[k]? = some w → w.y = y → rowOf R y = w.runs
  | [], k, y, w, _, h, _ => by simp at h
  | v :: R, 0, y, w, _, h, hw => by simp at h; subst h; simp [rowOf, hw]
  | v :: R, k + 1, y, w, hp, h, hw => by
    have hv := hp v (by simp)
    have := find_at (R := R) (k := k) (y := y) (w := w) (fun s hs => hp s (by simp [hs])) (by simpa using h) hw
    simpa [rowOf, hv] using this
def idxR (l : List Run) (x : Int) : Int := if inR l x then ((l.takeWhile fun q => !hitB x q).length : Nat) else -1

theorem hit_ok (r : Run) (x : Int) : PC Try.prog 74 [.agg r.row, .rp [.int .i64 x]] (.p (.bool (hitB x r))) := by
  obtain ⟨ra, rb⟩ := r
  refine pc_of_awp cx (fn := Try.f74) (c := _) Try.func74 rfl rfl (Nat.le_of_ble_eq_true rfl) ?_
  rw [Try.ntmps74]; refine Nav.imp ?_
  refine awp_region cx [] fun K hK => ?_
  simp [push_cast, Run.row]
  repeat (refine And.intro (by clear hK; intros; first | omega | (simp_all; done) | (simp_all <;> omega)) ?_)
  refine hK _ ?_; clear hK K; refine Nav.imp ?_
  refine awp_region cx [] fun K hK => ?_
  simp [push_cast, Run.row]
  repeat (refine And.intro (by clear hK; intros; first | omega | (simp_all; done) | (simp_all <;> omega)) ?_)
  refine hK _ ?_; clear hK K; refine Nav.imp ?_
  simp [push_cast, hitB]

theorem index_ok (l : List Run) (x : Int) (hl : l.length ≤ 1000000) : PC Try.prog 98 [encRuns l, .fn (.func 74) [.rp [.int .i64 x]]] (.p (.int .i64 (idxR l x))) := by
  refine pc_of_awp cx (fn := Try.f98) (c := _) Try.func98 rfl rfl (Nat.le_of_ble_eq_true rfl) ?_
  rw [Try.ntmps98]; refine Nav.imp ?_
  refine awp_region cx [] fun K hK => ?_
  simp [push_cast]
  repeat (refine And.intro (by clear hK; intros; first | omega | (simp_all; done) | (simp_all <;> omega)) ?_)
  refine hK _ ?_; clear hK K; refine Nav.imp ?_
  refine awp_region cx [] fun K hK => ?_
  simp [push_cast]
  repeat (refine And.intro (by clear hK; intros; first | omega | (simp_all; done) | (simp_all <;> omega)) ?_)
  refine hK _ ?_; clear hK K; refine Nav.imp ?_
  refine awp_loop (β := Nat) (fun k => ⟨19, [(0, .d (encRuns l)), (1, .d (.fn (.func 74) [.rp [.int .i64 x]])), (7, .d (.int .i64 l.length)), (8, .d (.int .i64 k))], [], 0⟩) (fun k => k ≤ l.length ∧ ∀ q ∈ l.take k, hitB x q = false) (fun k => l.length - k) 0 ?_ ⟨Nat.zero_le _, by simp⟩ ?_
  · refine weak_of [] rfl (by simp [upT, up, upL, push_cast]) (by simp [upH, upR, upL, up, push_cast]) (by simp [namesOk, push_cast]) (by simp [olds])
  · rintro k ⟨hk, hno⟩
    refine Nav.imp ?_
    refine awp_region cx [] fun K hK => ?_
    simp [push_cast]
    repeat (refine And.intro (by clear hK; intros; first | omega | (simp_all; done) | (simp_all <;> omega)) ?_)
    refine hK _ ?_; clear hK K; refine Nav.imp ?_
    refine awp_cond (b := decide ((k : Int) < l.length)) (by simp [push_cast]) (fun hb => ?_) (fun hb => ?_) <;> (refine Nav.imp ?_)
    · have hlt : k < l.length := by simpa using hb
      obtain ⟨r, hr⟩ := getq hlt
      have e0 := wrap_i64 (n := (k : Int) + 1) (by omega) (by omega)
      have c1 := hit_ok r x
      generalize hv : hitB x r = v at c1
      refine awp_region cx [] fun K hK => ?_
      simp [push_cast]
      repeat (refine And.intro (by clear hK; intros; first | omega | (simp_all; done) | (simp_all <;> omega)) ?_)
      refine hK _ ?_; clear hK K; refine Nav.imp ?_
      refine awp_region cx [(5, .p (.bool v))] fun K hK => ?_
      simp [push_cast, hr, c1]
      repeat (refine And.intro (by clear hK; intros; first | omega | (simp_all; done) | (simp_all <;> omega)) ?_)
      refine hK _ ?_; clear hK K; refine Nav.imp ?_
      refine awp_cond (b := v) (by simp [push_cast]) (fun hb => ?_) (fun hb => ?_) <;> (refine Nav.imp ?_)
      · rw [hb] at hv
        have hi : idxR l x = (k : Int) := by
          have h1 : inR l x = true := inR_iff.2 ⟨r, List.mem_of_getElem? hr, by simpa [hitB] using hv⟩
          unfold idxR
          rw [if_pos h1, tw_len hno hr hv]
        rw [hi]
        refine awp_region cx [] fun K hK => ?_
        simp [push_cast]
        repeat (refine And.intro (by clear hK; intros; first | omega | (simp_all; done) | (simp_all <;> omega)) ?_)
        refine hK _ ?_; clear hK K; refine Nav.imp ?_
        simp [push_cast]
      · rw [hb] at hv
        refine awp_region cx [] fun K hK => ?_
        simp [push_cast, e0]
        repeat (refine And.intro (by clear hK; intros; first | omega | (simp_all; done) | (simp_all <;> omega)) ?_)
        refine hK _ ?_; clear hK K; refine Nav.imp ?_
        refine ⟨k + 1, ⟨hlt, fun q hq => ?_⟩, by omega, ?_⟩
        · rw [take_get hr] at hq
          rcases List.mem_append.1 hq with hq | hq
          · exact hno q hq
          · simp at hq; subst hq; exact hv
        · refine weak_of [] rfl (by simp [upT, up, upL, push_cast]) (by simp [upH, upR, upL, up, push_cast]) (by simp [namesOk, push_cast]) (by simp [olds])
    · have hge : k = l.length := by simp at hb; omega
      subst hge
      rw [List.take_length] at hno
      have hi : idxR l x = -1 := by
        have h1 : inR l x = false := by
          rw [Bool.eq_false_iff]
          intro h
          obtain ⟨r, hr, h2, h3⟩ := inR_iff.1 h
          have := hno r hr
          simp [hitB, h2, h3] at this
        unfold idxR
        rw [h1]; rfl
      rw [hi]
      refine awp_region cx [] fun K hK => ?_
      simp [push_cast]
      repeat (refine And.intro (by clear hK; intros; first | omega | (simp_all; done) | (simp_all <;> omega)) ?_)
      refine hK _ ?_; clear hK K; refine Nav.imp ?_
      simp [push_cast]

theorem contf_ok (l : List Run) (x : Int) (hl : l.length ≤ 1000000) : PC Try.prog 73 [encRuns l, .fn (.func 74) [.rp [.int .i64 x]]] (.p (.bool (inR l x))) := by
  have c1 := index_ok l x hl
  have hi : decide (0 ≤ idxR l x) = inR l x := by
    unfold idxR
    split
    · rename_i h; rw [h]; simp
    · rename_i h; simp at h; rw [h]; simp
  generalize idxR l x = n at *
  refine pc_of_awp cx (fn := Try.f73) (c := _) Try.func73 rfl rfl (Nat.le_of_ble_eq_true rfl) ?_
  rw [Try.ntmps73]; refine Nav.imp ?_
  refine awp_region cx [] fun K hK => ?_
  simp [push_cast]
  repeat (refine And.intro (by clear hK; intros; first | omega | (simp_all; done) | (simp_all <;> omega)) ?_)
  refine hK _ ?_; clear hK K; refine Nav.imp ?_
  refine awp_region cx [(2, .p (.int .i64 n))] fun K hK => ?_
  simp [push_cast, c1]
  repeat (refine And.intro (by clear hK; intros; first | omega | (simp_all; done) | (simp_all <;> omega)) ?_)
  refine hK _ ?_; clear hK K; refine Nav.imp ?_
  simp [push_cast, hi]

theorem rcontains_ok (l : List Run) (x : Int) (hl : l.length ≤ 1000000) (hv : rvalid l = true) : PC Try.prog 42 [encRuns l, .int .i64 x] (.p (.bool (inR l x))) := by
  have c1 := rvalid_ok l hl
  have c2 := contf_ok l x hl
  rw [hv] at c1
  generalize inR l x = v at *
  refine pc_of_awp cx (fn := Try.f42) (c := _) Try.func42 rfl rfl (Nat.le_of_ble_eq_true rfl) ?_
  rw [Try.ntmps42]; refine Nav.imp ?_
  refine awp_region cx [] fun K hK => ?_
  simp [push_cast]
  repeat (refine And.intro (by clear hK; intros; first | omega | (simp_all; done) | (simp_all <;> omega)) ?_)
  refine hK _ ?_; clear hK K; refine Nav.imp ?_
  refine awp_freeze 0 ([[.int .i64 x]]) rfl (by simp [push_cast]) fun K hK => ?_
  simp [push_cast, St.fz, fzT, fzH, fzO, fz, fzL, fzR, fzR_dr, fzR_app, fzR_set, fzL_map]
  refine hK _ ?_; clear hK K; refine Nav.imp ?_
  refine awp_region cx [(1, .p (.bool true))] fun K hK => ?_
  simp [push_cast, c1]
  repeat (refine And.intro (by clear hK; intros; first | omega | (simp_all; done) | (simp_all <;> omega)) ?_)
  refine hK _ ?_; clear hK K; refine Nav.imp ?_
  refine awp_cond (b := false) (by simp [push_cast]) (fun hb => ?_) (fun hb => ?_) <;> (refine Nav.imp ?_)
  · simp at hb
  · refine awp_region cx [(2, .p (.bool v))] fun K hK => ?_
    simp [push_cast, c2]
    repeat (refine And.intro (by clear hK; intros; first | omega | (simp_all; done) | (simp_all <;> omega)) ?_)
    refine hK _ ?_; clear hK K; refine Nav.imp ?_
    simp [push_cast]



theorem contains_ok (R : List Row) (c : Cell) (hR : smallR R) : PC Try.prog 19 [.agg (regRow R), .agg c.row] (.p (.bool (conB R c))) := by
  have c1 := valid_ok R hR
  obtain ⟨x, y⟩ := c
  have hC : conB R ⟨x, y⟩ = (validR R && inR (rowOf R y) x) := rfl
  rw [hC]
  clear hC
  cases hv : validR R with
  | false =>
    rw [hv] at c1
    refine pc_of_awp cx (fn := Try.f19) (c := _) Try.func19 rfl rfl (Nat.le_of_ble_eq_true rfl) ?_
    rw [Try.ntmps19]; refine Nav.imp ?_
    refine awp_region cx [] fun K hK => ?_
    simp [push_cast]
    repeat (refine And.intro (by clear hK; intros; first | omega | (simp_all; done) | (simp_all <;> omega)) ?_)
    refine hK _ ?_; clear hK K; refine Nav.imp ?_
    refine awp_region_draw cx mixed [(1, .p (.bool false)), (6, .skip), (9, .skip)] fun K hK => ?_
    simp [push_cast, c1]
    repeat (refine And.intro (by clear hK; intros; first | omega | (simp_all; done) | (simp_all <;> omega)) ?_)
    refine hK _ _ (by kernel_rfl) ?_; clear hK K; refine Nav.imp ?_
    simp [push_cast]
  | true =>
    rw [hv] at c1
    have hlr : (rowOf R y).length ≤ 1000000 := by
      unfold rowOf
      split
      · rename_i w h; exact hR.2 w (List.mem_of_find?_eq_some h)
      · simp
    have c2 := row_ok R y hR hv
    have c3 := rcontains_ok (rowOf R y) x hlr (rowOf_rv hv y)
    generalize inR (rowOf R y) x = v at *
    generalize rowOf R y = r at *
    refine pc_of_awp cx (fn := Try.f19) (c := _) Try.func19 rfl rfl (Nat.le_of_ble_eq_true rfl) ?_
    rw [Try.ntmps19]; refine Nav.imp ?_
    refine awp_region cx [] fun K hK => ?_
    simp [push_cast]
    repeat (refine And.intro (by clear hK; intros; first | omega | (simp_all; done) | (simp_all <;> omega)) ?_)
    refine hK _ ?_; clear hK K; refine Nav.imp ?_
    refine awp_region_draw cx mixed [(1, .p (.bool true)), (6, .p (encRuns r)), (9, .p (.bool v))] fun K hK => ?_
    simp [push_cast, c1, c2, c3]
    repeat (refine And.intro (by clear hK; intros; first | omega | (simp_all; done) | (simp_all <;> omega)) ?_)
    refine hK _ _ (by kernel_rfl) ?_; clear hK K; refine Nav.imp ?_
    simp [push_cast]
end Go.Proofs.Ytknelhiejjdioaa
