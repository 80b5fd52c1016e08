/-
  The walks of this seat's functions and the plain laws behind them: part V2.
-/
import Derived.Test.YtmfkfgonedgjnaaV1
import Derived.Test.YtmfkfgonedgjnaaG1
import Derived.Test.YtmfkfgonedgjnaaQ4
import Derived.Test.YtmfkfgonedgjnaaT4
set_option linter.unusedVariables false
set_option linter.unusedSimpArgs false
namespace Go.Proofs.Ytmfkfgonedgjnaa
open Go.Abs

/-! The tracks of a region are valid. -/
theorem nb_right (x y : Int) (j : Nat) : nbT ⟨x + j, y⟩ ⟨x + (j + 1 : Nat), y⟩ = true := by simp [nbT, dist]; omega
theorem nb_up (x y : Int) (j : Nat) : nbT ⟨x, y + j⟩ ⟨x, y + (j + 1 : Nat)⟩ = true := by simp [nbT, dist]; omega
theorem chain_ok {l : List Cell} (hon : ∀ c ∈ l, onG c = true) (hnb : ∀ (j : Nat) (a b : Cell), l[j]? = some a → l[j + 1]? = some b → nbT a b = true) : (List.range l.length).all (okAt l) = true := by
  refine List.all_eq_true.2 fun i hi => ?_
  have hi : i < l.length := by simpa using hi
  obtain ⟨c, hc⟩ := getq hi
  obtain ⟨p, hp⟩ : ∃ p, l[i - 1]? = some p := getq (by omega)
  rw [okAt_some hc hp, hon c (List.mem_of_getElem? hc)]
  cases i with
  | zero => simp
  | succ i => simp only [Nat.add_sub_cancel] at hp; rw [hnb i p c hp hc]; simp
theorem valid_open {l : List Cell} (hp : 1 ≤ l.length) (hl : l.length ≤ 65536) (hon : ∀ c ∈ l, onG c = true) (hnb : ∀ (j : Nat) (a b : Cell), l[j]? = some a → l[j + 1]? = some b → nbT a b = true) : validT ⟨2, false, l⟩ = true := by
  simp only [validT, Bool.and_eq_true]
  refine ⟨⟨?_, chain_ok hon hnb⟩, by simp [closes]⟩
  simp [roleOk]; omega
theorem vN_get {l : List Cell} : ∀ (n : Nat) (c : Cell) (j : Nat) (d : Cell), (vN l n c)[j]? = some d → d = ⟨c.x, c.y + j⟩
  | 0, c, j, d, h => by simp [vN] at h
  | n + 1, c, j, d, h => by
    simp only [vN] at h
    split at h
    · cases j with
      | zero => simp at h; subst h; simp
      | succ j =>
        have := vN_get n (upc c) j d (by simpa using h)
        rw [this]; simp [upc]; omega
    · simp at h
theorem lines_valid {R : List Row} {t : Track} (ht : t ∈ linesOf R) : validT t = true ∧ t.closed = false ∧ t.role = 2 := by
  have h8 := lines_cells t ht
  unfold linesOf at ht
  split at ht
  · rename_i h
    rcases List.mem_append.1 ht with ht | ht
    · simp only [regTrk, rowTrk, List.mem_flatMap] at ht
      obtain ⟨w, hw, r, hr, ht⟩ := ht
      have hrr := row_runs h hw hr
      have hwf := row_fine h hw
      unfold trkOf at ht
      split at ht
      · simp at ht
      · simp at ht; subst ht
        refine ⟨valid_open (by rw [runCells_len]; omega) (by simp only at h8; omega) (fun c hc => ?_) (fun j a b ha hb => ?_), rfl, rfl⟩
        · obtain ⟨h1, h2, h3⟩ := mem_runCells.1 hc
          simp [onG]; omega
        · have hj := (List.getElem?_eq_some_iff.1 hb).1
          rw [runCells_len] at hj
          rw [runCells_get w.y r (by omega)] at ha
          rw [runCells_get w.y r hj] at hb
          cases ha; cases hb
          exact nb_right _ _ _
    · obtain ⟨c, hc, rfl, l, hl⟩ := upAll_mem (fun c hc => cells_on h (sng_mem h hc)) ht
      refine ⟨valid_open (by have : (vch (regSng R) c).length = l.length + 1 := by have := congrArg List.length hl; simpa [trk] using this
                             omega) (by simp only [trk] at h8; omega) (fun d hd => cells_on h (sng_mem h (vch_sub _ _ _ _ hd))) (fun j a b ha hb => ?_), rfl, rfl⟩
      have e1 := vN_get _ _ _ _ ha
      have e2 := vN_get _ _ _ _ hb
      rw [e1, e2]
      exact nb_up _ _ _
  · simp at ht

/-! They cover each cell once. -/
theorem col_exists {s : List Cell} {i : Nat} {a : Cell} (ha : s[i]? = some a) : ∃ n, 0 < n ∧ i + n ≤ s.length ∧ Col s i n a ∧ Stop s i n a := by
  have hi := (List.getElem?_eq_some_iff.1 ha).1
  have key : ∀ (m n : Nat), s.length - (i + n) = m → 0 < n → i + n ≤ s.length → Col s i n a → ∃ n, 0 < n ∧ i + n ≤ s.length ∧ Col s i n a ∧ Stop s i n a := by
    intro m
    induction m with
    | zero =>
      intro n hm hn hl hc
      exact ⟨n, hn, hl, hc, fun b hb => by have := (List.getElem?_eq_some_iff.1 hb).1; omega⟩
    | succ m ih =>
      intro n hm hn hl hc
      by_cases hs : Stop s i n a
      · exact ⟨n, hn, hl, hc, hs⟩
      · have : ∃ b, s[i + n]? = some b ∧ b.x = a.x ∧ b.y = a.y + n := by
          apply Classical.byContradiction
          intro h
          exact hs fun b hb hx => h ⟨b, hb, hx⟩
        obtain ⟨b, hb, h1, h2⟩ := this
        refine ih (n + 1) (by omega) (by omega) (by omega) fun j hj => ?_
        by_cases e : j = n
        · subst e; rw [hb]; cases b; simp at h1 h2; simp [h1, h2]
        · exact hc j (by omega)
  exact key _ 1 rfl (by omega) (by omega) fun j hj => by rw [show j = 0 from by omega]; cases a; simpa using ha
def tc (l : List Track) : List Cell := l.flatMap (·.cells)
theorem tc_app (a b : List Track) : tc (a ++ b) = tc a ++ tc b := by simp [tc]
theorem up_cells {s : List Cell} (h : s.Pairwise ltX) (hon : ∀ c ∈ s, onG c = true) : tc (upAll s) = s := by
  have key : ∀ (m i : Nat), s.length - i = m → i ≤ s.length → (∀ a, s[i]? = some a → vst s a = true) → tc ((s.take i).flatMap (vT s)) = s.take i → tc (upAll s) = s := by
    intro m
    induction m using Nat.strongRecOn with
    | ind m ih =>
      intro i hm hi hst ht
      by_cases e : i = s.length
      · subst e; rw [List.take_length] at ht; exact ht
      · obtain ⟨a, ha⟩ := getq (show i < s.length by omega)
        obtain ⟨n, hn, hl, hc, hs⟩ := col_exists ha
        refine ih (s.length - (i + n)) (by omega) (i + n) rfl hl (fun b hb => col_next h hn hc hs hb) ?_
        rw [col_piece h hon hn hc hs (hst a ha), tc_app, ht, List.take_add]
        simp [tc, trk]
  exact key _ 0 rfl (Nat.zero_le _) (fun a ha => vst_first h ha) (by simp [tc])
theorem flat_perm {α β : Type} {f g h : α → List β} : ∀ l : List α, (∀ x ∈ l, (f x).Perm (g x ++ h x)) → (l.flatMap f).Perm (l.flatMap g ++ l.flatMap h)
  | [], _ => List.Perm.refl _
  | x :: l, hx => by
    simp only [List.flatMap_cons]
    refine ((hx x (by simp)).append (flat_perm l fun y hy => hx y (by simp [hy]))).trans ?_
    rw [List.append_assoc, List.append_assoc]
    refine List.Perm.append_left _ ?_
    rw [← List.append_assoc, ← List.append_assoc]
    exact List.Perm.append_right _ List.perm_append_comm
theorem tc_flat {α : Type} (f : α → List Track) : ∀ l : List α, tc (l.flatMap f) = l.flatMap fun x => tc (f x)
  | [] => rfl
  | x :: l => by simp only [List.flatMap_cons, tc_app, tc_flat f l]
theorem run_part {y : Int} {r : Run} (h : r.a < r.b) : runCells y r = tc (trkOf y r) ++ sngOf y r := by
  unfold trkOf sngOf
  split
  · rename_i e
    simp [tc, runCells, show (r.b - r.a).toNat = 1 from by omega]
  · simp [tc]
theorem cells_part {R : List Row} (h : validR R = true) : (regCells R).Perm (tc (regTrk R) ++ regSng R) := by
  unfold regCells regTrk regSng
  rw [tc_flat]
  refine flat_perm R fun w hw => ?_
  unfold rowCells rowTrk rowSng
  rw [tc_flat]
  exact flat_perm _ fun r hr => by rw [run_part (row_runs h hw hr).2.1]
theorem lines_perm {R : List Row} (h : validR R = true) : (tc (linesOf R)).Perm (regCells R) := by
  have e : linesOf R = regTrk R ++ upAll (regSng R) := by simp [linesOf, h]
  rw [e, tc_app]
  refine List.Perm.trans ?_ (cells_part h).symm
  refine List.Perm.append_left _ ?_
  have hnd := nodup_of_ltY (sng_pw h)
  have h1 := up_cells (sortX_lt hnd) (fun c hc => cells_on h (sng_mem h ((sortX_mem c).1 hc)))
  have h2 := (upAll_perm (sortX_perm (regSng R))).flatMap_right (·.cells)
  refine h2.symm.trans ?_
  rw [show (upAll (sortX (regSng R))).flatMap (·.cells) = tc (upAll (sortX (regSng R))) from rfl, h1]
  exact sortX_perm _
theorem lines_cover {R : List Row} (h : validR R = true) : ofR (tc (linesOf R)) = R := by
  have hp := lines_perm h
  have hall : (tc (linesOf R)).all onG = true := List.all_eq_true.2 fun c hc => cells_on h (hp.mem_iff.1 hc)
  unfold ofR
  rw [if_pos hall, sortY_cells h hp, build_cells h]
end Go.Proofs.Ytmfkfgonedgjnaa
