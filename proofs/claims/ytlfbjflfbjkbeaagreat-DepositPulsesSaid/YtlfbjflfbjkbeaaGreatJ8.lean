/-
  Texts of this seat put together: P10, P11, Y1, Y2, Y3, Y4, Y5, P17, P21, L0.
-/
import Derived.Test.YtlfbjflfbjkbeaaGreatJ7
import Derived.Test.YtlfbjflfbjkbeaaGreatJ6
import Derived.Test.YtlfbjflfbjkbeaaGreatJ5
import Derived.Test.YtlfbjflfbjkbeaaGreatJ4
import Derived.Test.YtlfbjflfbjkbeaaGreatJ3
import Derived.Test.YtlfbjflfbjkbeaaGreatChecked
set_option linter.unusedVariables false
set_option linter.unusedSimpArgs false
set_option maxRecDepth 100000
namespace Go.Proofs.YtlfbjflfbjkbeaaGreat
open Go.Abs

def Bench.cnts (b : Bench) : Pos := ⟨b.filament, b.drawn, b.dry, b.hits⟩
def realB (x : Pos) : Bool := withB x.p 1099511627776 && withB x.q 1099511627776 && withB x.r 1099511627776 && withB x.s 1099511627776
def cntsB (x : Pos) : Bool := cntB x.p && cntB x.q && cntB x.r && cntB x.s
theorem four_iff {f : Int → Bool} {x : Pos} : (f x.p && f x.q && f x.r && f x.s) = true ↔ ∀ j < 4, f (x.at j) = true := by
  constructor
  · intro h j hj
    simp only [Bool.and_eq_true] at h
    rcases (show j = 0 ∨ j = 1 ∨ j = 2 ∨ j = 3 by omega) with rfl | rfl | rfl | rfl <;> simp [Pos.at, h]
  · intro h
    have h0 := h 0 (by omega)
    have h1 := h 1 (by omega)
    have h3 := h 2 (by omega)
    have h4 := h 3 (by omega)
    simp only [Pos.at] at h0 h1 h3 h4
    simp [h0, h1, h3, h4]
def soundB (b : Bench) : Bool := realB b.real && cntsB b.cnts && decide (b.lays.length ≤ 256)
def validE (b : Bench) : Bool := b.lays.all validR && soundB b
theorem sound_facts (b : Bench) : (soundB b = true → ∀ j < 4, withB (b.real.at j) 1099511627776 = true) ∧ (soundB b = true → ∀ j < 4, cntB (b.cnts.at j) = true) ∧ ((∀ j < 4, withB (b.real.at j) 1099511627776 = true) → (∀ j < 4, cntB (b.cnts.at j) = true) → soundB b = decide (b.lays.length ≤ 256)) := by
  have h1 : realB b.real = true ↔ _ := four_iff (f := fun n => withB n 1099511627776)
  have h2 : cntsB b.cnts = true ↔ _ := four_iff (f := cntB)
  refine ⟨fun h => ?_, fun h => ?_, fun a c => ?_⟩
  · simp only [soundB, Bool.and_eq_true] at h; exact h1.1 h.1.1
  · simp only [soundB, Bool.and_eq_true] at h; exact h2.1 h.1.2
  · simp only [soundB, h1.2 a, h2.2 c, Bool.true_and]
set_option maxHeartbeats 4000000 in
theorem sound_ok (b : Bench) (hl : b.lays.length ≤ 1000) : PC Tryz.prog 22 [.agg b.row] (.p (.bool (soundB b))) := by
  obtain ⟨f1, f2, f3⟩ := sound_facts b
  generalize soundB b = sb at *
  have w3 : IntKind.i64.wrap 3 = 3 := by decide
  have w4 : IntKind.i64.wrap 4 = 4 := by decide
  refine pc_of_awp cx (fn := Tryz.f22) (c := _) Tryz.func22 rfl rfl (Nat.le_of_ble_eq_true rfl) ?_
  rw [Tryz.ntmps22]; refine Nav.imp ?_
  refine awp_region cx [] fun K hK => ?_
  simp [push_cast]
  repeat (refine And.intro (by clear hK; intros; first | omega | (simp_all; done) | (simp_all <;> omega)) ?_)
  refine hK _ ?_; clear hK K; refine Nav.imp ?_
  refine awp_region cx [] fun K hK => ?_
  simp [push_cast]
  repeat (refine And.intro (by clear hK; intros; first | omega | (simp_all; done) | (simp_all <;> omega)) ?_)
  refine hK _ ?_; clear hK K; refine Nav.imp ?_
  refine awp_loop (β := Nat) (fun i => ⟨42, [(1, .ptr 0 0 0), (8, .d (.agg b.real.row)), (9, .d (.int .i64 i))], [(0, some ⟨30, 22, [b.row.map .d]⟩)], 1⟩) (fun i => i ≤ 4 ∧ ∀ j < i, withB (b.real.at j) 1099511627776 = true) (fun i => 4 - i) 0 ?_ ⟨Nat.zero_le _, by simp⟩ ?_
  · refine weak_of [(0, some 0)] rfl (by simp [upT, up, upL, push_cast]) (by simp [upH, upR, upL, up, push_cast]) (by simp [namesOk, push_cast]) (by simp [olds])
  · rintro i ⟨hi, hall⟩
    rcases (show i = 0 ∨ i = 1 ∨ i = 2 ∨ i = 3 ∨ i = 4 by omega) with rfl | rfl | rfl | rfl | rfl
    · have hw2 : withB b.real.p 1099511627776 = !(decide (b.real.p < -1099511627776) || decide (1099511627776 < b.real.p)) := by rw [Bool.eq_iff_iff]; simp [withB]
      refine Nav.imp ?_
      refine awp_region cx [] fun K hK => ?_
      simp [push_cast]
      repeat (refine And.intro (by clear hK; intros; first | omega | (simp_all; done) | (simp_all <;> omega)) ?_)
      refine hK _ ?_; clear hK K; refine Nav.imp ?_
      refine awp_cond (b := true) (by simp [push_cast]) (fun hb => ?_) (fun hb => ?_) <;> (refine Nav.imp ?_)
      · refine awp_region cx [] fun K hK => ?_
        simp [push_cast]
        repeat (refine And.intro (by clear hK; intros; first | omega | (simp_all; done) | (simp_all <;> omega)) ?_)
        refine hK _ ?_; clear hK K; refine Nav.imp ?_
        refine awp_region cx [] fun K hK => ?_
        simp [push_cast]
        repeat (refine And.intro (by clear hK; intros; first | omega | (simp_all; done) | (simp_all <;> omega)) ?_)
        refine hK _ ?_; clear hK K; refine Nav.imp ?_
        refine awp_cond (b := decide (b.real.p < -1099511627776) || decide (1099511627776 < b.real.p)) (by simp [push_cast]) (fun hb => ?_) (fun hb => ?_) <;> (refine Nav.imp ?_)
        · rw [hb] at hw2
          have hf : sb = false := by
            cases sb
            · rfl
            · have := f1 rfl 0 (by omega)
              simp only [Pos.at] at this
              rw [this] at hw2; cases hw2
          rw [hf]
          refine awp_region cx [] fun K hK => ?_
          simp [push_cast]
          repeat (refine And.intro (by clear hK; intros; first | omega | (simp_all; done) | (simp_all <;> omega)) ?_)
          refine hK _ ?_; clear hK K; refine Nav.imp ?_
          simp [push_cast]
        · rw [hb] at hw2
          refine awp_region cx [] fun K hK => ?_
          simp [push_cast, w3, w4]
          repeat (refine And.intro (by clear hK; intros; first | omega | (simp_all; done) | (simp_all <;> omega)) ?_)
          refine hK _ ?_; clear hK K; refine Nav.imp ?_
          refine ⟨1, ⟨by omega, fun j hj => ?_⟩, by omega, ?_⟩
          · by_cases e : j < 0
            · exact hall j e
            · have : j = 0 := by omega
              subst this
              simpa [Pos.at] using hw2
          · refine weak_of [(0, some 0)] rfl (by simp [upT, up, upL, push_cast]) (by simp [upH, upR, upL, up, push_cast]) (by simp [namesOk, push_cast]) (by simp [olds])
      · simp at hb
    · have hw2 : withB b.real.q 1099511627776 = !(decide (b.real.q < -1099511627776) || decide (1099511627776 < b.real.q)) := by rw [Bool.eq_iff_iff]; simp [withB]
      refine Nav.imp ?_
      refine awp_region cx [] fun K hK => ?_
      simp [push_cast]
      repeat (refine And.intro (by clear hK; intros; first | omega | (simp_all; done) | (simp_all <;> omega)) ?_)
      refine hK _ ?_; clear hK K; refine Nav.imp ?_
      refine awp_cond (b := true) (by simp [push_cast]) (fun hb => ?_) (fun hb => ?_) <;> (refine Nav.imp ?_)
      · refine awp_region cx [] fun K hK => ?_
        simp [push_cast]
        repeat (refine And.intro (by clear hK; intros; first | omega | (simp_all; done) | (simp_all <;> omega)) ?_)
        refine hK _ ?_; clear hK K; refine Nav.imp ?_
        refine awp_region cx [] fun K hK => ?_
        simp [push_cast]
        repeat (refine And.intro (by clear hK; intros; first | omega | (simp_all; done) | (simp_all <;> omega)) ?_)
        refine hK _ ?_; clear hK K; refine Nav.imp ?_
        refine awp_cond (b := decide (b.real.q < -1099511627776) || decide (1099511627776 < b.real.q)) (by simp [push_cast]) (fun hb => ?_) (fun hb => ?_) <;> (refine Nav.imp ?_)
        · rw [hb] at hw2
          have hf : sb = false := by
            cases sb
            · rfl
            · have := f1 rfl 1 (by omega)
              simp only [Pos.at] at this
              rw [this] at hw2; cases hw2
          rw [hf]
          refine awp_region cx [] fun K hK => ?_
          simp [push_cast]
          repeat (refine And.intro (by clear hK; intros; first | omega | (simp_all; done) | (simp_all <;> omega)) ?_)
          refine hK _ ?_; clear hK K; refine Nav.imp ?_
          simp [push_cast]
        · rw [hb] at hw2
          refine awp_region cx [] fun K hK => ?_
          simp [push_cast, w3, w4]
          repeat (refine And.intro (by clear hK; intros; first | omega | (simp_all; done) | (simp_all <;> omega)) ?_)
          refine hK _ ?_; clear hK K; refine Nav.imp ?_
          refine ⟨2, ⟨by omega, fun j hj => ?_⟩, by omega, ?_⟩
          · by_cases e : j < 1
            · exact hall j e
            · have : j = 1 := by omega
              subst this
              simpa [Pos.at] using hw2
          · refine weak_of [(0, some 0)] rfl (by simp [upT, up, upL, push_cast]) (by simp [upH, upR, upL, up, push_cast]) (by simp [namesOk, push_cast]) (by simp [olds])
      · simp at hb
    · have hw2 : withB b.real.r 1099511627776 = !(decide (b.real.r < -1099511627776) || decide (1099511627776 < b.real.r)) := by rw [Bool.eq_iff_iff]; simp [withB]
      refine Nav.imp ?_
      refine awp_region cx [] fun K hK => ?_
      simp [push_cast]
      repeat (refine And.intro (by clear hK; intros; first | omega | (simp_all; done) | (simp_all <;> omega)) ?_)
      refine hK _ ?_; clear hK K; refine Nav.imp ?_
      refine awp_cond (b := true) (by simp [push_cast]) (fun hb => ?_) (fun hb => ?_) <;> (refine Nav.imp ?_)
      · refine awp_region cx [] fun K hK => ?_
        simp [push_cast]
        repeat (refine And.intro (by clear hK; intros; first | omega | (simp_all; done) | (simp_all <;> omega)) ?_)
        refine hK _ ?_; clear hK K; refine Nav.imp ?_
        refine awp_region cx [] fun K hK => ?_
        simp [push_cast]
        repeat (refine And.intro (by clear hK; intros; first | omega | (simp_all; done) | (simp_all <;> omega)) ?_)
        refine hK _ ?_; clear hK K; refine Nav.imp ?_
        refine awp_cond (b := decide (b.real.r < -1099511627776) || decide (1099511627776 < b.real.r)) (by simp [push_cast]) (fun hb => ?_) (fun hb => ?_) <;> (refine Nav.imp ?_)
        · rw [hb] at hw2
          have hf : sb = false := by
            cases sb
            · rfl
            · have := f1 rfl 2 (by omega)
              simp only [Pos.at] at this
              rw [this] at hw2; cases hw2
          rw [hf]
          refine awp_region cx [] fun K hK => ?_
          simp [push_cast]
          repeat (refine And.intro (by clear hK; intros; first | omega | (simp_all; done) | (simp_all <;> omega)) ?_)
          refine hK _ ?_; clear hK K; refine Nav.imp ?_
          simp [push_cast]
        · rw [hb] at hw2
          refine awp_region cx [] fun K hK => ?_
          simp [push_cast, w3, w4]
          repeat (refine And.intro (by clear hK; intros; first | omega | (simp_all; done) | (simp_all <;> omega)) ?_)
          refine hK _ ?_; clear hK K; refine Nav.imp ?_
          refine ⟨3, ⟨by omega, fun j hj => ?_⟩, by omega, ?_⟩
          · by_cases e : j < 2
            · exact hall j e
            · have : j = 2 := by omega
              subst this
              simpa [Pos.at] using hw2
          · refine weak_of [(0, some 0)] rfl (by simp [upT, up, upL, push_cast]) (by simp [upH, upR, upL, up, push_cast]) (by simp [namesOk, push_cast]) (by simp [olds])
      · simp at hb
    · have hw2 : withB b.real.s 1099511627776 = !(decide (b.real.s < -1099511627776) || decide (1099511627776 < b.real.s)) := by rw [Bool.eq_iff_iff]; simp [withB]
      refine Nav.imp ?_
      refine awp_region cx [] fun K hK => ?_
      simp [push_cast]
      repeat (refine And.intro (by clear hK; intros; first | omega | (simp_all; done) | (simp_all <;> omega)) ?_)
      refine hK _ ?_; clear hK K; refine Nav.imp ?_
      refine awp_cond (b := true) (by simp [push_cast]) (fun hb => ?_) (fun hb => ?_) <;> (refine Nav.imp ?_)
      · refine awp_region cx [] fun K hK => ?_
        simp [push_cast]
        repeat (refine And.intro (by clear hK; intros; first | omega | (simp_all; done) | (simp_all <;> omega)) ?_)
        refine hK _ ?_; clear hK K; refine Nav.imp ?_
        refine awp_region cx [] fun K hK => ?_
        simp [push_cast]
        repeat (refine And.intro (by clear hK; intros; first | omega | (simp_all; done) | (simp_all <;> omega)) ?_)
        refine hK _ ?_; clear hK K; refine Nav.imp ?_
        refine awp_cond (b := decide (b.real.s < -1099511627776) || decide (1099511627776 < b.real.s)) (by simp [push_cast]) (fun hb => ?_) (fun hb => ?_) <;> (refine Nav.imp ?_)
        · rw [hb] at hw2
          have hf : sb = false := by
            cases sb
            · rfl
            · have := f1 rfl 3 (by omega)
              simp only [Pos.at] at this
              rw [this] at hw2; cases hw2
          rw [hf]
          refine awp_region cx [] fun K hK => ?_
          simp [push_cast]
          repeat (refine And.intro (by clear hK; intros; first | omega | (simp_all; done) | (simp_all <;> omega)) ?_)
          refine hK _ ?_; clear hK K; refine Nav.imp ?_
          simp [push_cast]
        · rw [hb] at hw2
          refine awp_region cx [] fun K hK => ?_
          simp [push_cast, w3, w4]
          repeat (refine And.intro (by clear hK; intros; first | omega | (simp_all; done) | (simp_all <;> omega)) ?_)
          refine hK _ ?_; clear hK K; refine Nav.imp ?_
          refine ⟨4, ⟨by omega, fun j hj => ?_⟩, by omega, ?_⟩
          · by_cases e : j < 3
            · exact hall j e
            · have : j = 3 := by omega
              subst this
              simpa [Pos.at] using hw2
          · refine weak_of [(0, some 0)] rfl (by simp [upT, up, upL, push_cast]) (by simp [upH, upR, upL, up, push_cast]) (by simp [namesOk, push_cast]) (by simp [olds])
      · simp at hb
    · refine Nav.imp ?_
      refine awp_region cx [] fun K hK => ?_
      simp [push_cast]
      repeat (refine And.intro (by clear hK; intros; first | omega | (simp_all; done) | (simp_all <;> omega)) ?_)
      refine hK _ ?_; clear hK K; refine Nav.imp ?_
      refine awp_cond (b := false) (by simp [push_cast]) (fun hb => ?_) (fun hb => ?_) <;> (refine Nav.imp ?_)
      · simp at hb
      · refine awp_region cx [] fun K hK => ?_
        simp [push_cast]
        repeat (refine And.intro (by clear hK; intros; first | omega | (simp_all; done) | (simp_all <;> omega)) ?_)
        refine hK _ ?_; clear hK K; refine Nav.imp ?_
        refine awp_loop (β := Nat) (fun i => ⟨42, [(1, .ptr 0 0 0), (27, .d (.agg b.cnts.row)), (28, .d (.int .i64 i))], [(0, some ⟨30, 22, [b.row.map .d]⟩)], 1⟩) (fun i => i ≤ 4 ∧ ∀ j < i, cntB (b.cnts.at j) = true) (fun i => 4 - i) 0 ?_ ⟨Nat.zero_le _, by simp⟩ ?_
        · refine weak_of [(0, some 0)] rfl (by simp [upT, up, upL, push_cast, Bench.cnts]) (by simp [upH, upR, upL, up, push_cast, Bench.cnts]) (by simp [namesOk, push_cast]) (by simp [olds])
        · rintro i ⟨hi, hall2⟩
          rcases (show i = 0 ∨ i = 1 ∨ i = 2 ∨ i = 3 ∨ i = 4 by omega) with rfl | rfl | rfl | rfl | rfl
          · have hw2 : cntB b.cnts.p = !(decide (b.cnts.p < 0) || decide (1099511627776 < b.cnts.p)) := by rw [Bool.eq_iff_iff]; simp [cntB]
            refine Nav.imp ?_
            refine awp_region cx [] fun K hK => ?_
            simp [push_cast]
            repeat (refine And.intro (by clear hK; intros; first | omega | (simp_all; done) | (simp_all <;> omega)) ?_)
            refine hK _ ?_; clear hK K; refine Nav.imp ?_
            refine awp_cond (b := true) (by simp [push_cast]) (fun hb => ?_) (fun hb => ?_) <;> (refine Nav.imp ?_)
            · refine awp_region cx [] fun K hK => ?_
              simp [push_cast]
              repeat (refine And.intro (by clear hK; intros; first | omega | (simp_all; done) | (simp_all <;> omega)) ?_)
              refine hK _ ?_; clear hK K; refine Nav.imp ?_
              refine awp_region cx [] fun K hK => ?_
              simp [push_cast]
              repeat (refine And.intro (by clear hK; intros; first | omega | (simp_all; done) | (simp_all <;> omega)) ?_)
              refine hK _ ?_; clear hK K; refine Nav.imp ?_
              refine awp_cond (b := decide (b.cnts.p < 0) || decide (1099511627776 < b.cnts.p)) (by simp [push_cast]) (fun hb => ?_) (fun hb => ?_) <;> (refine Nav.imp ?_)
              · rw [hb] at hw2
                have hf : sb = false := by
                  cases sb
                  · rfl
                  · have := f2 rfl 0 (by omega)
                    simp only [Pos.at] at this
                    rw [this] at hw2; cases hw2
                rw [hf]
                refine awp_region cx [] fun K hK => ?_
                simp [push_cast]
                repeat (refine And.intro (by clear hK; intros; first | omega | (simp_all; done) | (simp_all <;> omega)) ?_)
                refine hK _ ?_; clear hK K; refine Nav.imp ?_
                simp [push_cast]
              · rw [hb] at hw2
                refine awp_region cx [] fun K hK => ?_
                simp [push_cast, w3, w4]
                repeat (refine And.intro (by clear hK; intros; first | omega | (simp_all; done) | (simp_all <;> omega)) ?_)
                refine hK _ ?_; clear hK K; refine Nav.imp ?_
                refine ⟨1, ⟨by omega, fun j hj => ?_⟩, by omega, ?_⟩
                · by_cases e : j < 0
                  · exact hall2 j e
                  · have : j = 0 := by omega
                    subst this
                    simpa [Pos.at] using hw2
                · refine weak_of [(0, some 0)] rfl (by simp [upT, up, upL, push_cast]) (by simp [upH, upR, upL, up, push_cast]) (by simp [namesOk, push_cast]) (by simp [olds])
            · simp at hb
          · have hw2 : cntB b.cnts.q = !(decide (b.cnts.q < 0) || decide (1099511627776 < b.cnts.q)) := by rw [Bool.eq_iff_iff]; simp [cntB]
            refine Nav.imp ?_
            refine awp_region cx [] fun K hK => ?_
            simp [push_cast]
            repeat (refine And.intro (by clear hK; intros; first | omega | (simp_all; done) | (simp_all <;> omega)) ?_)
            refine hK _ ?_; clear hK K; refine Nav.imp ?_
            refine awp_cond (b := true) (by simp [push_cast]) (fun hb => ?_) (fun hb => ?_) <;> (refine Nav.imp ?_)
            · refine awp_region cx [] fun K hK => ?_
              simp [push_cast]
              repeat (refine And.intro (by clear hK; intros; first | omega | (simp_all; done) | (simp_all <;> omega)) ?_)
              refine hK _ ?_; clear hK K; refine Nav.imp ?_
              refine awp_region cx [] fun K hK => ?_
              simp [push_cast]
              repeat (refine And.intro (by clear hK; intros; first | omega | (simp_all; done) | (simp_all <;> omega)) ?_)
              refine hK _ ?_; clear hK K; refine Nav.imp ?_
              refine awp_cond (b := decide (b.cnts.q < 0) || decide (1099511627776 < b.cnts.q)) (by simp [push_cast]) (fun hb => ?_) (fun hb => ?_) <;> (refine Nav.imp ?_)
              · rw [hb] at hw2
                have hf : sb = false := by
                  cases sb
                  · rfl
                  · have := f2 rfl 1 (by omega)
                    simp only [Pos.at] at this
                    rw [this] at hw2; cases hw2
                rw [hf]
                refine awp_region cx [] fun K hK => ?_
                simp [push_cast]
                repeat (refine And.intro (by clear hK; intros; first | omega | (simp_all; done) | (simp_all <;> omega)) ?_)
                refine hK _ ?_; clear hK K; refine Nav.imp ?_
                simp [push_cast]
              · rw [hb] at hw2
                refine awp_region cx [] fun K hK => ?_
                simp [push_cast, w3, w4]
                repeat (refine And.intro (by clear hK; intros; first | omega | (simp_all; done) | (simp_all <;> omega)) ?_)
                refine hK _ ?_; clear hK K; refine Nav.imp ?_
                refine ⟨2, ⟨by omega, fun j hj => ?_⟩, by omega, ?_⟩
                · by_cases e : j < 1
                  · exact hall2 j e
                  · have : j = 1 := by omega
                    subst this
                    simpa [Pos.at] using hw2
                · refine weak_of [(0, some 0)] rfl (by simp [upT, up, upL, push_cast]) (by simp [upH, upR, upL, up, push_cast]) (by simp [namesOk, push_cast]) (by simp [olds])
            · simp at hb
          · have hw2 : cntB b.cnts.r = !(decide (b.cnts.r < 0) || decide (1099511627776 < b.cnts.r)) := by rw [Bool.eq_iff_iff]; simp [cntB]
            refine Nav.imp ?_
            refine awp_region cx [] fun K hK => ?_
            simp [push_cast]
            repeat (refine And.intro (by clear hK; intros; first | omega | (simp_all; done) | (simp_all <;> omega)) ?_)
            refine hK _ ?_; clear hK K; refine Nav.imp ?_
            refine awp_cond (b := true) (by simp [push_cast]) (fun hb => ?_) (fun hb => ?_) <;> (refine Nav.imp ?_)
            · refine awp_region cx [] fun K hK => ?_
              simp [push_cast]
              repeat (refine And.intro (by clear hK; intros; first | omega | (simp_all; done) | (simp_all <;> omega)) ?_)
              refine hK _ ?_; clear hK K; refine Nav.imp ?_
              refine awp_region cx [] fun K hK => ?_
              simp [push_cast]
              repeat (refine And.intro (by clear hK; intros; first | omega | (simp_all; done) | (simp_all <;> omega)) ?_)
              refine hK _ ?_; clear hK K; refine Nav.imp ?_
              refine awp_cond (b := decide (b.cnts.r < 0) || decide (1099511627776 < b.cnts.r)) (by simp [push_cast]) (fun hb => ?_) (fun hb => ?_) <;> (refine Nav.imp ?_)
              · rw [hb] at hw2
                have hf : sb = false := by
                  cases sb
                  · rfl
                  · have := f2 rfl 2 (by omega)
                    simp only [Pos.at] at this
                    rw [this] at hw2; cases hw2
                rw [hf]
                refine awp_region cx [] fun K hK => ?_
                simp [push_cast]
                repeat (refine And.intro (by clear hK; intros; first | omega | (simp_all; done) | (simp_all <;> omega)) ?_)
                refine hK _ ?_; clear hK K; refine Nav.imp ?_
                simp [push_cast]
              · rw [hb] at hw2
                refine awp_region cx [] fun K hK => ?_
                simp [push_cast, w3, w4]
                repeat (refine And.intro (by clear hK; intros; first | omega | (simp_all; done) | (simp_all <;> omega)) ?_)
                refine hK _ ?_; clear hK K; refine Nav.imp ?_
                refine ⟨3, ⟨by omega, fun j hj => ?_⟩, by omega, ?_⟩
                · by_cases e : j < 2
                  · exact hall2 j e
                  · have : j = 2 := by omega
                    subst this
                    simpa [Pos.at] using hw2
                · refine weak_of [(0, some 0)] rfl (by simp [upT, up, upL, push_cast]) (by simp [upH, upR, upL, up, push_cast]) (by simp [namesOk, push_cast]) (by simp [olds])
            · simp at hb
          · have hw2 : cntB b.cnts.s = !(decide (b.cnts.s < 0) || decide (1099511627776 < b.cnts.s)) := by rw [Bool.eq_iff_iff]; simp [cntB]
            refine Nav.imp ?_
            refine awp_region cx [] fun K hK => ?_
            simp [push_cast]
            repeat (refine And.intro (by clear hK; intros; first | omega | (simp_all; done) | (simp_all <;> omega)) ?_)
            refine hK _ ?_; clear hK K; refine Nav.imp ?_
            refine awp_cond (b := true) (by simp [push_cast]) (fun hb => ?_) (fun hb => ?_) <;> (refine Nav.imp ?_)
            · refine awp_region cx [] fun K hK => ?_
              simp [push_cast]
              repeat (refine And.intro (by clear hK; intros; first | omega | (simp_all; done) | (simp_all <;> omega)) ?_)
              refine hK _ ?_; clear hK K; refine Nav.imp ?_
              refine awp_region cx [] fun K hK => ?_
              simp [push_cast]
              repeat (refine And.intro (by clear hK; intros; first | omega | (simp_all; done) | (simp_all <;> omega)) ?_)
              refine hK _ ?_; clear hK K; refine Nav.imp ?_
              refine awp_cond (b := decide (b.cnts.s < 0) || decide (1099511627776 < b.cnts.s)) (by simp [push_cast]) (fun hb => ?_) (fun hb => ?_) <;> (refine Nav.imp ?_)
              · rw [hb] at hw2
                have hf : sb = false := by
                  cases sb
                  · rfl
                  · have := f2 rfl 3 (by omega)
                    simp only [Pos.at] at this
                    rw [this] at hw2; cases hw2
                rw [hf]
                refine awp_region cx [] fun K hK => ?_
                simp [push_cast]
                repeat (refine And.intro (by clear hK; intros; first | omega | (simp_all; done) | (simp_all <;> omega)) ?_)
                refine hK _ ?_; clear hK K; refine Nav.imp ?_
                simp [push_cast]
              · rw [hb] at hw2
                refine awp_region cx [] fun K hK => ?_
                simp [push_cast, w3, w4]
                repeat (refine And.intro (by clear hK; intros; first | omega | (simp_all; done) | (simp_all <;> omega)) ?_)
                refine hK _ ?_; clear hK K; refine Nav.imp ?_
                refine ⟨4, ⟨by omega, fun j hj => ?_⟩, by omega, ?_⟩
                · by_cases e : j < 3
                  · exact hall2 j e
                  · have : j = 3 := by omega
                    subst this
                    simpa [Pos.at] using hw2
                · refine weak_of [(0, some 0)] rfl (by simp [upT, up, upL, push_cast]) (by simp [upH, upR, upL, up, push_cast]) (by simp [namesOk, push_cast]) (by simp [olds])
            · simp at hb
          · refine Nav.imp ?_
            refine awp_region cx [] fun K hK => ?_
            simp [push_cast]
            repeat (refine And.intro (by clear hK; intros; first | omega | (simp_all; done) | (simp_all <;> omega)) ?_)
            refine hK _ ?_; clear hK K; refine Nav.imp ?_
            refine awp_cond (b := false) (by simp [push_cast]) (fun hb => ?_) (fun hb => ?_) <;> (refine Nav.imp ?_)
            · simp at hb
            · rw [f3 hall hall2]
              refine awp_region cx [] fun K hK => ?_
              simp [push_cast]
              repeat (refine And.intro (by clear hK; intros; first | omega | (simp_all; done) | (simp_all <;> omega)) ?_)
              refine hK _ ?_; clear hK K; refine Nav.imp ?_
              simp [push_cast]
              omega
theorem bvalid_ok (b : Bench) (hL : smallL b.lays) : PC Tryz.prog 18 [.agg b.row] (.p (.bool (validE b))) := by
  have c1 := sound_ok b hL.1
  obtain ⟨hl, hR⟩ := hL
  have hv : validE b = (b.lays.all validR && soundB b) := rfl
  generalize soundB b = sb at *
  generalize validE b = vb at *
  refine pc_of_awp cx (fn := Tryz.f18) (c := _) Tryz.func18 rfl rfl (Nat.le_of_ble_eq_true rfl) ?_
  rw [Tryz.ntmps18]; refine Nav.imp ?_
  refine awp_region cx [] fun K hK => ?_
  simp [push_cast]
  repeat (refine And.intro (by clear hK; intros; first | omega | (simp_all; done) | (simp_all <;> omega)) ?_)
  refine hK _ ?_; clear hK K; refine Nav.imp ?_
  refine awp_region cx [] fun K hK => ?_
  simp [push_cast]
  repeat (refine And.intro (by clear hK; intros; first | omega | (simp_all; done) | (simp_all <;> omega)) ?_)
  refine hK _ ?_; clear hK K; refine Nav.imp ?_
  refine awp_loop (β := Nat) (fun i => ⟨18, [(1, .ptr 0 0 0), (6, .d (encLays b.lays)), (7, .d (.int .i64 b.lays.length)), (8, .d (.int .i64 i))], [(0, some ⟨30, 22, [b.row.map .d]⟩)], 1⟩) (fun i => i ≤ b.lays.length ∧ ∀ (j : Nat) R, j < i → b.lays[j]? = some R → validR R = true) (fun i => b.lays.length - i) 0 ?_ ⟨Nat.zero_le _, by simp⟩ ?_
  · refine weak_of [(0, some 0)] rfl (by simp [upT, up, upL, push_cast]) (by simp [upH, upR, upL, up, push_cast]) (by simp [namesOk, push_cast]) (by simp [olds])
  · rintro i ⟨hi, hall⟩
    refine Nav.imp ?_
    refine awp_region cx [] fun K hK => ?_
    simp [push_cast]
    repeat (refine And.intro (by clear hK; intros; first | omega | (simp_all; done) | (simp_all <;> omega)) ?_)
    refine hK _ ?_; clear hK K; refine Nav.imp ?_
    refine awp_cond (b := decide ((i : Int) < b.lays.length)) (by simp [push_cast]) (fun hb => ?_) (fun hb => ?_) <;> (refine Nav.imp ?_)
    · have hlt : i < b.lays.length := by simpa using hb
      obtain ⟨R, hRi⟩ := getq hlt
      have e0 := wrap_i64 (n := (i : Int) + 1) (by omega) (by omega)
      have c2 := valid_ok R (hR R (List.mem_of_getElem? hRi))
      refine awp_region cx [] fun K hK => ?_
      simp [push_cast, hRi]
      repeat (refine And.intro (by clear hK; intros; first | omega | (simp_all; done) | (simp_all <;> omega)) ?_)
      refine hK _ ?_; clear hK K; refine Nav.imp ?_
      cases hvR : validR R with
      | false =>
        rw [hvR] at c2
        have hf : vb = false := by
          rw [hv, Bool.and_eq_false_iff]; left
          rw [List.all_eq_false]
          exact ⟨R, List.mem_of_getElem? hRi, by simp [hvR]⟩
        rw [hf]
        refine awp_region cx [(1, .p (.bool false))] fun K hK => ?_
        simp [push_cast, c2]
        repeat (refine And.intro (by clear hK; intros; first | omega | (simp_all; done) | (simp_all <;> omega)) ?_)
        refine hK _ ?_; clear hK K; refine Nav.imp ?_
        refine awp_cond (b := true) (by simp [push_cast]) (fun hb => ?_) (fun hb => ?_) <;> (refine Nav.imp ?_)
        · refine awp_region cx [] fun K hK => ?_
          simp [push_cast]
          repeat (refine And.intro (by clear hK; intros; first | omega | (simp_all; done) | (simp_all <;> omega)) ?_)
          refine hK _ ?_; clear hK K; refine Nav.imp ?_
          simp [push_cast]
        · simp at hb
      | true =>
        rw [hvR] at c2
        refine awp_region cx [(1, .p (.bool true))] fun K hK => ?_
        simp [push_cast, c2]
        repeat (refine And.intro (by clear hK; intros; first | omega | (simp_all; done) | (simp_all <;> omega)) ?_)
        refine hK _ ?_; clear hK K; refine Nav.imp ?_
        refine awp_cond (b := false) (by simp [push_cast]) (fun hb => ?_) (fun hb => ?_) <;> (refine Nav.imp ?_)
        · simp at hb
        · refine awp_region cx [] fun K hK => ?_
          simp [push_cast, e0]
          repeat (refine And.intro (by clear hK; intros; first | omega | (simp_all; done) | (simp_all <;> omega)) ?_)
          refine hK _ ?_; clear hK K; refine Nav.imp ?_
          refine ⟨i + 1, ⟨hlt, fun j S hj hS => ?_⟩, by omega, ?_⟩
          · by_cases e : j < i
            · exact hall j S e hS
            · have : j = i := by omega
              subst this
              rw [hRi] at hS; cases hS; exact hvR
          · refine weak_of [(0, some 0)] rfl (by simp [upT, up, upL, push_cast]) (by simp [upH, upR, upL, up, push_cast]) (by simp [namesOk, push_cast]) (by simp [olds])
    · have hie : i = b.lays.length := by simp at hb; omega
      have : b.lays.all validR = true := by
        rw [List.all_eq_true]
        intro R hR'
        obtain ⟨j, hj⟩ := List.mem_iff_getElem?.1 hR'
        exact hall j R (by have := (List.getElem?_eq_some_iff.1 hj).1; omega) hj
      rw [this, Bool.true_and] at hv
      rw [hv]
      refine awp_region cx [(1, .p (.bool sb))] fun K hK => ?_
      simp [push_cast, c1]
      repeat (refine And.intro (by clear hK; intros; first | omega | (simp_all; done) | (simp_all <;> omega)) ?_)
      refine hK _ ?_; clear hK K; refine Nav.imp ?_
      simp [push_cast]
end Go.Proofs.YtlfbjflfbjkbeaaGreat

namespace Go.Proofs.YtlfbjflfbjkbeaaGreat
open Go.Abs
attribute [push_cast] okHead calleeB

def stepP (x p : Pos) : Pos := ⟨x.p + p.p, x.q + p.q, x.r + p.r, x.s + p.s⟩
def oneB (n : Int) : Bool := !(decide (n < -1) || decide (1 < n))
def unitP (p : Pos) : Bool := oneB p.p && oneB p.q && oneB p.r && oneB p.s
def pulseW (b : Bench) (m : Mach) (s : Sett) (p : Pos) : Bench :=
  hitF (extB { b with real := stepP b.real p } (underC m s (stepP b.real p)) (underL m s (stepP b.real p)) p.s) (underC m s (stepP b.real p)) (underL m s (stepP b.real p)) (p.p * p.p + p.q * p.q)
def pulseB (b : Bench) (m : Mach) (s : Sett) (p : Pos) : Bench := if unitP p && (rightB m s && validE b) && soundB (pulseW b m s p) then pulseW b m s p else b
theorem opR_valid {f : Bool → Bool → Bool} (hf : f false false = false) (a b : List Row) : validR (opR f a b) = true := by
  cases hv : (validR a && validR b) with
  | false => unfold opR; rw [hv]; rfl
  | true =>
    simp only [Bool.and_eq_true] at hv
    exact (opR_facts hf hv.1 hv.2).1
theorem layF_facts {L : List (List Row)} {l : Int} {c : Cell} (hL : ∀ R ∈ L, validR R = true) (hl : L.length ≤ 256) : (∀ R ∈ layF L l c, validR R = true) ∧ (layF L l c).length ≤ 256 := by
  unfold layF
  split
  · rename_i h
    simp [layOk] at h
    refine ⟨fun R hR => ?_, ?_⟩
    · unfold layL at hR
      rcases List.mem_or_eq_of_mem_set hR with h1 | h1
      · rcases List.mem_append.1 h1 with h1 | h1
        · exact hL R h1
        · rw [(List.mem_replicate.1 h1).2]; rfl
      · rw [h1]; exact opR_valid rfl _ _
    · rw [layL_len]; split <;> omega
  · exact ⟨hL, hl⟩
theorem ext_facts {b : Bench} {c : Cell} {l k : Int} (hL : ∀ R ∈ b.lays, validR R = true) (hl : b.lays.length ≤ 256) : (∀ R ∈ (extB b c l k).lays, validR R = true) ∧ (extB b c l k).lays.length ≤ 256 ∧ (extB b c l k).hits = b.hits := by
  unfold extB
  split
  · exact ⟨hL, hl, rfl⟩
  split
  · exact ⟨hL, hl, rfl⟩
  split
  · exact ⟨hL, hl, rfl⟩
  split
  · obtain ⟨h1, h2⟩ := layF_facts (l := l) (c := c) hL hl
    exact ⟨h1, h2, rfl⟩
  · exact ⟨hL, hl, rfl⟩
theorem hit_lays {b : Bench} {c : Cell} {l k : Int} : (hitF b c l k).lays = b.lays := by
  unfold hitF
  split
  · rfl
  split <;> rfl
theorem under_layer (m : Mach) (s : Sett) (x : Pos) : -1 ≤ underL m s x ∧ underL m s x ≤ 4611686018427387905 := by
  rcases under_cases m s x with ⟨h, _⟩ | ⟨_, h, _⟩ | ⟨h1, h2, a, b, c, d, _, hd, ha, hb, hc, hp, hh⟩
  · have : underB m s x = false := by simp [underB, h]
    simp [underL, this]
  · have : underB m s x = false := by simp [underB, h]
    simp [underL, this]
  · have := lay_range hc hh.1
    simp only [underD, D.tup.injEq, List.cons.injEq, D.int.injEq, true_and, and_true] at hd
    rw [hd.2]; exact this
set_option maxHeartbeats 8000000 in
theorem pulse_ok (b : Bench) (m : Mach) (s : Sett) (p : Pos) (hS : smallL b.lays) : PC Tryz.prog 7 [.agg b.row, .agg m.row, .agg s.row, .agg p.row] (.p (.agg (pulseB b m s p).row)) := by
  have c1 := clone_bench b hS
  have c2 := right_ok m s
  have c3 := bvalid_ok b hS
  have hP : pulseB b m s p = if unitP p && (rightB m s && validE b) && soundB (pulseW b m s p) then pulseW b m s p else b := rfl
  have hu : unitP p = true ↔ _ := four_iff (f := oneB) (x := p)
  generalize hB : pulseB b m s p = B at *
  generalize unitP p = up_ at *
  have w3 : IntKind.i64.wrap 3 = 3 := by decide
  have w4 : IntKind.i64.wrap 4 = 4 := by decide
  refine pc_of_awp cx (fn := Tryz.f7) (c := _) Tryz.func7 rfl rfl (Nat.le_of_ble_eq_true rfl) ?_
  rw [Tryz.ntmps7]; refine Nav.imp ?_
  refine awp_region cx [] fun K hK => ?_
  simp [push_cast]
  repeat (refine And.intro (by clear hK; intros; first | omega | (simp_all; done) | (simp_all <;> omega)) ?_)
  refine hK _ ?_; clear hK K; refine Nav.imp ?_
  refine awp_region cx [(1, .x ⟨[], [.d (.agg b.row)], [], [], some 2, [(2, ⟨48, 1, dr (b.lays.map regRow)⟩)], .agg (b.av (.hs 2 0 b.lays.length))⟩)] fun K hK => ?_
  simp [push_cast, c1]
  repeat (refine And.intro (by clear hK; intros; first | omega | (simp_all; done) | (simp_all <;> omega)) ?_)
  refine hK _ ?_; clear hK K; refine Nav.imp ?_
  refine awp_region cx [] fun K hK => ?_
  simp [push_cast]
  repeat (refine And.intro (by clear hK; intros; first | omega | (simp_all; done) | (simp_all <;> omega)) ?_)
  refine hK _ ?_; clear hK K; refine Nav.imp ?_
  refine awp_loop (β := Nat) (fun i => ⟨113, [(4, .ptr 0 0 0), (5, .ptr 1 0 0), (6, .ptr 2 0 0), (7, .ptr 3 0 0), (8, .ptr 4 0 0), (9, .ptr 5 0 0), (19, .d (.agg p.row)), (20, .d (.int .i64 i))], [(0, some ⟨30, 22, [b.row.map .d]⟩), (1, some ⟨35, 30, [m.row.map .d]⟩), (2, some ⟨37, 20, [s.row.map .d]⟩), (3, some ⟨22, 4, [p.row.map .d]⟩), (4, some ⟨30, 22, benchZ⟩), (5, some ⟨30, 22, [b.av (.hs 6 0 b.lays.length)]⟩), (6, some ⟨48, 1, dr (b.lays.map regRow)⟩)], 7⟩) (fun i => i ≤ 4 ∧ ∀ j < i, oneB (p.at j) = true) (fun i => 4 - i) 0 ?_ ⟨Nat.zero_le _, by simp⟩ ?_
  · refine weak_of [(0, some 0), (1, some 1), (2, some 2), (3, some 3), (4, some 4), (5, some 7), (6, some 6)] rfl (by simp [upT, up, upL, push_cast]) (by simp [upH, upR, upL, up, push_cast]) (by simp [namesOk, push_cast]) (by simp [olds])
  · rintro i ⟨hi, hall⟩
    rcases (show i = 0 ∨ i = 1 ∨ i = 2 ∨ i = 3 ∨ i = 4 by omega) with rfl | rfl | rfl | rfl | rfl
    · have hw2 : oneB p.p = !(decide (p.p < -1) || decide (1 < p.p)) := rfl
      refine Nav.imp ?_
      refine awp_region cx [] fun K hK => ?_
      simp [push_cast]
      repeat (refine And.intro (by clear hK; intros; first | omega | (simp_all; done) | (simp_all <;> omega)) ?_)
      refine hK _ ?_; clear hK K; refine Nav.imp ?_
      refine awp_cond (b := true) (by simp [push_cast]) (fun hb => ?_) (fun hb => ?_) <;> (refine Nav.imp ?_)
      · refine awp_region cx [] fun K hK => ?_
        simp [push_cast]
        repeat (refine And.intro (by clear hK; intros; first | omega | (simp_all; done) | (simp_all <;> omega)) ?_)
        refine hK _ ?_; clear hK K; refine Nav.imp ?_
        refine awp_region cx [] fun K hK => ?_
        simp [push_cast]
        repeat (refine And.intro (by clear hK; intros; first | omega | (simp_all; done) | (simp_all <;> omega)) ?_)
        refine hK _ ?_; clear hK K; refine Nav.imp ?_
        refine awp_cond (b := decide (p.p < -1) || decide (1 < p.p)) (by simp [push_cast]) (fun hb => ?_) (fun hb => ?_) <;> (refine Nav.imp ?_)
        · rw [hb] at hw2
          have hf : up_ = false := by
            cases up_
            · rfl
            · have := hu.1 rfl 0 (by omega)
              simp only [Pos.at] at this
              rw [this] at hw2; cases hw2
          rw [hf] at hP
          simp at hP
          rw [hP]
          refine awp_region cx [] fun K hK => ?_
          simp [push_cast]
          repeat (refine And.intro (by clear hK; intros; first | omega | (simp_all; done) | (simp_all <;> omega)) ?_)
          refine hK _ ?_; clear hK K; refine Nav.imp ?_
          simp [push_cast]
        · rw [hb] at hw2
          refine awp_region cx [] fun K hK => ?_
          simp [push_cast, w3, w4]
          repeat (refine And.intro (by clear hK; intros; first | omega | (simp_all; done) | (simp_all <;> omega)) ?_)
          refine hK _ ?_; clear hK K; refine Nav.imp ?_
          refine ⟨1, ⟨by omega, fun j hj => ?_⟩, by omega, ?_⟩
          · by_cases e : j < 0
            · exact hall j e
            · have : j = 0 := by omega
              subst this
              simpa [Pos.at] using hw2
          · refine weak_of [(0, some 0), (1, some 1), (2, some 2), (3, some 3), (4, some 4), (5, some 5), (6, some 6)] rfl (by simp [upT, up, upL, push_cast]) (by simp [upH, upR, upL, up, push_cast]) (by simp [namesOk, push_cast]) (by simp [olds])
      · simp at hb
    · have hw2 : oneB p.q = !(decide (p.q < -1) || decide (1 < p.q)) := rfl
      refine Nav.imp ?_
      refine awp_region cx [] fun K hK => ?_
      simp [push_cast]
      repeat (refine And.intro (by clear hK; intros; first | omega | (simp_all; done) | (simp_all <;> omega)) ?_)
      refine hK _ ?_; clear hK K; refine Nav.imp ?_
      refine awp_cond (b := true) (by simp [push_cast]) (fun hb => ?_) (fun hb => ?_) <;> (refine Nav.imp ?_)
      · refine awp_region cx [] fun K hK => ?_
        simp [push_cast]
        repeat (refine And.intro (by clear hK; intros; first | omega | (simp_all; done) | (simp_all <;> omega)) ?_)
        refine hK _ ?_; clear hK K; refine Nav.imp ?_
        refine awp_region cx [] fun K hK => ?_
        simp [push_cast]
        repeat (refine And.intro (by clear hK; intros; first | omega | (simp_all; done) | (simp_all <;> omega)) ?_)
        refine hK _ ?_; clear hK K; refine Nav.imp ?_
        refine awp_cond (b := decide (p.q < -1) || decide (1 < p.q)) (by simp [push_cast]) (fun hb => ?_) (fun hb => ?_) <;> (refine Nav.imp ?_)
        · rw [hb] at hw2
          have hf : up_ = false := by
            cases up_
            · rfl
            · have := hu.1 rfl 1 (by omega)
              simp only [Pos.at] at this
              rw [this] at hw2; cases hw2
          rw [hf] at hP
          simp at hP
          rw [hP]
          refine awp_region cx [] fun K hK => ?_
          simp [push_cast]
          repeat (refine And.intro (by clear hK; intros; first | omega | (simp_all; done) | (simp_all <;> omega)) ?_)
          refine hK _ ?_; clear hK K; refine Nav.imp ?_
          simp [push_cast]
        · rw [hb] at hw2
          refine awp_region cx [] fun K hK => ?_
          simp [push_cast, w3, w4]
          repeat (refine And.intro (by clear hK; intros; first | omega | (simp_all; done) | (simp_all <;> omega)) ?_)
          refine hK _ ?_; clear hK K; refine Nav.imp ?_
          refine ⟨2, ⟨by omega, fun j hj => ?_⟩, by omega, ?_⟩
          · by_cases e : j < 1
            · exact hall j e
            · have : j = 1 := by omega
              subst this
              simpa [Pos.at] using hw2
          · refine weak_of [(0, some 0), (1, some 1), (2, some 2), (3, some 3), (4, some 4), (5, some 5), (6, some 6)] rfl (by simp [upT, up, upL, push_cast]) (by simp [upH, upR, upL, up, push_cast]) (by simp [namesOk, push_cast]) (by simp [olds])
      · simp at hb
    · have hw2 : oneB p.r = !(decide (p.r < -1) || decide (1 < p.r)) := rfl
      refine Nav.imp ?_
      refine awp_region cx [] fun K hK => ?_
      simp [push_cast]
      repeat (refine And.intro (by clear hK; intros; first | omega | (simp_all; done) | (simp_all <;> omega)) ?_)
      refine hK _ ?_; clear hK K; refine Nav.imp ?_
      refine awp_cond (b := true) (by simp [push_cast]) (fun hb => ?_) (fun hb => ?_) <;> (refine Nav.imp ?_)
      · refine awp_region cx [] fun K hK => ?_
        simp [push_cast]
        repeat (refine And.intro (by clear hK; intros; first | omega | (simp_all; done) | (simp_all <;> omega)) ?_)
        refine hK _ ?_; clear hK K; refine Nav.imp ?_
        refine awp_region cx [] fun K hK => ?_
        simp [push_cast]
        repeat (refine And.intro (by clear hK; intros; first | omega | (simp_all; done) | (simp_all <;> omega)) ?_)
        refine hK _ ?_; clear hK K; refine Nav.imp ?_
        refine awp_cond (b := decide (p.r < -1) || decide (1 < p.r)) (by simp [push_cast]) (fun hb => ?_) (fun hb => ?_) <;> (refine Nav.imp ?_)
        · rw [hb] at hw2
          have hf : up_ = false := by
            cases up_
            · rfl
            · have := hu.1 rfl 2 (by omega)
              simp only [Pos.at] at this
              rw [this] at hw2; cases hw2
          rw [hf] at hP
          simp at hP
          rw [hP]
          refine awp_region cx [] fun K hK => ?_
          simp [push_cast]
          repeat (refine And.intro (by clear hK; intros; first | omega | (simp_all; done) | (simp_all <;> omega)) ?_)
          refine hK _ ?_; clear hK K; refine Nav.imp ?_
          simp [push_cast]
        · rw [hb] at hw2
          refine awp_region cx [] fun K hK => ?_
          simp [push_cast, w3, w4]
          repeat (refine And.intro (by clear hK; intros; first | omega | (simp_all; done) | (simp_all <;> omega)) ?_)
          refine hK _ ?_; clear hK K; refine Nav.imp ?_
          refine ⟨3, ⟨by omega, fun j hj => ?_⟩, by omega, ?_⟩
          · by_cases e : j < 2
            · exact hall j e
            · have : j = 2 := by omega
              subst this
              simpa [Pos.at] using hw2
          · refine weak_of [(0, some 0), (1, some 1), (2, some 2), (3, some 3), (4, some 4), (5, some 5), (6, some 6)] rfl (by simp [upT, up, upL, push_cast]) (by simp [upH, upR, upL, up, push_cast]) (by simp [namesOk, push_cast]) (by simp [olds])
      · simp at hb
    · have hw2 : oneB p.s = !(decide (p.s < -1) || decide (1 < p.s)) := rfl
      refine Nav.imp ?_
      refine awp_region cx [] fun K hK => ?_
      simp [push_cast]
      repeat (refine And.intro (by clear hK; intros; first | omega | (simp_all; done) | (simp_all <;> omega)) ?_)
      refine hK _ ?_; clear hK K; refine Nav.imp ?_
      refine awp_cond (b := true) (by simp [push_cast]) (fun hb => ?_) (fun hb => ?_) <;> (refine Nav.imp ?_)
      · refine awp_region cx [] fun K hK => ?_
        simp [push_cast]
        repeat (refine And.intro (by clear hK; intros; first | omega | (simp_all; done) | (simp_all <;> omega)) ?_)
        refine hK _ ?_; clear hK K; refine Nav.imp ?_
        refine awp_region cx [] fun K hK => ?_
        simp [push_cast]
        repeat (refine And.intro (by clear hK; intros; first | omega | (simp_all; done) | (simp_all <;> omega)) ?_)
        refine hK _ ?_; clear hK K; refine Nav.imp ?_
        refine awp_cond (b := decide (p.s < -1) || decide (1 < p.s)) (by simp [push_cast]) (fun hb => ?_) (fun hb => ?_) <;> (refine Nav.imp ?_)
        · rw [hb] at hw2
          have hf : up_ = false := by
            cases up_
            · rfl
            · have := hu.1 rfl 3 (by omega)
              simp only [Pos.at] at this
              rw [this] at hw2; cases hw2
          rw [hf] at hP
          simp at hP
          rw [hP]
          refine awp_region cx [] fun K hK => ?_
          simp [push_cast]
          repeat (refine And.intro (by clear hK; intros; first | omega | (simp_all; done) | (simp_all <;> omega)) ?_)
          refine hK _ ?_; clear hK K; refine Nav.imp ?_
          simp [push_cast]
        · rw [hb] at hw2
          refine awp_region cx [] fun K hK => ?_
          simp [push_cast, w3, w4]
          repeat (refine And.intro (by clear hK; intros; first | omega | (simp_all; done) | (simp_all <;> omega)) ?_)
          refine hK _ ?_; clear hK K; refine Nav.imp ?_
          refine ⟨4, ⟨by omega, fun j hj => ?_⟩, by omega, ?_⟩
          · by_cases e : j < 3
            · exact hall j e
            · have : j = 3 := by omega
              subst this
              simpa [Pos.at] using hw2
          · refine weak_of [(0, some 0), (1, some 1), (2, some 2), (3, some 3), (4, some 4), (5, some 5), (6, some 6)] rfl (by simp [upT, up, upL, push_cast]) (by simp [upH, upR, upL, up, push_cast]) (by simp [namesOk, push_cast]) (by simp [olds])
      · simp at hb
    · have hup := hu.2 hall
      rw [hup, Bool.true_and] at hP
      clear hu hup
      have a0 := hall 0 (by omega)
      have a1 := hall 1 (by omega)
      have a2 := hall 2 (by omega)
      have a3 := hall 3 (by omega)
      simp [oneB, Pos.at] at a0 a1 a2 a3
      refine Nav.imp ?_
      refine awp_region cx [] fun K hK => ?_
      simp [push_cast]
      repeat (refine And.intro (by clear hK; intros; first | omega | (simp_all; done) | (simp_all <;> omega)) ?_)
      refine hK _ ?_; clear hK K; refine Nav.imp ?_
      refine awp_cond (b := false) (by simp [push_cast]) (fun hb => ?_) (fun hb => ?_) <;> (refine Nav.imp ?_)
      · simp at hb
      · cases hr : rightB m s with
        | false =>
          rw [hr] at c2 hP
          simp at hP
          rw [hP]
          refine awp_region cx [(2, .p (.bool false)), (6, .skip)] fun K hK => ?_
          simp [push_cast, c2]
          repeat (refine And.intro (by clear hK; intros; first | omega | (simp_all; done) | (simp_all <;> omega)) ?_)
          refine hK _ ?_; clear hK K; refine Nav.imp ?_
          refine awp_cond (b := true) (by simp [push_cast]) (fun hb => ?_) (fun hb => ?_) <;> (refine Nav.imp ?_)
          · refine awp_region cx [] fun K hK => ?_
            simp [push_cast]
            repeat (refine And.intro (by clear hK; intros; first | omega | (simp_all; done) | (simp_all <;> omega)) ?_)
            refine hK _ ?_; clear hK K; refine Nav.imp ?_
            simp [push_cast]
          · simp at hb
        | true =>
        cases hv : validE b with
        | false =>
          rw [hr] at c2 hP
          rw [hv] at c3 hP
          simp at hP
          rw [hP]
          refine awp_region cx [(2, .p (.bool true)), (6, .p (.bool false))] fun K hK => ?_
          simp [push_cast, c2, c3]
          repeat (refine And.intro (by clear hK; intros; first | omega | (simp_all; done) | (simp_all <;> omega)) ?_)
          refine hK _ ?_; clear hK K; refine Nav.imp ?_
          refine awp_cond (b := true) (by simp [push_cast]) (fun hb => ?_) (fun hb => ?_) <;> (refine Nav.imp ?_)
          · refine awp_region cx [] fun K hK => ?_
            simp [push_cast]
            repeat (refine And.intro (by clear hK; intros; first | omega | (simp_all; done) | (simp_all <;> omega)) ?_)
            refine hK _ ?_; clear hK K; refine Nav.imp ?_
            simp [push_cast]
          · simp at hb
        | true =>
        rw [hr] at c2 hP
        rw [hv] at c3 hP
        simp only [Bool.and_self, Bool.true_and] at hP
        refine awp_region cx [(2, .p (.bool true)), (6, .p (.bool true))] fun K hK => ?_
        simp [push_cast, c2, c3]
        repeat (refine And.intro (by clear hK; intros; first | omega | (simp_all; done) | (simp_all <;> omega)) ?_)
        refine hK _ ?_; clear hK K; refine Nav.imp ?_
        refine awp_cond (b := false) (by simp [push_cast]) (fun hb => ?_) (fun hb => ?_) <;> (refine Nav.imp ?_)
        · simp at hb
        · simp only [validE, soundB, realB, cntsB, Bench.cnts, Bool.and_eq_true, List.all_eq_true, decide_eq_true_eq] at hv
          obtain ⟨hLv, ⟨⟨⟨⟨v0, v1⟩, v2⟩, v3⟩, ⟨⟨u0, u1⟩, u2⟩, u3⟩, hl⟩ := hv
          simp [withB] at v0 v1 v2 v3
          refine awp_region cx [(1, .x ⟨[], [.d (.agg b.row)], [], [], some 2, [(2, ⟨48, 1, dr (b.lays.map regRow)⟩)], .agg (b.av (.hs 2 0 b.lays.length))⟩)] fun K hK => ?_
          simp [push_cast, c1]
          repeat (refine And.intro (by clear hK; intros; first | omega | (simp_all; done) | (simp_all <;> omega)) ?_)
          refine hK _ ?_; clear hK K; refine Nav.imp ?_
          refine awp_region cx [] fun K hK => ?_
          simp [push_cast]
          repeat (refine And.intro (by clear hK; intros; first | omega | (simp_all; done) | (simp_all <;> omega)) ?_)
          refine hK _ ?_; clear hK K; refine Nav.imp ?_
          refine awp_loop (β := Nat) (fun i => ⟨113, [(5, .ptr 1 0 0), (6, .ptr 2 0 0), (7, .ptr 3 0 0), (8, .ptr 4 0 0), (9, .ptr 5 0 0), (12, .ptr 7 0 0), (45, .d (.agg p.row)), (46, .d (.int .i64 i))], [(1, some ⟨35, 30, [m.row.map .d]⟩), (2, some ⟨37, 20, [s.row.map .d]⟩), (3, some ⟨22, 4, [p.row.map .d]⟩), (4, some ⟨30, 22, benchZ⟩), (5, some ⟨30, 22, [b.av (.hs 6 0 b.lays.length)]⟩), (6, some ⟨48, 1, dr (b.lays.map regRow)⟩), (7, some ⟨59, 25, [Bench.wav { b with real := ⟨if 0 < i then b.real.p + p.p else b.real.p, if 1 < i then b.real.q + p.q else b.real.q, if 2 < i then b.real.r + p.r else b.real.r, if 3 < i then b.real.s + p.s else b.real.s⟩ } ⟨0, 0⟩ 0 (.hs 8 0 b.lays.length)]⟩), (8, some ⟨48, 1, dr (b.lays.map regRow)⟩)], 9⟩) (fun i => i ≤ 4) (fun i => 4 - i) 0 ?_ (Nat.zero_le _) ?_
          · refine weak_of [(1, some 1), (2, some 2), (3, some 3), (4, some 4), (5, some 5), (6, some 6), (7, some 20), (8, some 18)] rfl (by simp [upT, up, upL, push_cast]) (by simp [upH, upR, upL, up, push_cast]) (by simp [namesOk, push_cast]) (by simp [olds])
          · clear hi hall
            rintro i hi
            rcases (show i = 0 ∨ i = 1 ∨ i = 2 ∨ i = 3 ∨ i = 4 by omega) with rfl | rfl | rfl | rfl | rfl
            · have e1 := wrap_i64 (n := b.real.p + p.p) (by omega) (by omega)
              simp (config := { decide := true }) only [if_true, if_false]
              refine Nav.imp ?_
              refine awp_region cx [] fun K hK => ?_
              simp [push_cast]
              repeat (refine And.intro (by clear hK; intros; first | omega | (simp_all; done) | (simp_all <;> omega)) ?_)
              refine hK _ ?_; clear hK K; refine Nav.imp ?_
              refine awp_cond (b := true) (by simp [push_cast]) (fun hb => ?_) (fun hb => ?_) <;> (refine Nav.imp ?_)
              · refine awp_region cx [] fun K hK => ?_
                simp [push_cast]
                repeat (refine And.intro (by clear hK; intros; first | omega | (simp_all; done) | (simp_all <;> omega)) ?_)
                refine hK _ ?_; clear hK K; refine Nav.imp ?_
                refine awp_region_draw cx mixed [] fun K hK => ?_
                simp [push_cast, e1]
                repeat (refine And.intro (by clear hK; intros; first | omega | (simp_all; done) | (simp_all <;> omega)) ?_)
                refine hK _ _ (by kernel_rfl) ?_; clear hK K; refine Nav.imp ?_
                refine awp_region cx [] fun K hK => ?_
                simp [push_cast, w3, w4]
                repeat (refine And.intro (by clear hK; intros; first | omega | (simp_all; done) | (simp_all <;> omega)) ?_)
                refine hK _ ?_; clear hK K; refine Nav.imp ?_
                refine ⟨1, by omega, by omega, ?_⟩
                refine weak_of [(1, some 1), (2, some 2), (3, some 3), (4, some 4), (5, some 5), (6, some 6), (7, some 7), (8, some 8)] rfl (by simp [upT, up, upL, push_cast]) (by simp [upH, upR, upL, up, push_cast]) (by simp [namesOk, push_cast]) (by simp [olds])
              · simp at hb
            · have e1 := wrap_i64 (n := b.real.q + p.q) (by omega) (by omega)
              simp (config := { decide := true }) only [if_true, if_false]
              refine Nav.imp ?_
              refine awp_region cx [] fun K hK => ?_
              simp [push_cast]
              repeat (refine And.intro (by clear hK; intros; first | omega | (simp_all; done) | (simp_all <;> omega)) ?_)
              refine hK _ ?_; clear hK K; refine Nav.imp ?_
              refine awp_cond (b := true) (by simp [push_cast]) (fun hb => ?_) (fun hb => ?_) <;> (refine Nav.imp ?_)
              · refine awp_region cx [] fun K hK => ?_
                simp [push_cast]
                repeat (refine And.intro (by clear hK; intros; first | omega | (simp_all; done) | (simp_all <;> omega)) ?_)
                refine hK _ ?_; clear hK K; refine Nav.imp ?_
                refine awp_region_draw cx mixed [] fun K hK => ?_
                simp [push_cast, e1]
                repeat (refine And.intro (by clear hK; intros; first | omega | (simp_all; done) | (simp_all <;> omega)) ?_)
                refine hK _ _ (by kernel_rfl) ?_; clear hK K; refine Nav.imp ?_
                refine awp_region cx [] fun K hK => ?_
                simp [push_cast, w3, w4]
                repeat (refine And.intro (by clear hK; intros; first | omega | (simp_all; done) | (simp_all <;> omega)) ?_)
                refine hK _ ?_; clear hK K; refine Nav.imp ?_
                refine ⟨2, by omega, by omega, ?_⟩
                refine weak_of [(1, some 1), (2, some 2), (3, some 3), (4, some 4), (5, some 5), (6, some 6), (7, some 7), (8, some 8)] rfl (by simp [upT, up, upL, push_cast]) (by simp [upH, upR, upL, up, push_cast]) (by simp [namesOk, push_cast]) (by simp [olds])
              · simp at hb
            · have e1 := wrap_i64 (n := b.real.r + p.r) (by omega) (by omega)
              simp (config := { decide := true }) only [if_true, if_false]
              refine Nav.imp ?_
              refine awp_region cx [] fun K hK => ?_
              simp [push_cast]
              repeat (refine And.intro (by clear hK; intros; first | omega | (simp_all; done) | (simp_all <;> omega)) ?_)
              refine hK _ ?_; clear hK K; refine Nav.imp ?_
              refine awp_cond (b := true) (by simp [push_cast]) (fun hb => ?_) (fun hb => ?_) <;> (refine Nav.imp ?_)
              · refine awp_region cx [] fun K hK => ?_
                simp [push_cast]
                repeat (refine And.intro (by clear hK; intros; first | omega | (simp_all; done) | (simp_all <;> omega)) ?_)
                refine hK _ ?_; clear hK K; refine Nav.imp ?_
                refine awp_region_draw cx mixed [] fun K hK => ?_
                simp [push_cast, e1]
                repeat (refine And.intro (by clear hK; intros; first | omega | (simp_all; done) | (simp_all <;> omega)) ?_)
                refine hK _ _ (by kernel_rfl) ?_; clear hK K; refine Nav.imp ?_
                refine awp_region cx [] fun K hK => ?_
                simp [push_cast, w3, w4]
                repeat (refine And.intro (by clear hK; intros; first | omega | (simp_all; done) | (simp_all <;> omega)) ?_)
                refine hK _ ?_; clear hK K; refine Nav.imp ?_
                refine ⟨3, by omega, by omega, ?_⟩
                refine weak_of [(1, some 1), (2, some 2), (3, some 3), (4, some 4), (5, some 5), (6, some 6), (7, some 7), (8, some 8)] rfl (by simp [upT, up, upL, push_cast]) (by simp [upH, upR, upL, up, push_cast]) (by simp [namesOk, push_cast]) (by simp [olds])
              · simp at hb
            · have e1 := wrap_i64 (n := b.real.s + p.s) (by omega) (by omega)
              simp (config := { decide := true }) only [if_true, if_false]
              refine Nav.imp ?_
              refine awp_region cx [] fun K hK => ?_
              simp [push_cast]
              repeat (refine And.intro (by clear hK; intros; first | omega | (simp_all; done) | (simp_all <;> omega)) ?_)
              refine hK _ ?_; clear hK K; refine Nav.imp ?_
              refine awp_cond (b := true) (by simp [push_cast]) (fun hb => ?_) (fun hb => ?_) <;> (refine Nav.imp ?_)
              · refine awp_region cx [] fun K hK => ?_
                simp [push_cast]
                repeat (refine And.intro (by clear hK; intros; first | omega | (simp_all; done) | (simp_all <;> omega)) ?_)
                refine hK _ ?_; clear hK K; refine Nav.imp ?_
                refine awp_region_draw cx mixed [] fun K hK => ?_
                simp [push_cast, e1]
                repeat (refine And.intro (by clear hK; intros; first | omega | (simp_all; done) | (simp_all <;> omega)) ?_)
                refine hK _ _ (by kernel_rfl) ?_; clear hK K; refine Nav.imp ?_
                refine awp_region cx [] fun K hK => ?_
                simp [push_cast, w3, w4]
                repeat (refine And.intro (by clear hK; intros; first | omega | (simp_all; done) | (simp_all <;> omega)) ?_)
                refine hK _ ?_; clear hK K; refine Nav.imp ?_
                refine ⟨4, by omega, by omega, ?_⟩
                refine weak_of [(1, some 1), (2, some 2), (3, some 3), (4, some 4), (5, some 5), (6, some 6), (7, some 7), (8, some 8)] rfl (by simp [upT, up, upL, push_cast]) (by simp [upH, upR, upL, up, push_cast]) (by simp [namesOk, push_cast]) (by simp [olds])
              · simp at hb
            · simp (config := { decide := true }) only [if_true, if_false]
              refine Nav.imp ?_
              refine awp_region cx [] fun K hK => ?_
              simp [push_cast]
              repeat (refine And.intro (by clear hK; intros; first | omega | (simp_all; done) | (simp_all <;> omega)) ?_)
              refine hK _ ?_; clear hK K; refine Nav.imp ?_
              refine awp_cond (b := false) (by simp [push_cast]) (fun hb => ?_) (fun hb => ?_) <;> (refine Nav.imp ?_)
              · simp at hb
              · have c4 := under_ok m s ⟨b.real.p + p.p, b.real.q + p.q, b.real.r + p.r, b.real.s + p.s⟩
                have hlr := under_layer m s ⟨b.real.p + p.p, b.real.q + p.q, b.real.r + p.r, b.real.s + p.s⟩
                unfold underD at c4
                have hW : pulseW b m s p = hitF (extB { b with real := ⟨b.real.p + p.p, b.real.q + p.q, b.real.r + p.r, b.real.s + p.s⟩ } (underC m s ⟨b.real.p + p.p, b.real.q + p.q, b.real.r + p.r, b.real.s + p.s⟩) (underL m s ⟨b.real.p + p.p, b.real.q + p.q, b.real.r + p.r, b.real.s + p.s⟩) p.s) (underC m s ⟨b.real.p + p.p, b.real.q + p.q, b.real.r + p.r, b.real.s + p.s⟩) (underL m s ⟨b.real.p + p.p, b.real.q + p.q, b.real.r + p.r, b.real.s + p.s⟩) (p.p * p.p + p.q * p.q) := rfl
                generalize underC m s _ = c at *
                generalize underL m s _ = l at *
                have c5 := extrude_px { b with real := ⟨b.real.p + p.p, b.real.q + p.q, b.real.r + p.r, b.real.s + p.s⟩ } c l p.s hLv hl u0 u1 u2
                obtain ⟨x1, x2, x3⟩ := ext_facts (b := { b with real := ⟨b.real.p + p.p, b.real.q + p.q, b.real.r + p.r, b.real.s + p.s⟩ }) (c := c) (l := l) (k := p.s) hLv hl
                generalize extB { b with real := ⟨b.real.p + p.p, b.real.q + p.q, b.real.r + p.r, b.real.s + p.s⟩ } c l p.s = E at *
                have hby : p.p * p.p = (if p.p = 0 then 0 else 1) ∧ p.q * p.q = (if p.q = 0 then 0 else 1) := by
                  constructor
                  · rcases (show p.p = -1 ∨ p.p = 0 ∨ p.p = 1 by omega) with h | h | h <;> simp [h]
                  · rcases (show p.q = -1 ∨ p.q = 0 ∨ p.q = 1 by omega) with h | h | h <;> simp [h]
                have m1 := wrap_i64 (n := p.p * p.p) (by rw [hby.1]; split <;> omega) (by rw [hby.1]; split <;> omega)
                have m2 := wrap_i64 (n := p.q * p.q) (by rw [hby.2]; split <;> omega) (by rw [hby.2]; split <;> omega)
                have m3 := wrap_i64 (n := p.p * p.p + p.q * p.q) (by rw [hby.1, hby.2]; split <;> split <;> omega) (by rw [hby.1, hby.2]; split <;> split <;> omega)
                clear hby
                have c6 := hit_px E c l (p.p * p.p + p.q * p.q) hlr (fun R hR => small_valid (x1 R hR)) x2 (by rw [x3]; exact u3)
                have hHl := hit_lays (b := E) (c := c) (l := l) (k := p.p * p.p + p.q * p.q)
                generalize hitF E c l (p.p * p.p + p.q * p.q) = H at *
                have c7 := sound_ok H (by rw [hHl]; omega)
                rw [hW] at hP
                clear hW hB
                generalize soundB H = sb at *
                refine awp_region_draw cx mixed [(9, .p (.tup [.agg c.row, .int .i64 l]))] fun K hK => ?_
                simp [push_cast, c4, Cell.row]
                repeat (refine And.intro (by clear hK; intros; first | omega | (simp_all; done) | (simp_all <;> omega)) ?_)
                refine hK _ _ (by kernel_rfl) ?_; clear hK K; refine Nav.imp ?_
                refine awp_region cx [] fun K hK => ?_
                simp [push_cast]
                repeat (refine And.intro (by clear hK; intros; first | omega | (simp_all; done) | (simp_all <;> omega)) ?_)
                refine hK _ ?_; clear hK K; refine Nav.imp ?_
                refine awp_region cx [(3, .x ⟨[(0, 7), (1, 8)], [.ptr 0 0 0, .d (.int .i64 p.s)], [(0, ⟨59, 25, [Bench.wav { b with real := ⟨b.real.p + p.p, b.real.q + p.q, b.real.r + p.r, b.real.s + p.s⟩ } c l (.hs 1 0 b.lays.length)]⟩), (1, ⟨48, 1, dr (b.lays.map regRow)⟩)], [(0, 0)], some 1, [(0, ⟨59, 25, [Bench.wav E c l (.hs 1 0 E.lays.length)]⟩), (1, ⟨48, 1, dr (E.lays.map regRow)⟩)], .tup []⟩)] fun K hK => ?_
                simp [push_cast, c5]
                repeat (refine And.intro (by clear hK; intros; first | omega | (simp_all; done) | (simp_all <;> omega)) ?_)
                refine hK _ ?_; clear hK K; refine Nav.imp ?_
                refine awp_region cx [(12, .x ⟨[(0, 7), (1, 38)], [.ptr 0 0 0, .d (.int .i64 (p.p * p.p + p.q * p.q))], [(0, ⟨59, 25, [Bench.wav E c l (.hs 1 0 E.lays.length)]⟩), (1, ⟨48, 1, dr (E.lays.map regRow)⟩)], [(0, 0)], some 1, [(0, ⟨59, 25, [Bench.wav H c l (.hs 1 0 H.lays.length)]⟩), (1, ⟨48, 1, dr (H.lays.map regRow)⟩)], .tup []⟩)] fun K hK => ?_
                simp [push_cast, c6, m1, m2, m3]
                repeat (refine And.intro (by clear hK; intros; first | omega | (simp_all; done) | (simp_all <;> omega)) ?_)
                refine hK _ ?_; clear hK K; refine Nav.imp ?_
                refine awp_freeze 51 (H.lays.map regRow) rfl (by simp [push_cast]) fun K hK => ?_
                simp [push_cast, St.fz, fzT, fzH, fzO, fz, fzL, fzR, fzR_dr, fzR_app, fzR_set, fzL_map]
                refine hK _ ?_; clear hK K; refine Nav.imp ?_
                cases sb with
                | false =>
                  simp at hP
                  rw [hP]
                  refine awp_region cx [(4, .p (.bool false))] fun K hK => ?_
                  simp [push_cast, c7]
                  repeat (refine And.intro (by clear hK; intros; first | omega | (simp_all; done) | (simp_all <;> omega)) ?_)
                  refine hK _ ?_; clear hK K; refine Nav.imp ?_
                  refine awp_cond (b := true) (by simp [push_cast]) (fun hb => ?_) (fun hb => ?_) <;> (refine Nav.imp ?_)
                  · refine awp_region cx [] fun K hK => ?_
                    simp [push_cast]
                    repeat (refine And.intro (by clear hK; intros; first | omega | (simp_all; done) | (simp_all <;> omega)) ?_)
                    refine hK _ ?_; clear hK K; refine Nav.imp ?_
                    simp [push_cast]
                  · simp at hb
                | true =>
                  simp at hP
                  rw [hP]
                  refine awp_region cx [(4, .p (.bool true))] fun K hK => ?_
                  simp [push_cast, c7]
                  repeat (refine And.intro (by clear hK; intros; first | omega | (simp_all; done) | (simp_all <;> omega)) ?_)
                  refine hK _ ?_; clear hK K; refine Nav.imp ?_
                  refine awp_cond (b := false) (by simp [push_cast]) (fun hb => ?_) (fun hb => ?_) <;> (refine Nav.imp ?_)
                  · simp at hb
                  · refine awp_region cx [] fun K hK => ?_
                    simp [push_cast]
                    repeat (refine And.intro (by clear hK; intros; first | omega | (simp_all; done) | (simp_all <;> omega)) ?_)
                    refine hK _ ?_; clear hK K; refine Nav.imp ?_
                    simp [push_cast]
end Go.Proofs.YtlfbjflfbjkbeaaGreat

namespace Go.Proofs.YtlfbjflfbjkbeaaGreat
open Go.Abs

def InsI (l : List Int) (i : Nat) (Z : List Int) (k : Nat) : Prop :=
  ∃ (P : List Int) (c : Int) (Q T : List Int), Z = P ++ c :: (Q ++ T) ∧ P.length = k ∧ P.length + Q.length = i ∧ Z.Perm l ∧ ((P ++ Q).Pairwise fun a b => a ≤ b) ∧ ∀ q ∈ Q, c ≤ q
def UpI (l : List Int) (i : Nat) (Z : List Int) : Prop := Z.Perm l ∧ ((Z.take i).Pairwise fun a b => a ≤ b)

theorem insI_start {l Z : List Int} {i : Nat} (h : UpI l i Z) (hi : i < Z.length) : InsI l i Z i := by
  refine ⟨Z.take i, Z[i], [], Z.drop (i + 1), ?_, by simp; omega, by simp; omega, h.1, by simpa using h.2, by simp⟩
  conv => lhs; rw [← List.take_append_drop i Z, List.drop_eq_getElem_cons hi]
  simp
theorem insI_end {l Z : List Int} {i k : Nat} (h : InsI l i Z k) (hk : k = 0 ∨ ∃ c p, Z[k]? = some c ∧ Z[k - 1]? = some p ∧ ¬ c < p) : UpI l (i + 1) Z := by
  obtain ⟨P, c, Q, T, rfl, hP, hQ, hp, hs, hq⟩ := h
  refine ⟨hp, ?_⟩
  have e : (P ++ c :: (Q ++ T)).take (i + 1) = P ++ c :: Q := by
    rw [show P ++ c :: (Q ++ T) = (P ++ c :: Q) ++ T from by simp, List.take_left' (by simp; omega)]
  rw [e]
  rw [List.pairwise_append] at hs ⊢
  refine ⟨hs.1, List.pairwise_cons.2 ⟨hq, hs.2.1⟩, fun a ha b hb => ?_⟩
  rcases List.mem_cons.1 hb with rfl | hb
  · rcases hk with hk | ⟨c', p, h1, h2, h3⟩
    · rw [hk] at hP
      rw [List.length_eq_zero_iff.1 hP] at ha
      cases ha
    · have hc : c' = b := by
        rw [List.getElem?_append_right (by omega), hP, Nat.sub_self] at h1
        exact (Option.some.inj h1).symm
      subst hc
      rcases List.eq_nil_or_concat P with rfl | ⟨P', p', rfl⟩
      · cases ha
      · rw [List.concat_eq_append] at *
        have hpp : p' = p := by
          rw [List.append_assoc, List.getElem?_append_right (by simp at hP; omega)] at h2
          simp at hP
          rw [show k - 1 - P'.length = 0 from by omega] at h2
          exact Option.some.inj h2
        subst hpp
        have h4 : p' ≤ c' := by omega
        rcases List.mem_append.1 ha with ha | ha
        · exact Int.le_trans ((List.pairwise_append.1 hs.1).2.2 a ha p' (by simp)) h4
        · simp at ha; subst ha; exact h4
  · exact hs.2.2 a ha b hb
theorem insI_next {l Z : List Int} {i k : Nat} {c p : Int} (h : InsI l i Z (k + 1)) (hc : Z[k + 1]? = some c) (hp : Z[k]? = some p) (hb : c < p) : InsI l i ((Z.set (k + 1) p).set k c) k := by
  obtain ⟨P, c', Q, T, rfl, hP, hQ, hperm, hs, hq⟩ := h
  rcases List.eq_nil_or_concat P with rfl | ⟨P', p', rfl⟩
  · simp at hP
  · rw [List.concat_eq_append] at *
    simp at hP
    have hcc : c' = c := by
      rw [List.getElem?_append_right (by simp; omega)] at hc
      simp [hP] at hc
      exact hc
    have hpp : p' = p := by
      rw [List.append_assoc, List.getElem?_append_right (by omega)] at hp
      simp [hP] at hp
      exact hp
    subst hcc hpp
    have e : (((P' ++ [p']) ++ c' :: (Q ++ T)).set (k + 1) p').set k c' = P' ++ c' :: ((p' :: Q) ++ T) := by
      subst hP
      simp
    rw [e]
    refine ⟨P', c', p' :: Q, T, rfl, hP, by simp at hQ ⊢; omega, ?_, ?_, ?_⟩
    · refine List.Perm.trans ?_ hperm
      simp only [List.append_assoc, List.singleton_append, List.cons_append]
      exact List.Perm.append_left _ (List.Perm.swap _ _ _)
    · simpa using hs
    · intro q hqm
      rcases List.mem_cons.1 hqm with rfl | hqm
      · omega
      · exact hq q hqm
theorem upI_start (l : List Int) : UpI l 1 l := by
  refine ⟨List.Perm.refl l, ?_⟩
  cases l with
  | nil => simp
  | cons a l => simp
theorem asc_uniq : ∀ {l l' : List Int}, l.Perm l' → (l.Pairwise fun a b => a ≤ b) → (l'.Pairwise fun a b => a ≤ b) → l = l'
  | [], l', h, _, _ => by have := h.length_eq; simp at this; exact (List.length_eq_zero_iff.1 this.symm).symm
  | a :: l, [], h, _, _ => by have := h.length_eq; simp at this
  | a :: l, b :: l', h, h2, h3 => by
    have hab : a = b := by
      have ha : a ∈ b :: l' := h.subset (by simp)
      have hb : b ∈ a :: l := h.symm.subset (by simp)
      rcases List.mem_cons.1 ha with e | ha
      · exact e
      · rcases List.mem_cons.1 hb with e | hb
        · exact e.symm
        · have := (List.pairwise_cons.1 h2).1 b hb
          have := (List.pairwise_cons.1 h3).1 a ha
          omega
    subst hab
    rw [asc_uniq h.cons_inv (List.pairwise_cons.1 h2).2 (List.pairwise_cons.1 h3).2]
def ascI (l : List Int) : List Int := l.mergeSort (fun x y => decide (x ≤ y))
theorem ascI_perm (l : List Int) : (ascI l).Perm l := List.mergeSort_perm _ _
theorem ascI_le (l : List Int) : (ascI l).Pairwise (· ≤ ·) := by
  have := List.pairwise_mergeSort (le := fun x y : Int => decide (x ≤ y)) (fun a b c h1 h2 => by simp at *; omega) (fun a b => by simp; omega) l
  exact this.imp fun h => by simpa using h
theorem upI_end {l Z : List Int} {i : Nat} (h : UpI l i Z) (hi : Z.length ≤ i) : Z = ascI l := by
  have h2 := h.2
  rw [List.take_of_length_le (by omega)] at h2
  exact asc_uniq (h.1.trans (ascI_perm l).symm) h2 (ascI_le l)

def ends (l : List Run) : List Int := l.flatMap fun r => [r.a, r.b]
theorem ends_len (l : List Run) : (ends l).length = 2 * l.length := by
  induction l with
  | nil => rfl
  | cons r l ih => simp only [ends, List.flatMap_cons, List.length_append] at *; simp only [List.length_cons, List.length_nil]; omega
theorem ends_take {l : List Run} {k : Nat} {r : Run} (h : l[k]? = some r) : ends (l.take (k + 1)) = ends (l.take k) ++ [r.a, r.b] := by
  rw [take_get h]; simp [ends]
def bnds (a b : List Run) : List Int := ascI (ends a ++ ends b)
theorem bnds_len (a b : List Run) : (bnds a b).length = 2 * a.length + 2 * b.length := by
  unfold bnds
  rw [(ascI_perm _).length_eq, List.length_append, ends_len, ends_len]
theorem bnds_mem {a b : List Run} {r : Run} (h : r ∈ a ∨ r ∈ b) : r.a ∈ bnds a b ∧ r.b ∈ bnds a b := by
  unfold bnds
  constructor <;> rw [(ascI_perm _).mem_iff, List.mem_append] <;> rcases h with h | h
  · exact .inl (List.mem_flatMap.2 ⟨r, h, by simp⟩)
  · exact .inr (List.mem_flatMap.2 ⟨r, h, by simp⟩)
  · exact .inl (List.mem_flatMap.2 ⟨r, h, by simp⟩)
  · exact .inr (List.mem_flatMap.2 ⟨r, h, by simp⟩)
def Gap (a b : List Run) (X Y : Int) : Prop := ∀ r, r ∈ a ∨ r ∈ b → (r.a ≤ X ∨ Y ≤ r.a) ∧ (r.b ≤ X ∨ Y ≤ r.b)
theorem gap_of {a b : List Run} {i : Nat} {X Y : Int} (hX : (bnds a b)[i]? = some X) (hY : (bnds a b)[i + 1]? = some Y) : Gap a b X Y ∧ X ≤ Y := by
  have hs := ascI_le (ends a ++ ends b)
  have key : ∀ e ∈ bnds a b, e ≤ X ∨ Y ≤ e := fun e he => by
    obtain ⟨k, hk, rfl⟩ := List.mem_iff_getElem.1 he
    obtain ⟨hi, rfl⟩ := List.getElem?_eq_some_iff.1 hX
    obtain ⟨hj, rfl⟩ := List.getElem?_eq_some_iff.1 hY
    rcases Nat.lt_trichotomy k i with h | h | h
    · exact .inl (List.pairwise_iff_getElem.1 hs k i hk hi h)
    · subst h; exact .inl (Int.le_refl _)
    · rcases Nat.lt_or_eq_of_le (show i + 1 ≤ k from h) with h | h
      · exact .inr (List.pairwise_iff_getElem.1 hs (i + 1) k hj hk h)
      · subst h; exact .inr (Int.le_refl _)
  refine ⟨fun r hr => ⟨key _ (bnds_mem hr).1, key _ (bnds_mem hr).2⟩, ?_⟩
  obtain ⟨hi, rfl⟩ := List.getElem?_eq_some_iff.1 hX
  obtain ⟨hj, rfl⟩ := List.getElem?_eq_some_iff.1 hY
  exact List.pairwise_iff_getElem.1 hs i (i + 1) hi hj (by omega)
theorem gap_in {l : List Run} {X Y z : Int} (h : ∀ r ∈ l, (r.a ≤ X ∨ Y ≤ r.a) ∧ (r.b ≤ X ∨ Y ≤ r.b)) (h1 : X ≤ z) (h2 : z < Y) : inR l z = inR l X := by
  rw [Bool.eq_iff_iff, inR_iff, inR_iff]
  constructor
  · rintro ⟨r, hr, h3, h4⟩
    have := h r hr
    exact ⟨r, hr, by omega, by omega⟩
  · rintro ⟨r, hr, h3, h4⟩
    have := h r hr
    exact ⟨r, hr, by omega, by omega⟩
def CombAt (f : Bool → Bool → Bool) (a b : List Run) (X : Int) (out : List Run) : Prop :=
  Apart out ∧ (∀ r ∈ out, r.b ≤ X) ∧ ∀ z, inR out z = (decide (z < X) && f (inR a z) (inR b z))
theorem inR_none {l : List Run} {z : Int} (h : ∀ r ∈ l, z < r.a ∨ r.b ≤ z) : inR l z = false := by
  rw [Bool.eq_false_iff]; intro h2
  obtain ⟨r, hr, h3, h4⟩ := inR_iff.1 h2
  have := h r hr
  omega
theorem comb_start {f : Bool → Bool → Bool} (hf : f false false = false) {a b : List Run} {X : Int} (hX : (bnds a b)[0]? = some X) : CombAt f a b X [] := by
  have hs := ascI_le (ends a ++ ends b)
  obtain ⟨hi, rfl⟩ := List.getElem?_eq_some_iff.1 hX
  have key : ∀ e ∈ bnds a b, (bnds a b)[0] ≤ e := fun e he => by
    obtain ⟨k, hk, rfl⟩ := List.mem_iff_getElem.1 he
    rcases Nat.eq_zero_or_pos k with h | h
    · subst h; exact Int.le_refl _
    · exact List.pairwise_iff_getElem.1 hs 0 k hi hk h
  refine ⟨⟨by simp, by simp⟩, by simp, fun z => ?_⟩
  by_cases hz : z < (bnds a b)[0]
  · rw [inR_none (l := a) fun r hr => .inl (by have := key _ (bnds_mem (.inl hr)).1; omega), inR_none (l := b) fun r hr => .inl (by have := key _ (bnds_mem (.inr hr)).1; omega), hf]
    simp [inR]
  · simp [inR, hz]
theorem comb_skip {f : Bool → Bool → Bool} {a b : List Run} {X Y : Int} {out : List Run} (h : CombAt f a b X out) (hg : Gap a b X Y) (hXY : X ≤ Y) (hk : X = Y ∨ f (inR a X) (inR b X) = false) : CombAt f a b Y out := by
  obtain ⟨h1, h2, h3⟩ := h
  refine ⟨h1, fun r hr => Int.le_trans (h2 r hr) hXY, fun z => ?_⟩
  rw [h3]
  by_cases hz : z < X
  · rw [decide_eq_true hz, decide_eq_true (show z < Y by omega)]
  · rw [decide_eq_false hz]
    by_cases hy : z < Y
    · rcases hk with hk | hk
      · omega
      · rw [gap_in (fun r hr => hg r (.inl hr)) (by omega) hy, gap_in (fun r hr => hg r (.inr hr)) (by omega) hy, hk]; simp
    · rw [decide_eq_false hy]
theorem comb_val {f : Bool → Bool → Bool} {a b : List Run} {X Y : Int} (hg : Gap a b X Y) (hXY : X ≤ Y) (hk : f (inR a X) (inR b X) = true) (z : Int) :
    (decide (z < Y) && f (inR a z) (inR b z)) = ((decide (z < X) && f (inR a z) (inR b z)) || (decide (X ≤ z) && decide (z < Y))) := by
  by_cases hz : z < X
  · rw [decide_eq_true hz, decide_eq_true (show z < Y by omega), decide_eq_false (show ¬ X ≤ z by omega)]; simp
  · rw [decide_eq_false hz, decide_eq_true (show X ≤ z by omega)]
    by_cases hy : z < Y
    · rw [gap_in (fun r hr => hg r (.inl hr)) (by omega) hy, gap_in (fun r hr => hg r (.inr hr)) (by omega) hy, hk]; simp
    · rw [decide_eq_false hy]; simp
theorem comb_app {f : Bool → Bool → Bool} {a b : List Run} {X Y : Int} {out : List Run} (h : CombAt f a b X out) (hg : Gap a b X Y) (hXY : X < Y) (hk : f (inR a X) (inR b X) = true) (hl : ∀ r, out[out.length - 1]? = some r → r.b ≠ X) : CombAt f a b Y (out ++ [⟨X, Y⟩]) := by
  obtain ⟨h1, h2, h3⟩ := h
  refine ⟨⟨fun r hr => ?_, ?_⟩, fun r hr => ?_, fun z => ?_⟩
  · rcases List.mem_append.1 hr with hr | hr
    · exact h1.1 r hr
    · simp at hr; subst hr; exact hXY
  · rw [List.pairwise_append]
    refine ⟨h1.2, by simp, fun r hr s hs => ?_⟩
    simp at hs; subst hs
    have hle := h2 r hr
    rcases List.eq_nil_or_concat out with rfl | ⟨o, q, rfl⟩
    · cases hr
    · rw [List.concat_eq_append] at *
      have hq := hl q (by simp)
      have hqX := h2 q (by simp)
      rcases List.mem_append.1 hr with hr | hr
      · have hw := (List.pairwise_append.1 h1.2).2.2 r hr q (by simp)
        have hqq := h1.1 q (by simp)
        simp only; omega
      · simp at hr; subst hr; simp only; omega
  · rcases List.mem_append.1 hr with hr | hr
    · exact Int.le_trans (h2 r hr) (by omega)
    · simp at hr; subst hr; exact Int.le_refl _
  · rw [inR_app, h3, comb_val hg (by omega) hk]
theorem comb_join {f : Bool → Bool → Bool} {a b : List Run} {X Y : Int} {o : List Run} {q : Run} (h : CombAt f a b X (o ++ [q])) (hg : Gap a b X Y) (hXY : X < Y) (hk : f (inR a X) (inR b X) = true) (hq : q.b = X) : CombAt f a b Y (o ++ [⟨q.a, Y⟩]) := by
  obtain ⟨h1, h2, h3⟩ := h
  have hqq := h1.1 q (by simp)
  have hp := List.pairwise_append.1 h1.2
  refine ⟨⟨fun r hr => ?_, ?_⟩, fun r hr => ?_, fun z => ?_⟩
  · rcases List.mem_append.1 hr with hr | hr
    · exact h1.1 r (by simp [hr])
    · simp at hr; subst hr; simp only; omega
  · rw [List.pairwise_append]
    refine ⟨hp.1, by simp, fun r hr s hs => ?_⟩
    simp at hs; subst hs
    exact hp.2.2 r hr q (by simp)
  · rcases List.mem_append.1 hr with hr | hr
    · have := h2 r (by simp [hr]); omega
    · simp at hr; subst hr; exact Int.le_refl _
  · rw [comb_val hg (by omega) hk, ← h3, inR_app, inR_app, Bool.or_assoc]
    congr 1
    rw [Bool.eq_iff_iff]
    simp
    omega
theorem comb_end {f : Bool → Bool → Bool} (hf : f false false = false) {a b : List Run} (ha : rvalid a = true) (hb : rvalid b = true) {n : Nat} {X : Int} {out : List Run} (hn : (bnds a b).length = n + 1) (hX : (bnds a b)[n]? = some X) (h : CombAt f a b X out) : out = sweep f a b := by
  obtain ⟨h1, h2, h3⟩ := h
  obtain ⟨s1, s2⟩ := sweep_facts hf ha hb
  refine apart_uniq h1 s1 fun z => ?_
  rw [h3, s2]
  have hs := ascI_le (ends a ++ ends b)
  obtain ⟨hi, rfl⟩ := List.getElem?_eq_some_iff.1 hX
  have key : ∀ e ∈ bnds a b, e ≤ (bnds a b)[n] := fun e he => by
    obtain ⟨k, hk, rfl⟩ := List.mem_iff_getElem.1 he
    rcases Nat.lt_or_eq_of_le (show k ≤ n by omega) with h | h
    · exact List.pairwise_iff_getElem.1 hs k n hk hi h
    · subst h; exact Int.le_refl _
  by_cases hz : z < (bnds a b)[n]
  · rw [decide_eq_true hz]; simp
  · rw [decide_eq_false hz, inR_none (l := a) fun r hr => .inr (by have := key _ (bnds_mem (.inl hr)).2; omega), inR_none (l := b) fun r hr => .inr (by have := key _ (bnds_mem (.inr hr)).2; omega), hf]; rfl
theorem sweep_nil {f : Bool → Bool → Bool} (hf : f false false = false) {a b : List Run} (ha : rvalid a = true) (hb : rvalid b = true) (hn : (bnds a b).length = 0) : sweep f a b = [] := by
  rw [bnds_len] at hn
  have h1 : a = [] := List.eq_nil_of_length_eq_zero (by omega)
  have h2 : b = [] := List.eq_nil_of_length_eq_zero (by omega)
  subst h1 h2
  obtain ⟨s1, s2⟩ := sweep_facts hf ha hb
  exact apart_uniq s1 ⟨by simp, by simp⟩ fun z => by rw [s2]; simp [inR, hf]

def stepI (R : List Row) (i : Nat) (y : Int) : Nat := match R[i]? with
  | some v => if v.y = y then i + 1 else i
  | none => i
def runsAt (R : List Row) (i : Nat) (y : Int) : List Run := match R[i]? with
  | some v => if v.y = y then v.runs else []
  | none => []
def nextY (a b : List Row) (i k : Nat) : Int := match a[i]?, b[k]? with
  | some v, some w => if v.y ≤ w.y then v.y else w.y
  | some v, none => v.y
  | none, some w => w.y
  | none, none => 0
theorem side {R : List Row} (hR : validR R = true) {i : Nat} {y : Int} {ys : List Int} (h1 : ∀ w ∈ R.take i, w.y ∈ ys) (h0 : ∀ z ∈ ys, z < y) (h2 : ∀ w ∈ R.drop i, y ≤ w.y) :
    rowOf R y = runsAt R i y ∧ (∀ w ∈ R.take (stepI R i y), w.y ∈ ys ++ [y]) ∧ (∀ z ∈ ys ++ [y], ∀ w ∈ R.drop (stepI R i y), z < w.y) := by
  unfold stepI runsAt
  have hno : ∀ w ∈ R.take i, w.y ≠ y := fun w hw e => by have := h0 _ (h1 w hw); omega
  cases h : R[i]? with
  | none =>
    have hl : R.length ≤ i := List.getElem?_eq_none_iff.1 h
    rw [List.take_of_length_le hl] at hno h1
    simp only
    refine ⟨?_, fun w hw => ?_, fun z hz w hw => ?_⟩
    · rcases rowOf_cases hR y with ⟨w, hw, e, _⟩ | ⟨_, e⟩
      · exact absurd e (hno w hw)
      · exact e
    · exact List.mem_append_left _ (h1 w (List.mem_of_mem_take hw))
    · rw [List.drop_eq_nil_of_le hl] at hw; cases hw
  | some v =>
    obtain ⟨hi, hv⟩ := List.getElem?_eq_some_iff.1 h
    have hd : R.drop i = v :: R.drop (i + 1) := by rw [List.drop_eq_getElem_cons hi, hv]
    have hvR : v ∈ R := List.mem_of_getElem? h
    have hp := rows_pw hR
    rw [← List.take_append_drop i R, hd] at hp
    have hgt := (List.pairwise_cons.1 (List.pairwise_append.1 hp).2.1).1
    have hvy := h2 v (by rw [hd]; simp)
    simp only
    by_cases e : v.y = y
    · rw [if_pos e, if_pos e]
      refine ⟨by rw [← e]; exact rowOf_mem hR hvR, fun w hw => ?_, fun z hz w hw => ?_⟩
      · rw [take_get h] at hw
        rcases List.mem_append.1 hw with hw | hw
        · exact List.mem_append_left _ (h1 w hw)
        · simp at hw; subst hw; simp [e]
      · have := hgt w hw
        rcases List.mem_append.1 hz with hz | hz
        · have := h0 z hz; omega
        · simp at hz; subst hz; omega
    · rw [if_neg e, if_neg e]
      refine ⟨?_, fun w hw => List.mem_append_left _ (h1 w hw), fun z hz w hw => ?_⟩
      · rcases rowOf_cases hR y with ⟨w, hw, e', _⟩ | ⟨_, e'⟩
        · rw [← List.take_append_drop i R, hd] at hw
          rcases List.mem_append.1 hw with hw | hw
          · exact absurd e' (hno w hw)
          · rcases List.mem_cons.1 hw with rfl | hw
            · exact absurd e' e
            · have := hgt w hw; omega
        · exact e'
      · have hw' : y < w.y := by
          rw [hd] at hw
          rcases List.mem_cons.1 hw with rfl | hw
          · omega
          · have := hgt w hw; omega
        rcases List.mem_append.1 hz with hz | hz
        · have := h0 z hz; omega
        · simp at hz; subst hz; exact hw'
def OpAt (f : Bool → Bool → Bool) (a b : List Row) (i k : Nat) (out : List Row) : Prop :=
  i ≤ a.length ∧ k ≤ b.length ∧ ∃ ys : List Int, ys.Pairwise (· < ·) ∧ out = opOn f a b ys ∧ ys.length ≤ i + k ∧ (∀ w ∈ a.take i, w.y ∈ ys) ∧ (∀ w ∈ b.take k, w.y ∈ ys) ∧ (∀ z ∈ ys, ∀ w ∈ a.drop i, z < w.y) ∧ (∀ z ∈ ys, ∀ w ∈ b.drop k, z < w.y)
theorem opAt_start (f : Bool → Bool → Bool) (a b : List Row) : OpAt f a b 0 0 [] :=
  ⟨Nat.zero_le _, Nat.zero_le _, [], by simp, by simp [opOn], by simp, by simp, by simp, by simp, by simp⟩
theorem drop_min {R : List Row} (hR : validR R = true) {i : Nat} {v : Row} (h : R[i]? = some v) : (∀ w ∈ R.drop i, v.y ≤ w.y) ∧ v ∈ R.drop i := by
  obtain ⟨hi, hv⟩ := List.getElem?_eq_some_iff.1 h
  have hd : R.drop i = v :: R.drop (i + 1) := by rw [List.drop_eq_getElem_cons hi, hv]
  have hp := rows_pw hR
  rw [← List.take_append_drop i R, hd] at hp
  have hgt := (List.pairwise_cons.1 (List.pairwise_append.1 hp).2.1).1
  rw [hd]
  refine ⟨fun w hw => ?_, by simp⟩
  rcases List.mem_cons.1 hw with rfl | hw
  · exact Int.le_refl _
  · have := hgt w hw; omega
theorem stepI_le {R : List Row} {i : Nat} {y : Int} (h : i ≤ R.length) : stepI R i y ≤ R.length ∧ i ≤ stepI R i y ∧ stepI R i y ≤ i + 1 := by
  unfold stepI
  cases e : R[i]? with
  | none => exact ⟨h, Nat.le_refl _, Nat.le_succ _⟩
  | some v =>
    have := (List.getElem?_eq_some_iff.1 e).1
    simp only
    split <;> omega
theorem drop_none {R : List Row} {i : Nat} (h : R[i]? = none) : R.drop i = [] := List.drop_eq_nil_of_le (List.getElem?_eq_none_iff.1 h)
theorem opAt_step {f : Bool → Bool → Bool} {a b : List Row} (ha : validR a = true) (hb : validR b = true) {i k : Nat} {out : List Row} (h : OpAt f a b i k out) (hn : i < a.length ∨ k < b.length) :
    rowOf a (nextY a b i k) = runsAt a i (nextY a b i k) ∧ rowOf b (nextY a b i k) = runsAt b k (nextY a b i k) ∧ OpAt f a b (stepI a i (nextY a b i k)) (stepI b k (nextY a b i k)) (out ++ opRow f a b (nextY a b i k)) ∧ i + k < stepI a i (nextY a b i k) + stepI b k (nextY a b i k) := by
  obtain ⟨hi, hk, ys, p1, p2, p3, p4, p5, p6, p7⟩ := h
  have key : ∃ y, nextY a b i k = y ∧ (∀ w ∈ a.drop i, y ≤ w.y) ∧ (∀ w ∈ b.drop k, y ≤ w.y) ∧ (∀ z ∈ ys, z < y) ∧ i + k < stepI a i y + stepI b k y := by
    have m1 := @stepI_le a i
    have m2 := @stepI_le b k
    unfold nextY
    cases e1 : a[i]? with
    | none =>
      cases e2 : b[k]? with
      | none =>
        have := List.getElem?_eq_none_iff.1 e1
        have := List.getElem?_eq_none_iff.1 e2
        omega
      | some w =>
        obtain ⟨q1, q2⟩ := drop_min hb e2
        refine ⟨w.y, rfl, by rw [drop_none e1]; simp, q1, fun z hz => p7 z hz w q2, ?_⟩
        have : stepI b k w.y = k + 1 := by simp [stepI, e2]
        have := (m1 (y := w.y) hi).2.1; omega
    | some v =>
      obtain ⟨r1, r2⟩ := drop_min ha e1
      cases e2 : b[k]? with
      | none =>
        refine ⟨v.y, rfl, r1, by rw [drop_none e2]; simp, fun z hz => p6 z hz v r2, ?_⟩
        have : stepI a i v.y = i + 1 := by simp [stepI, e1]
        have := (m2 (y := v.y) hk).2.1; omega
      | some w =>
        obtain ⟨q1, q2⟩ := drop_min hb e2
        by_cases hvw : v.y ≤ w.y
        · refine ⟨v.y, by simp [hvw], r1, fun u hu => Int.le_trans hvw (q1 u hu), fun z hz => p6 z hz v r2, ?_⟩
          have : stepI a i v.y = i + 1 := by simp [stepI, e1]
          have := (m2 (y := v.y) hk).2.1; omega
        · refine ⟨w.y, by simp [hvw], fun u hu => Int.le_trans (by omega) (r1 u hu), q1, fun z hz => p7 z hz w q2, ?_⟩
          have : stepI b k w.y = k + 1 := by simp [stepI, e2]
          have := (m1 (y := w.y) hi).2.1; omega
  obtain ⟨y, e, h1, h2, h0, hprog⟩ := key
  rw [e]
  obtain ⟨s1, s2, s3⟩ := side ha p4 h0 h1
  obtain ⟨t1, t2, t3⟩ := side hb p5 h0 h2
  refine ⟨s1, t1, ⟨(stepI_le hi).1, (stepI_le hk).1, ys ++ [y], ?_, ?_, ?_, s2, t2, s3, t3⟩, hprog⟩
  · rw [List.pairwise_append]
    refine ⟨p1, by simp, fun z hz u hu => ?_⟩
    simp at hu; subst hu; exact h0 z hz
  · rw [p2]; simp [opOn]
  · simp; omega
theorem opAt_len {f : Bool → Bool → Bool} {a b : List Row} {i k : Nat} {out : List Row} (h : OpAt f a b i k out) : out.length ≤ a.length + b.length := by
  obtain ⟨hi, hk, ys, p1, p2, p3, p4, p5, p6, p7⟩ := h
  have : ∀ l : List Int, (opOn f a b l).length ≤ l.length := fun l => by
    induction l with
    | nil => simp [opOn]
    | cons y l ih =>
      simp only [opOn, List.flatMap_cons, List.length_append, List.length_cons] at *
      have : (opRow f a b y).length ≤ 1 := by unfold opRow; split <;> simp
      omega
  have := this ys
  rw [← p2] at this; omega
theorem opAt_end {f : Bool → Bool → Bool} (hf : f false false = false) {a b : List Row} (ha : validR a = true) (hb : validR b = true) {out : List Row} (h : OpAt f a b a.length b.length out) : out = opR f a b := by
  obtain ⟨hi, hk, ys, p1, p2, p3, p4, p5, p6, p7⟩ := h
  rw [List.take_length] at p4 p5
  rw [p2]
  exact opR_on hf ha hb p1 fun w hw => hw.elim (p4 w) (p5 w)
end Go.Proofs.YtlfbjflfbjkbeaaGreat

namespace Go.Proofs.YtlfbjflfbjkbeaaGreat
open Go.Abs

theorem keptU (x y : Bool) : PC Tryz.prog 115 [.int .i64 0, .bool x, .bool y] (.p (.bool (fU x y))) := by
  cases x <;> cases y
  · refine pc_of_awp cx (fn := Tryz.f115) (c := _) Tryz.func115 rfl rfl (Nat.le_of_ble_eq_true rfl) ?_
    rw [Tryz.ntmps115]; refine Nav.imp ?_
    refine awp_region cx [] fun K hK => ?_
    simp [push_cast]
    repeat (refine And.intro (by clear hK; intros; first | omega | (simp_all; done) | (simp_all <;> omega)) ?_)
    refine hK _ ?_; clear hK K; refine Nav.imp ?_
    refine awp_region cx [] fun K hK => ?_
    simp [push_cast]
    repeat (refine And.intro (by clear hK; intros; first | omega | (simp_all; done) | (simp_all <;> omega)) ?_)
    refine hK _ ?_; clear hK K; refine Nav.imp ?_
    refine awp_region cx [] fun K hK => ?_
    simp [push_cast]
    repeat (refine And.intro (by clear hK; intros; first | omega | (simp_all; done) | (simp_all <;> omega)) ?_)
    refine hK _ ?_; clear hK K; refine Nav.imp ?_
    refine awp_cond (b := true) (by simp [push_cast]) (fun hb => ?_) (fun hb => ?_) <;> (refine Nav.imp ?_)
    · refine awp_region cx [] fun K hK => ?_
      simp [push_cast]
      repeat (refine And.intro (by clear hK; intros; first | omega | (simp_all; done) | (simp_all <;> omega)) ?_)
      refine hK _ ?_; clear hK K; refine Nav.imp ?_
      simp [push_cast, fU]
    · simp at hb
  · refine pc_of_awp cx (fn := Tryz.f115) (c := _) Tryz.func115 rfl rfl (Nat.le_of_ble_eq_true rfl) ?_
    rw [Tryz.ntmps115]; refine Nav.imp ?_
    refine awp_region cx [] fun K hK => ?_
    simp [push_cast]
    repeat (refine And.intro (by clear hK; intros; first | omega | (simp_all; done) | (simp_all <;> omega)) ?_)
    refine hK _ ?_; clear hK K; refine Nav.imp ?_
    refine awp_region cx [] fun K hK => ?_
    simp [push_cast]
    repeat (refine And.intro (by clear hK; intros; first | omega | (simp_all; done) | (simp_all <;> omega)) ?_)
    refine hK _ ?_; clear hK K; refine Nav.imp ?_
    refine awp_region cx [] fun K hK => ?_
    simp [push_cast]
    repeat (refine And.intro (by clear hK; intros; first | omega | (simp_all; done) | (simp_all <;> omega)) ?_)
    refine hK _ ?_; clear hK K; refine Nav.imp ?_
    refine awp_cond (b := true) (by simp [push_cast]) (fun hb => ?_) (fun hb => ?_) <;> (refine Nav.imp ?_)
    · refine awp_region cx [] fun K hK => ?_
      simp [push_cast]
      repeat (refine And.intro (by clear hK; intros; first | omega | (simp_all; done) | (simp_all <;> omega)) ?_)
      refine hK _ ?_; clear hK K; refine Nav.imp ?_
      simp [push_cast, fU]
    · simp at hb
  · refine pc_of_awp cx (fn := Tryz.f115) (c := _) Tryz.func115 rfl rfl (Nat.le_of_ble_eq_true rfl) ?_
    rw [Tryz.ntmps115]; refine Nav.imp ?_
    refine awp_region cx [] fun K hK => ?_
    simp [push_cast]
    repeat (refine And.intro (by clear hK; intros; first | omega | (simp_all; done) | (simp_all <;> omega)) ?_)
    refine hK _ ?_; clear hK K; refine Nav.imp ?_
    refine awp_region cx [] fun K hK => ?_
    simp [push_cast]
    repeat (refine And.intro (by clear hK; intros; first | omega | (simp_all; done) | (simp_all <;> omega)) ?_)
    refine hK _ ?_; clear hK K; refine Nav.imp ?_
    refine awp_region cx [] fun K hK => ?_
    simp [push_cast]
    repeat (refine And.intro (by clear hK; intros; first | omega | (simp_all; done) | (simp_all <;> omega)) ?_)
    refine hK _ ?_; clear hK K; refine Nav.imp ?_
    refine awp_cond (b := true) (by simp [push_cast]) (fun hb => ?_) (fun hb => ?_) <;> (refine Nav.imp ?_)
    · refine awp_region cx [] fun K hK => ?_
      simp [push_cast]
      repeat (refine And.intro (by clear hK; intros; first | omega | (simp_all; done) | (simp_all <;> omega)) ?_)
      refine hK _ ?_; clear hK K; refine Nav.imp ?_
      simp [push_cast, fU]
    · simp at hb
  · refine pc_of_awp cx (fn := Tryz.f115) (c := _) Tryz.func115 rfl rfl (Nat.le_of_ble_eq_true rfl) ?_
    rw [Tryz.ntmps115]; refine Nav.imp ?_
    refine awp_region cx [] fun K hK => ?_
    simp [push_cast]
    repeat (refine And.intro (by clear hK; intros; first | omega | (simp_all; done) | (simp_all <;> omega)) ?_)
    refine hK _ ?_; clear hK K; refine Nav.imp ?_
    refine awp_region cx [] fun K hK => ?_
    simp [push_cast]
    repeat (refine And.intro (by clear hK; intros; first | omega | (simp_all; done) | (simp_all <;> omega)) ?_)
    refine hK _ ?_; clear hK K; refine Nav.imp ?_
    refine awp_region cx [] fun K hK => ?_
    simp [push_cast]
    repeat (refine And.intro (by clear hK; intros; first | omega | (simp_all; done) | (simp_all <;> omega)) ?_)
    refine hK _ ?_; clear hK K; refine Nav.imp ?_
    refine awp_cond (b := true) (by simp [push_cast]) (fun hb => ?_) (fun hb => ?_) <;> (refine Nav.imp ?_)
    · refine awp_region cx [] fun K hK => ?_
      simp [push_cast]
      repeat (refine And.intro (by clear hK; intros; first | omega | (simp_all; done) | (simp_all <;> omega)) ?_)
      refine hK _ ?_; clear hK K; refine Nav.imp ?_
      simp [push_cast, fU]
    · simp at hb
set_option maxHeartbeats 4000000 in
theorem bounds_ok (a b : List Run) (ha : a.length ≤ 1000000) (hb0 : b.length ≤ 1000000) : PC Tryz.prog 114 [encRuns a, encRuns b] (.p (.sl ((bnds a b).map iRow))) := by
  refine pc_of_awp cx (fn := Tryz.f114) (c := _) Tryz.func114 rfl rfl (Nat.le_of_ble_eq_true rfl) ?_
  rw [Tryz.ntmps114]; refine Nav.imp ?_
  refine awp_region cx [] fun K hK => ?_
  simp [push_cast]
  repeat (refine And.intro (by clear hK; intros; first | omega | (simp_all; done) | (simp_all <;> omega)) ?_)
  refine hK _ ?_; clear hK K; refine Nav.imp ?_
  refine awp_region cx [] fun K hK => ?_
  simp [push_cast]
  repeat (refine And.intro (by clear hK; intros; first | omega | (simp_all; done) | (simp_all <;> omega)) ?_)
  refine hK _ ?_; clear hK K; refine Nav.imp ?_
  refine awp_region cx [] fun K hK => ?_
  simp [push_cast]
  repeat (refine And.intro (by clear hK; intros; first | omega | (simp_all; done) | (simp_all <;> omega)) ?_)
  refine hK _ ?_; clear hK K; refine Nav.imp ?_
  refine awp_loop (β := Nat × List Int) (fun s => ⟨90, [(0, .d (encRuns a)), (1, .d (encRuns b)), (5, .hs 0 0 s.2.length), (6, .d (.int .i64 s.1))], [(0, some ⟨3, 1, dr (s.2.map iRow)⟩)], 1⟩) (fun s => s.1 ≤ a.length ∧ s.2 = ends (a.take s.1)) (fun s => a.length - s.1) (0, []) ?_ ⟨Nat.zero_le _, by simp [ends]⟩ ?_
  · refine weak_of [(0, none)] rfl (by simp [upT, up, upL, push_cast]) (by simp [upH, upR, upL, up, push_cast]) (by simp [namesOk, push_cast]) (by simp [olds])
  · rintro ⟨k, Z⟩ ⟨hk, hZ⟩
    simp only at hk hZ
    refine Nav.imp ?_
    refine awp_region cx [] fun K hK => ?_
    simp [push_cast]
    repeat (refine And.intro (by clear hK; intros; first | omega | (simp_all; done) | (simp_all <;> omega)) ?_)
    refine hK _ ?_; clear hK K; refine Nav.imp ?_
    refine awp_cond (b := decide ((k : Int) < a.length)) (by simp [push_cast]) (fun hb => ?_) (fun hb => ?_) <;> (refine Nav.imp ?_)
    · have hlt : k < a.length := by simpa using hb
      obtain ⟨r, hr⟩ := getq hlt
      have e0 := wrap_i64 (n := (k : Int) + 1) (by omega) (by omega)
      have hZl : Z.length = 2 * k := by rw [hZ, ends_len, List.length_take]; omega
      have hZ8 : (Z.length + 2) * 8 ≤ 140737488355328 := by omega
      have hnx : ends (a.take (k + 1)) = Z ++ [r.a, r.b] := by rw [ends_take hr, hZ]
      obtain ⟨ra, rb⟩ := r
      simp only at hnx
      refine awp_region_draw cx mixed [] fun K hK => ?_
      simp [push_cast, hr, hZ8, Run.row]
      repeat (refine And.intro (by clear hK; intros; first | omega | (simp_all; done) | (simp_all <;> omega)) ?_)
      refine hK _ _ (by kernel_rfl) ?_; clear hK K; refine Nav.imp ?_
      refine awp_region cx [] fun K hK => ?_
      simp [push_cast, e0]
      repeat (refine And.intro (by clear hK; intros; first | omega | (simp_all; done) | (simp_all <;> omega)) ?_)
      refine hK _ ?_; clear hK K; refine Nav.imp ?_
      refine ⟨(k + 1, Z ++ [ra, rb]), ⟨hlt, hnx.symm⟩, by simp only; omega, ?_⟩
      refine weak_of [(0, some 17)] rfl (by simp [upT, up, upL, push_cast]) (by simp [upH, upR, upL, up, push_cast]) (by simp [namesOk, push_cast]) (by simp [olds])
    · have hge : k = a.length := by simp at hb; omega
      subst hge
      rw [List.take_length] at hZ
      have hAl : Z.length = 2 * a.length := by rw [hZ, ends_len]
      refine awp_region cx [] fun K hK => ?_
      simp [push_cast]
      repeat (refine And.intro (by clear hK; intros; first | omega | (simp_all; done) | (simp_all <;> omega)) ?_)
      refine hK _ ?_; clear hK K; refine Nav.imp ?_
      refine awp_loop (β := Nat × List Int) (fun s => ⟨90, [(1, .d (encRuns b)), (5, .hs 0 0 s.2.length), (7, .d (.int .i64 s.1))], [(0, some ⟨3, 1, dr (s.2.map iRow)⟩)], 1⟩) (fun s => s.1 ≤ b.length ∧ s.2 = ends a ++ ends (b.take s.1)) (fun s => b.length - s.1) (0, Z) ?_ ⟨Nat.zero_le _, by simp [ends] at hZ ⊢; exact hZ⟩ ?_
      · refine weak_of [(0, some 0)] rfl (by simp [upT, up, upL, push_cast]) (by simp [upH, upR, upL, up, push_cast]) (by simp [namesOk, push_cast]) (by simp [olds])
      · rintro ⟨k, Y⟩ ⟨hk, hY⟩
        simp only at hk hY
        refine Nav.imp ?_
        refine awp_region cx [] fun K hK => ?_
        simp [push_cast]
        repeat (refine And.intro (by clear hK; intros; first | omega | (simp_all; done) | (simp_all <;> omega)) ?_)
        refine hK _ ?_; clear hK K; refine Nav.imp ?_
        refine awp_cond (b := decide ((k : Int) < b.length)) (by simp [push_cast]) (fun hb => ?_) (fun hb => ?_) <;> (refine Nav.imp ?_)
        · have hlt : k < b.length := by simpa using hb
          obtain ⟨r, hr⟩ := getq hlt
          have e0 := wrap_i64 (n := (k : Int) + 1) (by omega) (by omega)
          have hYl : Y.length = 2 * a.length + 2 * k := by rw [hY, List.length_append, ends_len, ends_len, List.length_take]; omega
          have hY8 : (Y.length + 2) * 8 ≤ 140737488355328 := by omega
          have hnx : ends a ++ ends (b.take (k + 1)) = Y ++ [r.a, r.b] := by rw [ends_take hr, hY]; simp
          obtain ⟨ra, rb⟩ := r
          simp only at hnx
          refine awp_region_draw cx mixed [] fun K hK => ?_
          simp [push_cast, hr, hY8, Run.row]
          repeat (refine And.intro (by clear hK; intros; first | omega | (simp_all; done) | (simp_all <;> omega)) ?_)
          refine hK _ _ (by kernel_rfl) ?_; clear hK K; refine Nav.imp ?_
          refine awp_region cx [] fun K hK => ?_
          simp [push_cast, e0]
          repeat (refine And.intro (by clear hK; intros; first | omega | (simp_all; done) | (simp_all <;> omega)) ?_)
          refine hK _ ?_; clear hK K; refine Nav.imp ?_
          refine ⟨(k + 1, Y ++ [ra, rb]), ⟨hlt, hnx.symm⟩, by simp only; omega, ?_⟩
          refine weak_of [(0, some 17)] rfl (by simp [upT, up, upL, push_cast]) (by simp [upH, upR, upL, up, push_cast]) (by simp [namesOk, push_cast]) (by simp [olds])
        · have hge : k = b.length := by simp at hb; omega
          subst hge
          rw [List.take_length] at hY
          have hB : bnds a b = ascI Y := by rw [hY]; rfl
          have hYl : Y.length ≤ 4000000 := by rw [hY, List.length_append, ends_len, ends_len]; omega
          rw [hB]
          clear hB hY hZ
          refine awp_region cx [] fun K hK => ?_
          simp [push_cast]
          repeat (refine And.intro (by clear hK; intros; first | omega | (simp_all; done) | (simp_all <;> omega)) ?_)
          refine hK _ ?_; clear hK K; refine Nav.imp ?_
          refine awp_loop (β := Nat × List Int) (fun b => ⟨90, [(5, .hs 0 0 b.2.length), (8, .d (.int .i64 b.1))], [(0, some ⟨3, 1, dr (b.2.map iRow)⟩)], 1⟩) (fun b => UpI Y b.1 b.2 ∧ 0 < b.1 ∧ b.1 ≤ 4000001) (fun b => Y.length - b.1) (1, Y) ?_ ⟨upI_start Y, by omega, by omega⟩ ?_
          · refine weak_of [(0, some 0)] rfl (by simp [upT, up, upL, push_cast]) (by simp [upH, upR, upL, up, push_cast]) (by simp [namesOk, push_cast]) (by simp [olds])
          · rintro ⟨i, Z⟩ ⟨hZ, hi, hib⟩
            simp only at hZ hi hib
            have hZl : Z.length = Y.length := hZ.1.length_eq
            refine Nav.imp ?_
            refine awp_region cx [] fun K hK => ?_
            simp [push_cast]
            repeat (refine And.intro (by clear hK; intros; first | omega | (simp_all; done) | (simp_all <;> omega)) ?_)
            refine hK _ ?_; clear hK K; refine Nav.imp ?_
            refine awp_cond (b := decide ((i : Int) < Z.length)) (by simp [push_cast]) (fun hb => ?_) (fun hb => ?_) <;> (refine Nav.imp ?_)
            · have hlt : i < Z.length := by simpa using hb
              have e0 := wrap_i64 (n := (i : Int) + 1) (by omega) (by omega)
              refine awp_region cx [] fun K hK => ?_
              simp [push_cast]
              repeat (refine And.intro (by clear hK; intros; first | omega | (simp_all; done) | (simp_all <;> omega)) ?_)
              refine hK _ ?_; clear hK K; refine Nav.imp ?_
              refine awp_loop (β := Nat × List Int) (fun b => ⟨90, [(5, .hs 0 0 b.2.length), (8, .d (.int .i64 i)), (9, .d (.int .i64 b.1))], [(0, some ⟨3, 1, dr (b.2.map iRow)⟩)], 1⟩) (fun b => InsI Y i b.2 b.1) (fun b => b.1) (i, Z) ?_ (insI_start hZ hlt) ?_
              · refine weak_of [(0, some 0)] rfl (by simp [upT, up, upL, push_cast]) (by simp [upH, upR, upL, up, push_cast]) (by simp [namesOk, push_cast]) (by simp [olds])
              · rintro ⟨k, W⟩ hW
                simp only at hW
                have hWl : W.length = Y.length := by obtain ⟨P, c, Q, T, _, _, _, h, _⟩ := hW; exact h.length_eq
                have hki : k ≤ i := by obtain ⟨P, c, Q, T, _, h1, h2, _⟩ := hW; omega
                refine Nav.imp ?_
                obtain ⟨c, hc⟩ : ∃ c, W[k]? = some c := getq (by omega)
                cases k with
                | zero =>
                  refine awp_region_draw cx mixed [] fun K hK => ?_
                  simp [push_cast, hc]
                  repeat (refine And.intro (by clear hK; intros; first | omega | (simp_all; done) | (simp_all <;> omega)) ?_)
                  refine hK _ _ (by kernel_rfl) ?_; clear hK K; refine Nav.imp ?_
                  refine awp_cond (b := false) (by simp [push_cast]) (fun hb => ?_) (fun hb => ?_) <;> (refine Nav.imp ?_)
                  · simp at hb
                  · refine awp_region cx [] fun K hK => ?_
                    simp [push_cast, e0]
                    repeat (refine And.intro (by clear hK; intros; first | omega | (simp_all; done) | (simp_all <;> omega)) ?_)
                    refine hK _ ?_; clear hK K; refine Nav.imp ?_
                    refine ⟨(i + 1, W), ⟨insI_end hW (.inl rfl), by simp only; omega, by simp only; omega⟩, by simp only; omega, ?_⟩
                    refine weak_of [(0, some 0)] rfl (by simp [upT, up, upL, push_cast]) (by simp [upH, upR, upL, up, push_cast]) (by simp [namesOk, push_cast]) (by simp [olds])
                | succ k =>
                  obtain ⟨p, hp⟩ : ∃ c, W[k]? = some c := getq (by omega)
                  have e1 := wrap_i64 (n := ((k + 1 : Nat) : Int) - 1) (by omega) (by omega)
                  have e2 : (((k + 1 : Nat) : Int) - 1) = k := by omega
                  rw [e2] at e1
                  have e3 : (((k + 1 : Nat) : Int) - 1).toNat = k := by omega
                  have e4 : (0 : Int) < (k : Int) + 1 := by omega
                  refine awp_region_draw cx mixed [] fun K hK => ?_
                  simp [push_cast, hc, hp, e1, e2, e3, e4]
                  repeat (refine And.intro (by clear hK; intros; first | omega | (simp_all; done) | (simp_all <;> omega)) ?_)
                  refine hK _ _ (by kernel_rfl) ?_; clear hK K; refine Nav.imp ?_
                  refine awp_cond (b := decide (c < p)) (by simp [push_cast, e4]) (fun hb => ?_) (fun hb => ?_) <;> (refine Nav.imp ?_)
                  · have hcp : c < p := by simpa using hb
                    have hnx := insI_next hW hc hp hcp
                    obtain ⟨Y1, hY1⟩ : ∃ Y1, Y1 = W.set (k + 1) p := ⟨_, rfl⟩
                    have hr1 : (dr (W.map iRow)).set (k + 1) [.d (.int .i64 p)] = dr (Y1.map iRow) := by rw [hY1]; simp [dr, List.map_set]
                    have hk1 : Y1[k]? = some p := by rw [hY1, List.getElem?_set_ne (by omega)]; exact hp
                    rw [← hY1] at hnx
                    have hl1 : Y1.length = W.length := by rw [hY1]; simp
                    obtain ⟨Y2, hY2⟩ : ∃ Y2, Y2 = Y1.set k c := ⟨_, rfl⟩
                    have hr2 : (dr (Y1.map iRow)).set k [.d (.int .i64 c)] = dr (Y2.map iRow) := by rw [hY2]; simp [dr, List.map_set]
                    rw [← hY2] at hnx
                    have hl2 : Y2.length = W.length := by rw [hY2]; simp [hl1]
                    clear hY1 hY2
                    refine awp_region cx [] fun K hK => ?_
                    simp [push_cast, hc]
                    repeat (refine And.intro (by clear hK; intros; first | omega | (simp_all; done) | (simp_all <;> omega)) ?_)
                    refine hK _ ?_; clear hK K; refine Nav.imp ?_
                    refine awp_region cx [] fun K hK => ?_
                    simp [push_cast, hp, hc, e1, e2, e3, hr1]
                    repeat (refine And.intro (by clear hK; intros; first | omega | (simp_all; done) | (simp_all <;> omega)) ?_)
                    refine hK _ ?_; clear hK K; refine Nav.imp ?_
                    rw [← hl1]
                    refine awp_region cx [] fun K hK => ?_
                    simp [push_cast, e1, e2, hk1, hr2]
                    repeat (refine And.intro (by clear hK; intros; first | omega | (simp_all; done) | (simp_all <;> omega)) ?_)
                    refine hK _ ?_; clear hK K; refine Nav.imp ?_
                    rw [hl1, ← hl2]
                    refine awp_region cx [] fun K hK => ?_
                    simp [push_cast, e1, e2]
                    repeat (refine And.intro (by clear hK; intros; first | omega | (simp_all; done) | (simp_all <;> omega)) ?_)
                    refine hK _ ?_; clear hK K; refine Nav.imp ?_
                    refine ⟨(k, Y2), hnx, by simp only; omega, ?_⟩
                    refine weak_of [(0, some 0)] rfl (by simp [upT, up, upL, push_cast]) (by simp [upH, upR, upL, up, push_cast]) (by simp [namesOk, push_cast]) (by simp [olds])
                  · have hcp : ¬ c < p := by simpa using hb
                    refine awp_region cx [] fun K hK => ?_
                    simp [push_cast, e0]
                    repeat (refine And.intro (by clear hK; intros; first | omega | (simp_all; done) | (simp_all <;> omega)) ?_)
                    refine hK _ ?_; clear hK K; refine Nav.imp ?_
                    refine ⟨(i + 1, W), ⟨insI_end hW (.inr ⟨c, p, hc, hp, hcp⟩), by simp only; omega, by simp only; omega⟩, by simp only; omega, ?_⟩
                    refine weak_of [(0, some 0)] rfl (by simp [upT, up, upL, push_cast]) (by simp [upH, upR, upL, up, push_cast]) (by simp [namesOk, push_cast]) (by simp [olds])
            · have hge : Y.length ≤ i := by simp at hb; omega
              have hs := upI_end hZ (by omega)
              rw [← hs]
              refine awp_region cx [] fun K hK => ?_
              simp [push_cast]
              repeat (refine And.intro (by clear hK; intros; first | omega | (simp_all; done) | (simp_all <;> omega)) ?_)
              refine hK _ ?_; clear hK K; refine Nav.imp ?_
              have ht : List.take Z.length (Z.map iRow) = Z.map iRow := List.take_of_length_le (by simp)
              simp [push_cast, ht]
end Go.Proofs.YtlfbjflfbjkbeaaGreat

namespace Go.Proofs.YtlfbjflfbjkbeaaGreat
open Go.Abs

set_option maxHeartbeats 4000000 in
theorem combined_ok (op : Int) (f : Bool → Bool → Bool) (hf : f false false = false) (hkp : ∀ x y, PC Tryz.prog 115 [.int .i64 op, .bool x, .bool y] (.p (.bool (f x y)))) (a b : List Run) (ha : a.length ≤ 1000000) (hb0 : b.length ≤ 1000000) (va : rvalid a = true) (vb : rvalid b = true) :
    PC Tryz.prog 98 [.int .i64 op, encRuns a, encRuns b] (.p (encRuns (sweep f a b))) := by
  have c1 := bounds_ok a b ha hb0
  have hbl := bnds_len a b
  have hstart := fun X hX => @comb_start f hf a b X hX
  have hend := fun n X out h1 h2 h3 => @comb_end f hf a b va vb n X out h1 h2 h3
  have hgap := fun i X Y h1 h2 => @gap_of a b i X Y h1 h2
  have hnil := @sweep_nil f hf a b va vb
  generalize bnds a b = L at *
  generalize sweep f a b = res at *
  refine pc_of_awp cx (fn := Tryz.f98) (c := _) Tryz.func98 rfl rfl (Nat.le_of_ble_eq_true rfl) ?_
  rw [Tryz.ntmps98]; refine Nav.imp ?_
  refine awp_region cx [] fun K hK => ?_
  simp [push_cast]
  repeat (refine And.intro (by clear hK; intros; first | omega | (simp_all; done) | (simp_all <;> omega)) ?_)
  refine hK _ ?_; clear hK K; refine Nav.imp ?_
  refine awp_region cx [(2, .p (.sl (L.map iRow)))] fun K hK => ?_
  simp [push_cast, c1]
  repeat (refine And.intro (by clear hK; intros; first | omega | (simp_all; done) | (simp_all <;> omega)) ?_)
  refine hK _ ?_; clear hK K; refine Nav.imp ?_
  refine awp_region cx [] fun K hK => ?_
  simp [push_cast]
  repeat (refine And.intro (by clear hK; intros; first | omega | (simp_all; done) | (simp_all <;> omega)) ?_)
  refine hK _ ?_; clear hK K; refine Nav.imp ?_
  refine awp_region cx [] fun K hK => ?_
  simp [push_cast]
  repeat (refine And.intro (by clear hK; intros; first | omega | (simp_all; done) | (simp_all <;> omega)) ?_)
  refine hK _ ?_; clear hK K; refine Nav.imp ?_
  refine awp_loop (β := Nat × List Run) (fun s => ⟨89, [(0, .d (.int .i64 op)), (1, .d (encRuns a)), (2, .d (encRuns b)), (7, .d (.sl (L.map iRow))), (8, .hs 0 0 s.2.length), (9, .d (.int .i64 s.1))], [(0, some ⟨70, 2, dr (s.2.map Run.row)⟩)], 1⟩) (fun s => s.2.length ≤ s.1 ∧ (L.length = 0 → s.2 = []) ∧ (0 < L.length → s.1 < L.length) ∧ s.1 ≤ L.length ∧ ∀ X, L[s.1]? = some X → CombAt f a b X s.2) (fun s => L.length - s.1) (0, []) ?_ ⟨by simp, by simp, by simp, by simp, hstart⟩ ?_
  · refine weak_of [(0, none)] rfl (by simp [upT, up, upL, push_cast]) (by simp [upH, upR, upL, up, push_cast]) (by simp [namesOk, push_cast]) (by simp [olds])
  · rintro ⟨i, out⟩ ⟨hol, ho0, hi, hile, hat⟩
    simp only at hol ho0 hi hile hat
    refine Nav.imp ?_
    have e0 := wrap_i64 (n := (i : Int) + 1) (by omega) (by omega)
    refine awp_region cx [] fun K hK => ?_
    simp [push_cast, e0]
    repeat (refine And.intro (by clear hK; intros; first | omega | (simp_all; done) | (simp_all <;> omega)) ?_)
    refine hK _ ?_; clear hK K; refine Nav.imp ?_
    refine awp_cond (b := decide ((i : Int) + 1 < L.length)) (by simp [push_cast]) (fun hb => ?_) (fun hb => ?_) <;> (refine Nav.imp ?_)
    · have hlt : i + 1 < L.length := by simp at hb; omega
      obtain ⟨X, hX⟩ : ∃ X, L[i]? = some X := getq (by omega)
      obtain ⟨Y, hY⟩ : ∃ Y, L[i + 1]? = some Y := getq hlt
      obtain ⟨hg, hXY⟩ := hgap i X Y hX hY
      have hcm := hat X hX
      have hi1 : ((i : Int) + 1).toNat = i + 1 := by omega
      have hi2 : (0 : Int) ≤ (i : Int) + 1 := by omega
      have hlti : (i : Int) + 1 < L.length := by omega
      have hnext : ∀ out', out'.length ≤ i + 1 → CombAt f a b Y out' → (out'.length ≤ i + 1 ∧ (L.length = 0 → out' = []) ∧ (0 < L.length → i + 1 < L.length) ∧ i + 1 ≤ L.length ∧ ∀ X, L[i + 1]? = some X → CombAt f a b X out') := fun out' h1 h2 => ⟨h1, fun h => by omega, fun _ => hlt, by omega, fun Z hZ => by rw [hY] at hZ; cases hZ; exact h2⟩
      clear hat hgap hstart
      by_cases hne : X = Y
      · have hn := hnext out (by omega) (comb_skip hcm hg hXY (.inl hne))
        subst hne
        refine awp_region_draw cx mixed [(17, .skip), (23, .skip), (24, .skip)] fun K hK => ?_
        simp [push_cast, hX, hY, e0, hi1, hi2, hlti]
        repeat (refine And.intro (by clear hK; intros; first | omega | (simp_all; done) | (simp_all <;> omega)) ?_)
        refine hK _ _ (by kernel_rfl) ?_; clear hK K; refine Nav.imp ?_
        refine awp_cond (b := true) (by simp [push_cast]) (fun hb => ?_) (fun hb => ?_) <;> (refine Nav.imp ?_)
        · refine awp_region cx [] fun K hK => ?_
          simp [push_cast, e0]
          repeat (refine And.intro (by clear hK; intros; first | omega | (simp_all; done) | (simp_all <;> omega)) ?_)
          refine hK _ ?_; clear hK K; refine Nav.imp ?_
          refine ⟨(i + 1, out), hn, by simp only; omega, ?_⟩
          refine weak_of [(0, some 0)] rfl (by simp [upT, up, upL, push_cast]) (by simp [upH, upR, upL, up, push_cast]) (by simp [namesOk, push_cast]) (by simp [olds])
        · simp at hb
      · have c2 := inside18_ok a X ha
        have c3 := inside18_ok b X hb0
        have c4 := hkp (inR a X) (inR b X)
        generalize hv : f (inR a X) (inR b X) = v at c4
        generalize inR a X = pa at c2 c4
        generalize inR b X = pb at c3 c4
        refine awp_region_draw cx mixed [(17, .p (.bool pa)), (23, .p (.bool pb)), (24, .p (.bool v))] fun K hK => ?_
        simp [push_cast, hX, hY, e0, hi1, hi2, hlti, hne, c2, c3, c4]
        repeat (refine And.intro (by clear hK; intros; first | omega | (simp_all; done) | (simp_all <;> omega)) ?_)
        refine hK _ _ (by kernel_rfl) ?_; clear hK K; refine Nav.imp ?_
        refine awp_cond (b := !v) (by simp [push_cast, hne]) (fun hb => ?_) (fun hb => ?_) <;> (refine Nav.imp ?_)
        · have hv2 : v = false := by simpa using hb
          rw [hv2] at hv
          have hn := hnext out (by omega) (comb_skip hcm hg hXY (.inr hv))
          refine awp_region cx [] fun K hK => ?_
          simp [push_cast, e0]
          repeat (refine And.intro (by clear hK; intros; first | omega | (simp_all; done) | (simp_all <;> omega)) ?_)
          refine hK _ ?_; clear hK K; refine Nav.imp ?_
          refine ⟨(i + 1, out), hn, by simp only; omega, ?_⟩
          refine weak_of [(0, some 0)] rfl (by simp [upT, up, upL, push_cast]) (by simp [upH, upR, upL, up, push_cast]) (by simp [namesOk, push_cast]) (by simp [olds])
        · have hv2 : v = true := by simpa using hb
          rw [hv2] at hv
          have hlt2 : X < Y := by omega
          have hO16 : (out.length + 1) * 16 ≤ 140737488355328 := by omega
          refine awp_region cx [] fun K hK => ?_
          simp [push_cast]
          repeat (refine And.intro (by clear hK; intros; first | omega | (simp_all; done) | (simp_all <;> omega)) ?_)
          refine hK _ ?_; clear hK K; refine Nav.imp ?_
          rcases List.eq_nil_or_concat out with rfl | ⟨o, q, rfl⟩
          · have hn := hnext _ (by simp) (comb_app hcm hg hlt2 hv (by simp))
            refine awp_region_draw cx mixed [] fun K hK => ?_
            simp [push_cast, hX, hi1]
            repeat (refine And.intro (by clear hK; intros; first | omega | (simp_all; done) | (simp_all <;> omega)) ?_)
            refine hK _ _ (by kernel_rfl) ?_; clear hK K; refine Nav.imp ?_
            refine awp_cond (b := false) (by simp [push_cast]) (fun hb => ?_) (fun hb => ?_) <;> (refine Nav.imp ?_)
            · simp at hb
            · refine awp_region_draw cx mixed [] fun K hK => ?_
              simp [push_cast, hX, hY, e0, hi1, hi2, hlti]
              repeat (refine And.intro (by clear hK; intros; first | omega | (simp_all; done) | (simp_all <;> omega)) ?_)
              refine hK _ _ (by kernel_rfl) ?_; clear hK K; refine Nav.imp ?_
              refine awp_region cx [] fun K hK => ?_
              simp [push_cast, e0]
              repeat (refine And.intro (by clear hK; intros; first | omega | (simp_all; done) | (simp_all <;> omega)) ?_)
              refine hK _ ?_; clear hK K; refine Nav.imp ?_
              refine ⟨(i + 1, [⟨X, Y⟩]), hn, by simp only; omega, ?_⟩
              refine weak_of [(0, some 63)] rfl (by simp [upT, up, upL, push_cast, Run.row]) (by simp [upH, upR, upL, up, push_cast, Run.row]) (by simp [namesOk, push_cast]) (by simp [olds])
          · rw [List.concat_eq_append] at *
            have hz : (o ++ [q])[o.length]? = some q := by simp
            have hlen : (o ++ [q]).length = o.length + 1 := by simp
            obtain ⟨qa, qb⟩ := q
            have hset : (dr ((o ++ [(⟨qa, qb⟩ : Run)]).map Run.row)).set o.length [.d (.int .i64 qa), .d (.int .i64 Y)] = dr ((o ++ [(⟨qa, Y⟩ : Run)]).map Run.row) := by
              simp [dr, List.map_set, Run.row]
            have hjoin := fun h => @comb_join f a b X Y o ⟨qa, qb⟩ hcm hg hlt2 hv h
            have happ := fun h => @comb_app f a b X Y (o ++ [⟨qa, qb⟩]) hcm hg hlt2 hv h
            simp only at hjoin
            have e1 := wrap_i64 (n := ((o.length + 1 : Nat) : Int) - 1) (by omega) (by omega)
            have e2 : (((o.length + 1 : Nat) : Int) - 1) = o.length := by omega
            rw [e2] at e1
            have e3 : (0 : Int) < (o.length : Int) + 1 := by omega
            have hjl : (o ++ [(⟨qa, Y⟩ : Run)]).length = o.length + 1 := by simp
            generalize hJ : o ++ [(⟨qa, Y⟩ : Run)] = J at *
            generalize hA : o ++ [(⟨qa, qb⟩ : Run)] = A at *
            rw [hlen]
            refine awp_region_draw cx mixed [] fun K hK => ?_
            simp [push_cast, hX, hz, hi1, e1, e2, e3, Run.row]
            repeat (refine And.intro (by clear hK; intros; first | omega | (simp_all; done) | (simp_all <;> omega)) ?_)
            refine hK _ _ (by kernel_rfl) ?_; clear hK K; refine Nav.imp ?_
            refine awp_cond (b := qb == X) (by simp [push_cast, e3]) (fun hb => ?_) (fun hb => ?_) <;> (refine Nav.imp ?_)
            · have hq : qb = X := by simpa using hb
              have hn := hnext J (by omega) (hjoin hq)
              refine awp_region cx [] fun K hK => ?_
              simp [push_cast, hY, hz, e0, e1, e2, e3, hi1, hi2, hlti, Run.row, hset]
              repeat (refine And.intro (by clear hK; intros; first | omega | (simp_all; done) | (simp_all <;> omega)) ?_)
              refine hK _ ?_; clear hK K; refine Nav.imp ?_
              refine awp_region cx [] fun K hK => ?_
              simp [push_cast, e0]
              repeat (refine And.intro (by clear hK; intros; first | omega | (simp_all; done) | (simp_all <;> omega)) ?_)
              refine hK _ ?_; clear hK K; refine Nav.imp ?_
              refine ⟨(i + 1, J), hn, by simp only; omega, ?_⟩
              refine weak_of [(0, some 0)] rfl (by simp [upT, up, upL, push_cast, Run.row, hjl]) (by simp [upH, upR, upL, up, push_cast, Run.row, hjl]) (by simp [namesOk, push_cast]) (by simp [olds])
            · have hq : ¬ qb = X := by simpa using hb
              have hn := hnext (A ++ [⟨X, Y⟩]) (by simp; omega) (happ (by
                intro r hr
                rw [hlen, Nat.add_sub_cancel, hz] at hr
                cases hr; exact hq))
              rw [← hlen]
              refine awp_region_draw cx mixed [] fun K hK => ?_
              simp [push_cast, hX, hY, e0, hi1, hi2, hlti, hO16]
              repeat (refine And.intro (by clear hK; intros; first | omega | (simp_all; done) | (simp_all <;> omega)) ?_)
              refine hK _ _ (by kernel_rfl) ?_; clear hK K; refine Nav.imp ?_
              refine awp_region cx [] fun K hK => ?_
              simp [push_cast, e0]
              repeat (refine And.intro (by clear hK; intros; first | omega | (simp_all; done) | (simp_all <;> omega)) ?_)
              refine hK _ ?_; clear hK K; refine Nav.imp ?_
              refine ⟨(i + 1, A ++ [⟨X, Y⟩]), hn, by simp only; omega, ?_⟩
              refine weak_of [(0, some 63)] rfl (by simp [upT, up, upL, push_cast, Run.row]) (by simp [upH, upR, upL, up, push_cast, Run.row]) (by simp [namesOk, push_cast]) (by simp [olds])
    · have hge : L.length ≤ i + 1 := by simp at hb; omega
      have hres : out = res := by
        rcases Nat.eq_zero_or_pos L.length with h | h
        · rw [ho0 h, hnil h]
        · obtain ⟨X, hX⟩ : ∃ X, L[i]? = some X := getq (hi h)
          exact hend i X out (by have := hi h; omega) hX (hat X hX)
      subst hres
      refine awp_region cx [] fun K hK => ?_
      simp [push_cast]
      repeat (refine And.intro (by clear hK; intros; first | omega | (simp_all; done) | (simp_all <;> omega)) ?_)
      refine hK _ ?_; clear hK K; refine Nav.imp ?_
      have ht : List.take out.length (out.map Run.row) = out.map Run.row := List.take_of_length_le (by simp)
      simp [push_cast, ht]
end Go.Proofs.YtlfbjflfbjkbeaaGreat

namespace Go.Proofs.YtlfbjflfbjkbeaaGreat
open Go.Abs

theorem sideAV (R : List Row) (i : Nat) (y : Int) : ∃ P : AV, ((R[i]? = none ∧ P = .nl ∧ stepI R i y = i) ∨ (∃ v, R[i]? = some v ∧ ¬ v.y = y ∧ P = .nl ∧ stepI R i y = i) ∨ (∃ v, R[i]? = some v ∧ v.y = y ∧ P = .d (encRuns v.runs) ∧ stepI R i y = i + 1)) ∧ ((P = .nl ∧ runsAt R i y = []) ∨ P = .d (encRuns (runsAt R i y))) := by
  cases h : R[i]? with
  | none => exact ⟨.nl, .inl ⟨rfl, rfl, by simp [stepI, h]⟩, .inl ⟨rfl, by simp [runsAt, h]⟩⟩
  | some v =>
    by_cases e : v.y = y
    · exact ⟨.d (encRuns v.runs), .inr (.inr ⟨v, rfl, e, rfl, by simp [stepI, h, e]⟩), .inr (by simp [runsAt, h, e])⟩
    · exact ⟨.nl, .inr (.inl ⟨v, rfl, e, rfl, by simp [stepI, h, e]⟩), .inl ⟨rfl, by simp [runsAt, h, e]⟩⟩
theorem runsAt_len {R : List Row} (h : smallR R) (i : Nat) (y : Int) : (runsAt R i y).length ≤ 1000000 := by
  unfold runsAt
  split
  · rename_i v hv
    split
    · exact h.2 v (List.mem_of_getElem? hv)
    · simp
  · simp

set_option maxHeartbeats 4000000 in
theorem operated_big (op : Int) (f : Bool → Bool → Bool) (hf : f false false = false) (hkp : ∀ x y, PC Tryz.prog 115 [.int .i64 op, .bool x, .bool y] (.p (.bool (f x y)))) (a b : List Row) (hA : bigR a) (hB : bigR b) :
    PC Tryz.prog 87 [.int .i64 op, .agg (regRow a), .agg (regRow b)] (.p (.agg (regRow (opR f a b)))) := by
  have c1 := validR_big a hA
  have c2 := validR_big b hB
  have hop : opR f a b = if validR a && validR b then opOn f a b (dedup (allY a b)) else [] := rfl
  cases ha : validR a with
  | false =>
    rw [ha] at c1
    have h0 : opR f a b = [] := by rw [hop, ha]; simp
    rw [h0]
    refine pc_of_awp cx (fn := Tryz.f87) (c := _) Tryz.func87 rfl rfl (Nat.le_of_ble_eq_true rfl) ?_
    rw [Tryz.ntmps87]; refine Nav.imp ?_
    refine awp_region cx [] fun K hK => ?_
    simp [push_cast]
    repeat (refine And.intro (by clear hK; intros; first | omega | (simp_all; done) | (simp_all <;> omega)) ?_)
    refine hK _ ?_; clear hK K; refine Nav.imp ?_
    refine awp_region cx [] fun K hK => ?_
    simp [push_cast]
    repeat (refine And.intro (by clear hK; intros; first | omega | (simp_all; done) | (simp_all <;> omega)) ?_)
    refine hK _ ?_; clear hK K; refine Nav.imp ?_
    refine awp_region cx [(1, .p (.bool false)), (5, .skip)] fun K hK => ?_
    simp [push_cast, c1]
    repeat (refine And.intro (by clear hK; intros; first | omega | (simp_all; done) | (simp_all <;> omega)) ?_)
    refine hK _ ?_; clear hK K; refine Nav.imp ?_
    refine awp_cond (b := true) (by simp [push_cast]) (fun hb => ?_) (fun hb => ?_) <;> (refine Nav.imp ?_)
    · refine awp_region cx [] fun K hK => ?_
      simp [push_cast]
      repeat (refine And.intro (by clear hK; intros; first | omega | (simp_all; done) | (simp_all <;> omega)) ?_)
      refine hK _ ?_; clear hK K; refine Nav.imp ?_
      simp [push_cast]
    · simp at hb
  | true =>
    rw [ha] at c1
    cases hb0 : validR b with
    | false =>
      rw [hb0] at c2
      have h0 : opR f a b = [] := by rw [hop, ha, hb0]; simp
      rw [h0]
      refine pc_of_awp cx (fn := Tryz.f87) (c := _) Tryz.func87 rfl rfl (Nat.le_of_ble_eq_true rfl) ?_
      rw [Tryz.ntmps87]; refine Nav.imp ?_
      refine awp_region cx [] fun K hK => ?_
      simp [push_cast]
      repeat (refine And.intro (by clear hK; intros; first | omega | (simp_all; done) | (simp_all <;> omega)) ?_)
      refine hK _ ?_; clear hK K; refine Nav.imp ?_
      refine awp_region cx [] fun K hK => ?_
      simp [push_cast]
      repeat (refine And.intro (by clear hK; intros; first | omega | (simp_all; done) | (simp_all <;> omega)) ?_)
      refine hK _ ?_; clear hK K; refine Nav.imp ?_
      refine awp_region cx [(1, .p (.bool true)), (5, .p (.bool false))] fun K hK => ?_
      simp [push_cast, c1, c2]
      repeat (refine And.intro (by clear hK; intros; first | omega | (simp_all; done) | (simp_all <;> omega)) ?_)
      refine hK _ ?_; clear hK K; refine Nav.imp ?_
      refine awp_cond (b := true) (by simp [push_cast]) (fun hb => ?_) (fun hb => ?_) <;> (refine Nav.imp ?_)
      · refine awp_region cx [] fun K hK => ?_
        simp [push_cast]
        repeat (refine And.intro (by clear hK; intros; first | omega | (simp_all; done) | (simp_all <;> omega)) ?_)
        refine hK _ ?_; clear hK K; refine Nav.imp ?_
        simp [push_cast]
      · simp at hb
    | true =>
      replace hA := small_valid ha
      replace hB := small_valid hb0
      have hal := hA.1
      have hbl := hB.1
      rw [hb0] at c2
      have hend := fun out h => @opAt_end f hf a b ha hb0 out h
      have hstart := opAt_start f a b
      clear hop
      generalize opR f a b = res at *
      refine pc_of_awp cx (fn := Tryz.f87) (c := _) Tryz.func87 rfl rfl (Nat.le_of_ble_eq_true rfl) ?_
      rw [Tryz.ntmps87]; refine Nav.imp ?_
      refine awp_region cx [] fun K hK => ?_
      simp [push_cast]
      repeat (refine And.intro (by clear hK; intros; first | omega | (simp_all; done) | (simp_all <;> omega)) ?_)
      refine hK _ ?_; clear hK K; refine Nav.imp ?_
      refine awp_region cx [] fun K hK => ?_
      simp [push_cast]
      repeat (refine And.intro (by clear hK; intros; first | omega | (simp_all; done) | (simp_all <;> omega)) ?_)
      refine hK _ ?_; clear hK K; refine Nav.imp ?_
      refine awp_region cx [(1, .p (.bool true)), (5, .p (.bool true))] fun K hK => ?_
      simp [push_cast, c1, c2]
      repeat (refine And.intro (by clear hK; intros; first | omega | (simp_all; done) | (simp_all <;> omega)) ?_)
      refine hK _ ?_; clear hK K; refine Nav.imp ?_
      refine awp_cond (b := false) (by simp [push_cast]) (fun hb => ?_) (fun hb => ?_) <;> (refine Nav.imp ?_)
      · simp at hb
      · refine awp_region cx [] fun K hK => ?_
        simp [push_cast]
        repeat (refine And.intro (by clear hK; intros; first | omega | (simp_all; done) | (simp_all <;> omega)) ?_)
        refine hK _ ?_; clear hK K; refine Nav.imp ?_
        refine awp_loop (β := Nat × Nat × List Row) (fun s => ⟨136, [(0, .d (.int .i64 op)), (4, .ptr 0 0 0), (5, .ptr 1 0 0), (6, .ptr 2 0 0), (7, .ptr 3 0 0), (8, .d (.int .i64 s.1)), (9, .d (.int .i64 s.2.1))], [(0, some ⟨48, 1, [(regRow a).map .d]⟩), (1, some ⟨48, 1, [(regRow b).map .d]⟩), (2, some ⟨48, 1, [[.nl]]⟩), (3, some ⟨48, 1, [[.hs 4 0 s.2.2.length]]⟩), (4, some ⟨51, 2, dr (s.2.2.map Row.row)⟩)], 5⟩) (fun s => OpAt f a b s.1 s.2.1 s.2.2) (fun s => a.length + b.length - (s.1 + s.2.1)) (0, 0, []) ?_ hstart ?_
        · refine weak_of [(0, some 0), (1, some 1), (2, some 2), (3, some 3), (4, none)] rfl (by simp [upT, up, upL, push_cast]) (by simp [upH, upR, upL, up, push_cast]) (by simp [namesOk, push_cast]) (by simp [olds])
        · rintro ⟨i, k, Z⟩ hat
          simp only at hat
          refine Nav.imp ?_
          have hile := hat.1
          have hkle := hat.2.1
          have hZl : Z.length ≤ 2000000 := by have := opAt_len hat; omega
          have hZ32 : (Z.length + 1) * 32 ≤ 140737488355328 := by omega
          have e1 := wrap_i64 (n := (i : Int) + 1) (by omega) (by omega)
          have e2 := wrap_i64 (n := (k : Int) + 1) (by omega) (by omega)
          by_cases hn : i < a.length ∨ k < b.length
          · obtain ⟨s1, s2, s3, s4⟩ := opAt_step ha hb0 hat hn
            obtain ⟨y, hy⟩ : ∃ y, nextY a b i k = y := ⟨_, rfl⟩
            rw [hy] at s1 s2 s3 s4
            obtain ⟨P, hPs, hPp⟩ := sideAV a i y
            obtain ⟨Q, hQs, hQp⟩ := sideAV b k y
            have hlp := runsAt_len hA i y
            have hlq := runsAt_len hB k y
            have hvp := rowOf_rv ha y
            have hvq := rowOf_rv hb0 y
            have hor : opRow f a b y = if sweep f (rowOf a y) (rowOf b y) = [] then [] else [⟨y, sweep f (rowOf a y) (rowOf b y)⟩] := rfl
            rw [s1] at hvp hor
            rw [s2] at hvq hor
            rw [hor] at s3
            clear hor s1 s2
            generalize stepI a i y = i' at *
            generalize stepI b k y = k' at *
            generalize runsAt a i y = p at *
            generalize runsAt b k y = q at *
            have g1 := combined_ok op f hf hkp p q hlp hlq hvp hvq
            generalize sweep f p q = r at *
            apply cut_
            · intro key
              cases hAi : a[i]? with
              | some v =>
                have hi1 : i < a.length := (List.getElem?_eq_some_iff.1 hAi).1
                have hav := (List.getElem?_eq_some_iff.1 hAi).2
                refine awp_region cx [] fun K hK => ?_
                simp [push_cast, hi1]
                repeat (refine And.intro (by clear hK; intros; first | omega | (simp_all; done) | (simp_all <;> omega)) ?_)
                refine hK _ ?_; clear hK K; refine Nav.imp ?_
                refine awp_cond (b := true) (by simp [push_cast, hi1]) (fun hb => ?_) (fun hb => ?_) <;> (refine Nav.imp ?_)
                · refine awp_region cx [] fun K hK => ?_
                  simp [push_cast]
                  repeat (refine And.intro (by clear hK; intros; first | omega | (simp_all; done) | (simp_all <;> omega)) ?_)
                  refine hK _ ?_; clear hK K; refine Nav.imp ?_
                  refine awp_region cx [] fun K hK => ?_
                  simp [push_cast]
                  repeat (refine And.intro (by clear hK; intros; first | omega | (simp_all; done) | (simp_all <;> omega)) ?_)
                  refine hK _ ?_; clear hK K; refine Nav.imp ?_
                  cases hBk : b[k]? with
                  | some w =>
                    have hk1 : k < b.length := (List.getElem?_eq_some_iff.1 hBk).1
                    have hbw := (List.getElem?_eq_some_iff.1 hBk).2
                    have hk2 : ¬ k = b.length := by (try clear hPs); (try clear hQs); omega
                    have hk3 : ((k : Int) == (b.length : Int)) = false := by (try clear hPs); (try clear hQs); simp; omega
                    refine awp_region_draw cx mixed [] fun K hK => ?_
                    simp [push_cast, hi1, hk1, hk2, hk3, hAi, hBk, hav, hbw, Row.row]
                    repeat (refine And.intro (by clear hK; intros; first | omega | (simp_all; done) | (simp_all <;> omega)) ?_)
                    refine hK _ _ (by kernel_rfl) ?_; clear hK K; refine Nav.imp ?_
                    refine awp_cond (b := decide (v.y ≤ w.y)) (by simp [push_cast, hi1, hk1, hk2, hk3]) (fun hb => ?_) (fun hb => ?_) <;> (refine Nav.imp ?_)
                    · have hvw : v.y ≤ w.y := by simpa using hb
                      have hyv : v.y = y := by rw [← hy]; simp [nextY, hAi, hBk, hvw]
                      refine awp_region cx [] fun K hK => ?_
                      simp [push_cast, hi1, hAi, hav, Row.row]
                      repeat (refine And.intro (by clear hK; intros; first | omega | (simp_all; done) | (simp_all <;> omega)) ?_)
                      refine hK _ ?_; clear hK K; refine Nav.imp ?_
                      refine awp_weak (s' := ⟨136, [(0, .d (.int .i64 op)), (4, .ptr 0 0 0), (5, .ptr 1 0 0), (6, .ptr 2 0 0), (7, .ptr 3 0 0), (8, .d (.int .i64 i)), (9, .d (.int .i64 k)), (10, .d (.int .i64 y)), (11, .nl), (12, .nl)], [(0, some ⟨48, 1, [(regRow a).map .d]⟩), (1, some ⟨48, 1, [(regRow b).map .d]⟩), (2, some ⟨48, 1, [[.nl]]⟩), (3, some ⟨48, 1, [[.hs 4 0 Z.length]]⟩), (4, some ⟨51, 2, dr (Z.map Row.row)⟩)], 5⟩) ?_ key.h
                      refine weak_of [(0, some 0), (1, some 1), (2, some 2), (3, some 3), (4, some 4)] rfl (by simp [upT, up, upL, push_cast, hyv]) (by simp [upH, upR, upL, up, push_cast, hyv]) (by simp [namesOk, push_cast]) (by simp [olds])
                    · have hvw : ¬ v.y ≤ w.y := by simpa using hb
                      have hyv : w.y = y := by rw [← hy]; simp [nextY, hAi, hBk, hvw]
                      refine awp_region cx [] fun K hK => ?_
                      simp [push_cast, hk1, hBk, hbw, Row.row]
                      repeat (refine And.intro (by clear hK; intros; first | omega | (simp_all; done) | (simp_all <;> omega)) ?_)
                      refine hK _ ?_; clear hK K; refine Nav.imp ?_
                      refine awp_weak (s' := ⟨136, [(0, .d (.int .i64 op)), (4, .ptr 0 0 0), (5, .ptr 1 0 0), (6, .ptr 2 0 0), (7, .ptr 3 0 0), (8, .d (.int .i64 i)), (9, .d (.int .i64 k)), (10, .d (.int .i64 y)), (11, .nl), (12, .nl)], [(0, some ⟨48, 1, [(regRow a).map .d]⟩), (1, some ⟨48, 1, [(regRow b).map .d]⟩), (2, some ⟨48, 1, [[.nl]]⟩), (3, some ⟨48, 1, [[.hs 4 0 Z.length]]⟩), (4, some ⟨51, 2, dr (Z.map Row.row)⟩)], 5⟩) ?_ key.h
                      refine weak_of [(0, some 0), (1, some 1), (2, some 2), (3, some 3), (4, some 4)] rfl (by simp [upT, up, upL, push_cast, hyv]) (by simp [upH, upR, upL, up, push_cast, hyv]) (by simp [namesOk, push_cast]) (by simp [olds])
                  | none =>
                    have hk1 : k = b.length := by have := List.getElem?_eq_none_iff.1 hBk; (try clear hPs); (try clear hQs); omega
                    have hyv : v.y = y := by rw [← hy]; simp [nextY, hAi, hBk]
                    refine awp_region_draw cx mixed [] fun K hK => ?_
                    simp [push_cast, hi1, hk1, hAi, hav, Row.row]
                    repeat (refine And.intro (by clear hK; intros; first | omega | (simp_all; done) | (simp_all <;> omega)) ?_)
                    refine hK _ _ (by kernel_rfl) ?_; clear hK K; refine Nav.imp ?_
                    refine awp_cond (b := true) (by simp [push_cast, hi1, hk1]) (fun hb => ?_) (fun hb => ?_) <;> (refine Nav.imp ?_)
                    · refine awp_region cx [] fun K hK => ?_
                      simp [push_cast, hi1, hAi, hav, Row.row]
                      repeat (refine And.intro (by clear hK; intros; first | omega | (simp_all; done) | (simp_all <;> omega)) ?_)
                      refine hK _ ?_; clear hK K; refine Nav.imp ?_
                      refine awp_weak (s' := ⟨136, [(0, .d (.int .i64 op)), (4, .ptr 0 0 0), (5, .ptr 1 0 0), (6, .ptr 2 0 0), (7, .ptr 3 0 0), (8, .d (.int .i64 i)), (9, .d (.int .i64 k)), (10, .d (.int .i64 y)), (11, .nl), (12, .nl)], [(0, some ⟨48, 1, [(regRow a).map .d]⟩), (1, some ⟨48, 1, [(regRow b).map .d]⟩), (2, some ⟨48, 1, [[.nl]]⟩), (3, some ⟨48, 1, [[.hs 4 0 Z.length]]⟩), (4, some ⟨51, 2, dr (Z.map Row.row)⟩)], 5⟩) ?_ key.h
                      refine weak_of [(0, some 0), (1, some 1), (2, some 2), (3, some 3), (4, some 4)] rfl (by simp [upT, up, upL, push_cast, hyv, hk1]) (by simp [upH, upR, upL, up, push_cast, hyv, hk1]) (by simp [namesOk, push_cast]) (by simp [olds])
                    · simp at hb
                · simp at hb
              | none =>
                have hi1 : i = a.length := by have := List.getElem?_eq_none_iff.1 hAi; (try clear hPs); (try clear hQs); omega
                have hi2 : ¬ i < a.length := by (try clear hPs); (try clear hQs); omega
                have hk1 : k < b.length := by (try clear hPs); (try clear hQs); omega
                obtain ⟨w, hBk⟩ : ∃ w, b[k]? = some w := getq hk1
                have hbw := (List.getElem?_eq_some_iff.1 hBk).2
                have hk2 : ¬ k = b.length := by (try clear hPs); (try clear hQs); omega
                have hk3 : ((k : Int) == (b.length : Int)) = false := by (try clear hPs); (try clear hQs); simp; omega
                have hyv : w.y = y := by rw [← hy]; simp [nextY, hAi, hBk]
                refine awp_region cx [] fun K hK => ?_
                simp [push_cast, hi2, hk1]
                repeat (refine And.intro (by clear hK; intros; first | omega | (simp_all; done) | (simp_all <;> omega)) ?_)
                refine hK _ ?_; clear hK K; refine Nav.imp ?_
                refine awp_cond (b := true) (by simp [push_cast, hi2, hk1]) (fun hb => ?_) (fun hb => ?_) <;> (refine Nav.imp ?_)
                · refine awp_region cx [] fun K hK => ?_
                  simp [push_cast]
                  repeat (refine And.intro (by clear hK; intros; first | omega | (simp_all; done) | (simp_all <;> omega)) ?_)
                  refine hK _ ?_; clear hK K; refine Nav.imp ?_
                  refine awp_region cx [] fun K hK => ?_
                  simp [push_cast]
                  repeat (refine And.intro (by clear hK; intros; first | omega | (simp_all; done) | (simp_all <;> omega)) ?_)
                  refine hK _ ?_; clear hK K; refine Nav.imp ?_
                  refine awp_region_draw cx mixed [] fun K hK => ?_
                  simp [push_cast, hi2, hk1, hk2, hk3]
                  repeat (refine And.intro (by clear hK; intros; first | omega | (simp_all; done) | (simp_all <;> omega)) ?_)
                  refine hK _ _ (by kernel_rfl) ?_; clear hK K; refine Nav.imp ?_
                  refine awp_cond (b := false) (by simp [push_cast, hi2, hk1, hk2, hk3]) (fun hb => ?_) (fun hb => ?_) <;> (refine Nav.imp ?_)
                  · simp at hb
                  · refine awp_region cx [] fun K hK => ?_
                    simp [push_cast, hk1, hBk, hbw, Row.row]
                    repeat (refine And.intro (by clear hK; intros; first | omega | (simp_all; done) | (simp_all <;> omega)) ?_)
                    refine hK _ ?_; clear hK K; refine Nav.imp ?_
                    refine awp_weak (s' := ⟨136, [(0, .d (.int .i64 op)), (4, .ptr 0 0 0), (5, .ptr 1 0 0), (6, .ptr 2 0 0), (7, .ptr 3 0 0), (8, .d (.int .i64 i)), (9, .d (.int .i64 k)), (10, .d (.int .i64 y)), (11, .nl), (12, .nl)], [(0, some ⟨48, 1, [(regRow a).map .d]⟩), (1, some ⟨48, 1, [(regRow b).map .d]⟩), (2, some ⟨48, 1, [[.nl]]⟩), (3, some ⟨48, 1, [[.hs 4 0 Z.length]]⟩), (4, some ⟨51, 2, dr (Z.map Row.row)⟩)], 5⟩) ?_ key.h
                    refine weak_of [(0, some 0), (1, some 1), (2, some 2), (3, some 3), (4, some 4)] rfl (by simp [upT, up, upL, push_cast, hyv]) (by simp [upH, upR, upL, up, push_cast, hyv]) (by simp [namesOk, push_cast]) (by simp [olds])
                · simp at hb
            · refine Nav.imp ?_
              apply cut_
              · intro key
                rcases hPs with ⟨hAi, hP, hi'⟩ | ⟨v, hAi, hvy, hP, hi'⟩ | ⟨v, hAi, hvy, hP, hi'⟩
                · have hi2 : ¬ i < a.length := by have := List.getElem?_eq_none_iff.1 hAi; (try clear hPs); (try clear hQs); omega
                  refine awp_region cx [] fun K hK => ?_
                  simp [push_cast, hi2]
                  repeat (refine And.intro (by clear hK; intros; first | omega | (simp_all; done) | (simp_all <;> omega)) ?_)
                  refine hK _ ?_; clear hK K; refine Nav.imp ?_
                  refine awp_cond (b := false) (by simp [push_cast, hi2]) (fun hb => ?_) (fun hb => ?_) <;> (refine Nav.imp ?_)
                  · simp at hb
                  · refine awp_weak (s' := ⟨136, [(0, .d (.int .i64 op)), (4, .ptr 0 0 0), (5, .ptr 1 0 0), (6, .ptr 2 0 0), (7, .ptr 3 0 0), (8, .d (.int .i64 i')), (9, .d (.int .i64 k)), (10, .d (.int .i64 y)), (11, P), (12, .nl)], [(0, some ⟨48, 1, [(regRow a).map .d]⟩), (1, some ⟨48, 1, [(regRow b).map .d]⟩), (2, some ⟨48, 1, [[.nl]]⟩), (3, some ⟨48, 1, [[.hs 4 0 Z.length]]⟩), (4, some ⟨51, 2, dr (Z.map Row.row)⟩)], 5⟩) ?_ key.h
                    refine weak_of [(0, some 0), (1, some 1), (2, some 2), (3, some 3), (4, some 4)] rfl (by simp [upT, up, upL, push_cast, hP, hi']) (by simp [upH, upR, upL, up, push_cast, hP, hi']) (by simp [namesOk, push_cast]) (by simp [olds])
                · have hi1 : i < a.length := (List.getElem?_eq_some_iff.1 hAi).1
                  have hav := (List.getElem?_eq_some_iff.1 hAi).2
                  refine awp_region cx [] fun K hK => ?_
                  simp [push_cast, hi1, hAi, hav, hvy, Row.row]
                  repeat (refine And.intro (by clear hK; intros; first | omega | (simp_all; done) | (simp_all <;> omega)) ?_)
                  refine hK _ ?_; clear hK K; refine Nav.imp ?_
                  refine awp_cond (b := false) (by simp [push_cast, hi1, hvy]) (fun hb => ?_) (fun hb => ?_) <;> (refine Nav.imp ?_)
                  · simp at hb
                  · refine awp_weak (s' := ⟨136, [(0, .d (.int .i64 op)), (4, .ptr 0 0 0), (5, .ptr 1 0 0), (6, .ptr 2 0 0), (7, .ptr 3 0 0), (8, .d (.int .i64 i')), (9, .d (.int .i64 k)), (10, .d (.int .i64 y)), (11, P), (12, .nl)], [(0, some ⟨48, 1, [(regRow a).map .d]⟩), (1, some ⟨48, 1, [(regRow b).map .d]⟩), (2, some ⟨48, 1, [[.nl]]⟩), (3, some ⟨48, 1, [[.hs 4 0 Z.length]]⟩), (4, some ⟨51, 2, dr (Z.map Row.row)⟩)], 5⟩) ?_ key.h
                    refine weak_of [(0, some 0), (1, some 1), (2, some 2), (3, some 3), (4, some 4)] rfl (by simp [upT, up, upL, push_cast, hP, hi']) (by simp [upH, upR, upL, up, push_cast, hP, hi']) (by simp [namesOk, push_cast]) (by simp [olds])
                · have hi1 : i < a.length := (List.getElem?_eq_some_iff.1 hAi).1
                  have hav := (List.getElem?_eq_some_iff.1 hAi).2
                  refine awp_region cx [] fun K hK => ?_
                  simp [push_cast, hi1, hAi, hav, hvy, Row.row]
                  repeat (refine And.intro (by clear hK; intros; first | omega | (simp_all; done) | (simp_all <;> omega)) ?_)
                  refine hK _ ?_; clear hK K; refine Nav.imp ?_
                  refine awp_cond (b := true) (by simp [push_cast, hi1, hvy]) (fun hb => ?_) (fun hb => ?_) <;> (refine Nav.imp ?_)
                  · refine awp_region cx [] fun K hK => ?_
                    simp [push_cast, hi1, hAi, hav, Row.row]
                    repeat (refine And.intro (by clear hK; intros; first | omega | (simp_all; done) | (simp_all <;> omega)) ?_)
                    refine hK _ ?_; clear hK K; refine Nav.imp ?_
                    refine awp_region cx [] fun K hK => ?_
                    simp [push_cast, e1]
                    repeat (refine And.intro (by clear hK; intros; first | omega | (simp_all; done) | (simp_all <;> omega)) ?_)
                    refine hK _ ?_; clear hK K; refine Nav.imp ?_
                    refine awp_weak (s' := ⟨136, [(0, .d (.int .i64 op)), (4, .ptr 0 0 0), (5, .ptr 1 0 0), (6, .ptr 2 0 0), (7, .ptr 3 0 0), (8, .d (.int .i64 i')), (9, .d (.int .i64 k)), (10, .d (.int .i64 y)), (11, P), (12, .nl)], [(0, some ⟨48, 1, [(regRow a).map .d]⟩), (1, some ⟨48, 1, [(regRow b).map .d]⟩), (2, some ⟨48, 1, [[.nl]]⟩), (3, some ⟨48, 1, [[.hs 4 0 Z.length]]⟩), (4, some ⟨51, 2, dr (Z.map Row.row)⟩)], 5⟩) ?_ key.h
                    refine weak_of [(0, some 0), (1, some 1), (2, some 2), (3, some 3), (4, some 4)] rfl (by simp [upT, up, upL, push_cast, hP, hi']) (by simp [upH, upR, upL, up, push_cast, hP, hi']) (by simp [namesOk, push_cast]) (by simp [olds])
                  · simp at hb
              · refine Nav.imp ?_
                apply cut_
                · intro key
                  rcases hQs with ⟨hBk, hQ, hk'⟩ | ⟨v, hBk, hvy, hQ, hk'⟩ | ⟨v, hBk, hvy, hQ, hk'⟩
                  · have hi2 : ¬ k < b.length := by have := List.getElem?_eq_none_iff.1 hBk; (try clear hPs); (try clear hQs); omega
                    refine awp_region cx [] fun K hK => ?_
                    simp [push_cast, hi2]
                    repeat (refine And.intro (by clear hK; intros; first | omega | (simp_all; done) | (simp_all <;> omega)) ?_)
                    refine hK _ ?_; clear hK K; refine Nav.imp ?_
                    refine awp_cond (b := false) (by simp [push_cast, hi2]) (fun hb => ?_) (fun hb => ?_) <;> (refine Nav.imp ?_)
                    · simp at hb
                    · refine awp_weak (s' := ⟨136, [(0, .d (.int .i64 op)), (4, .ptr 0 0 0), (5, .ptr 1 0 0), (6, .ptr 2 0 0), (7, .ptr 3 0 0), (8, .d (.int .i64 i')), (9, .d (.int .i64 k')), (10, .d (.int .i64 y)), (11, P), (12, Q)], [(0, some ⟨48, 1, [(regRow a).map .d]⟩), (1, some ⟨48, 1, [(regRow b).map .d]⟩), (2, some ⟨48, 1, [[.nl]]⟩), (3, some ⟨48, 1, [[.hs 4 0 Z.length]]⟩), (4, some ⟨51, 2, dr (Z.map Row.row)⟩)], 5⟩) ?_ key.h
                      rcases hPp with ⟨hP2, _⟩ | hP2
                      · refine weak_of [(0, some 0), (1, some 1), (2, some 2), (3, some 3), (4, some 4)] rfl (by simp [upT, up, upL, push_cast, hQ, hk', hP2]) (by simp [upH, upR, upL, up, push_cast, hQ, hk', hP2]) (by simp [namesOk, push_cast]) (by simp [olds])
                      · refine weak_of [(0, some 0), (1, some 1), (2, some 2), (3, some 3), (4, some 4)] rfl (by simp [upT, up, upL, push_cast, hQ, hk', hP2]) (by simp [upH, upR, upL, up, push_cast, hQ, hk', hP2]) (by simp [namesOk, push_cast]) (by simp [olds])
                  · have hi1 : k < b.length := (List.getElem?_eq_some_iff.1 hBk).1
                    have hav := (List.getElem?_eq_some_iff.1 hBk).2
                    refine awp_region cx [] fun K hK => ?_
                    simp [push_cast, hi1, hBk, hav, hvy, Row.row]
                    repeat (refine And.intro (by clear hK; intros; first | omega | (simp_all; done) | (simp_all <;> omega)) ?_)
                    refine hK _ ?_; clear hK K; refine Nav.imp ?_
                    refine awp_cond (b := false) (by simp [push_cast, hi1, hvy]) (fun hb => ?_) (fun hb => ?_) <;> (refine Nav.imp ?_)
                    · simp at hb
                    · refine awp_weak (s' := ⟨136, [(0, .d (.int .i64 op)), (4, .ptr 0 0 0), (5, .ptr 1 0 0), (6, .ptr 2 0 0), (7, .ptr 3 0 0), (8, .d (.int .i64 i')), (9, .d (.int .i64 k')), (10, .d (.int .i64 y)), (11, P), (12, Q)], [(0, some ⟨48, 1, [(regRow a).map .d]⟩), (1, some ⟨48, 1, [(regRow b).map .d]⟩), (2, some ⟨48, 1, [[.nl]]⟩), (3, some ⟨48, 1, [[.hs 4 0 Z.length]]⟩), (4, some ⟨51, 2, dr (Z.map Row.row)⟩)], 5⟩) ?_ key.h
                      rcases hPp with ⟨hP2, _⟩ | hP2
                      · refine weak_of [(0, some 0), (1, some 1), (2, some 2), (3, some 3), (4, some 4)] rfl (by simp [upT, up, upL, push_cast, hQ, hk', hP2]) (by simp [upH, upR, upL, up, push_cast, hQ, hk', hP2]) (by simp [namesOk, push_cast]) (by simp [olds])
                      · refine weak_of [(0, some 0), (1, some 1), (2, some 2), (3, some 3), (4, some 4)] rfl (by simp [upT, up, upL, push_cast, hQ, hk', hP2]) (by simp [upH, upR, upL, up, push_cast, hQ, hk', hP2]) (by simp [namesOk, push_cast]) (by simp [olds])
                  · have hi1 : k < b.length := (List.getElem?_eq_some_iff.1 hBk).1
                    have hav := (List.getElem?_eq_some_iff.1 hBk).2
                    refine awp_region cx [] fun K hK => ?_
                    simp [push_cast, hi1, hBk, hav, hvy, Row.row]
                    repeat (refine And.intro (by clear hK; intros; first | omega | (simp_all; done) | (simp_all <;> omega)) ?_)
                    refine hK _ ?_; clear hK K; refine Nav.imp ?_
                    refine awp_cond (b := true) (by simp [push_cast, hi1, hvy]) (fun hb => ?_) (fun hb => ?_) <;> (refine Nav.imp ?_)
                    · refine awp_region cx [] fun K hK => ?_
                      simp [push_cast, hi1, hBk, hav, Row.row]
                      repeat (refine And.intro (by clear hK; intros; first | omega | (simp_all; done) | (simp_all <;> omega)) ?_)
                      refine hK _ ?_; clear hK K; refine Nav.imp ?_
                      refine awp_region cx [] fun K hK => ?_
                      simp [push_cast, e2]
                      repeat (refine And.intro (by clear hK; intros; first | omega | (simp_all; done) | (simp_all <;> omega)) ?_)
                      refine hK _ ?_; clear hK K; refine Nav.imp ?_
                      refine awp_weak (s' := ⟨136, [(0, .d (.int .i64 op)), (4, .ptr 0 0 0), (5, .ptr 1 0 0), (6, .ptr 2 0 0), (7, .ptr 3 0 0), (8, .d (.int .i64 i')), (9, .d (.int .i64 k')), (10, .d (.int .i64 y)), (11, P), (12, Q)], [(0, some ⟨48, 1, [(regRow a).map .d]⟩), (1, some ⟨48, 1, [(regRow b).map .d]⟩), (2, some ⟨48, 1, [[.nl]]⟩), (3, some ⟨48, 1, [[.hs 4 0 Z.length]]⟩), (4, some ⟨51, 2, dr (Z.map Row.row)⟩)], 5⟩) ?_ key.h
                      rcases hPp with ⟨hP2, _⟩ | hP2
                      · refine weak_of [(0, some 0), (1, some 1), (2, some 2), (3, some 3), (4, some 4)] rfl (by simp [upT, up, upL, push_cast, hQ, hk', hP2]) (by simp [upH, upR, upL, up, push_cast, hQ, hk', hP2]) (by simp [namesOk, push_cast]) (by simp [olds])
                      · refine weak_of [(0, some 0), (1, some 1), (2, some 2), (3, some 3), (4, some 4)] rfl (by simp [upT, up, upL, push_cast, hQ, hk', hP2]) (by simp [upH, upR, upL, up, push_cast, hQ, hk', hP2]) (by simp [namesOk, push_cast]) (by simp [olds])
                    · simp at hb
                · refine Nav.imp ?_
                  apply cut_
                  · intro key
                    rcases hPp with ⟨hP, hp⟩ | hP <;> rcases hQp with ⟨hQ, hq⟩ | hQ
                    · rw [hp, hq] at g1
                      simp only [encRuns, List.map_nil] at g1
                      refine awp_region cx [(3, .p (encRuns r))] fun K hK => ?_
                      simp [push_cast, g1, hP, hQ]
                      repeat (refine And.intro (by clear hK; intros; first | omega | (simp_all; done) | (simp_all <;> omega)) ?_)
                      refine hK _ ?_; clear hK K; refine Nav.imp ?_
                      refine awp_weak (s' := ⟨136, [(0, .d (.int .i64 op)), (4, .ptr 0 0 0), (5, .ptr 1 0 0), (6, .ptr 2 0 0), (7, .ptr 3 0 0), (8, .d (.int .i64 i')), (9, .d (.int .i64 k')), (10, .d (.int .i64 y)), (13, .d (encRuns r))], [(0, some ⟨48, 1, [(regRow a).map .d]⟩), (1, some ⟨48, 1, [(regRow b).map .d]⟩), (2, some ⟨48, 1, [[.nl]]⟩), (3, some ⟨48, 1, [[.hs 4 0 Z.length]]⟩), (4, some ⟨51, 2, dr (Z.map Row.row)⟩)], 5⟩) ?_ key.h
                      refine weak_of [(0, some 0), (1, some 1), (2, some 2), (3, some 3), (4, some 4)] rfl (by simp [upT, up, upL, push_cast]) (by simp [upH, upR, upL, up, push_cast]) (by simp [namesOk, push_cast]) (by simp [olds])
                    · rw [hp] at g1
                      have he : encRuns [] = .sl [] := rfl
                      rw [he] at g1
                      refine awp_region cx [(3, .p (encRuns r))] fun K hK => ?_
                      simp [push_cast, g1, hP, hQ]
                      repeat (refine And.intro (by clear hK; intros; first | omega | (simp_all; done) | (simp_all <;> omega)) ?_)
                      refine hK _ ?_; clear hK K; refine Nav.imp ?_
                      refine awp_weak (s' := ⟨136, [(0, .d (.int .i64 op)), (4, .ptr 0 0 0), (5, .ptr 1 0 0), (6, .ptr 2 0 0), (7, .ptr 3 0 0), (8, .d (.int .i64 i')), (9, .d (.int .i64 k')), (10, .d (.int .i64 y)), (13, .d (encRuns r))], [(0, some ⟨48, 1, [(regRow a).map .d]⟩), (1, some ⟨48, 1, [(regRow b).map .d]⟩), (2, some ⟨48, 1, [[.nl]]⟩), (3, some ⟨48, 1, [[.hs 4 0 Z.length]]⟩), (4, some ⟨51, 2, dr (Z.map Row.row)⟩)], 5⟩) ?_ key.h
                      refine weak_of [(0, some 0), (1, some 1), (2, some 2), (3, some 3), (4, some 4)] rfl (by simp [upT, up, upL, push_cast]) (by simp [upH, upR, upL, up, push_cast]) (by simp [namesOk, push_cast]) (by simp [olds])
                    · rw [hq] at g1
                      have he : encRuns [] = .sl [] := rfl
                      rw [he] at g1
                      refine awp_region cx [(3, .p (encRuns r))] fun K hK => ?_
                      simp [push_cast, g1, hP, hQ]
                      repeat (refine And.intro (by clear hK; intros; first | omega | (simp_all; done) | (simp_all <;> omega)) ?_)
                      refine hK _ ?_; clear hK K; refine Nav.imp ?_
                      refine awp_weak (s' := ⟨136, [(0, .d (.int .i64 op)), (4, .ptr 0 0 0), (5, .ptr 1 0 0), (6, .ptr 2 0 0), (7, .ptr 3 0 0), (8, .d (.int .i64 i')), (9, .d (.int .i64 k')), (10, .d (.int .i64 y)), (13, .d (encRuns r))], [(0, some ⟨48, 1, [(regRow a).map .d]⟩), (1, some ⟨48, 1, [(regRow b).map .d]⟩), (2, some ⟨48, 1, [[.nl]]⟩), (3, some ⟨48, 1, [[.hs 4 0 Z.length]]⟩), (4, some ⟨51, 2, dr (Z.map Row.row)⟩)], 5⟩) ?_ key.h
                      refine weak_of [(0, some 0), (1, some 1), (2, some 2), (3, some 3), (4, some 4)] rfl (by simp [upT, up, upL, push_cast]) (by simp [upH, upR, upL, up, push_cast]) (by simp [namesOk, push_cast]) (by simp [olds])
                    · refine awp_region cx [(3, .p (encRuns r))] fun K hK => ?_
                      simp [push_cast, g1, hP, hQ]
                      repeat (refine And.intro (by clear hK; intros; first | omega | (simp_all; done) | (simp_all <;> omega)) ?_)
                      refine hK _ ?_; clear hK K; refine Nav.imp ?_
                      refine awp_weak (s' := ⟨136, [(0, .d (.int .i64 op)), (4, .ptr 0 0 0), (5, .ptr 1 0 0), (6, .ptr 2 0 0), (7, .ptr 3 0 0), (8, .d (.int .i64 i')), (9, .d (.int .i64 k')), (10, .d (.int .i64 y)), (13, .d (encRuns r))], [(0, some ⟨48, 1, [(regRow a).map .d]⟩), (1, some ⟨48, 1, [(regRow b).map .d]⟩), (2, some ⟨48, 1, [[.nl]]⟩), (3, some ⟨48, 1, [[.hs 4 0 Z.length]]⟩), (4, some ⟨51, 2, dr (Z.map Row.row)⟩)], 5⟩) ?_ key.h
                      refine weak_of [(0, some 0), (1, some 1), (2, some 2), (3, some 3), (4, some 4)] rfl (by simp [upT, up, upL, push_cast]) (by simp [upH, upR, upL, up, push_cast]) (by simp [namesOk, push_cast]) (by simp [olds])
                  · refine Nav.imp ?_
                    refine awp_region cx [] fun K hK => ?_
                    simp [push_cast]
                    repeat (refine And.intro (by clear hK; intros; first | omega | (simp_all; done) | (simp_all <;> omega)) ?_)
                    refine hK _ ?_; clear hK K; refine Nav.imp ?_
                    refine awp_cond (b := decide (0 < (r.length : Int))) (by simp [push_cast]) (fun hb => ?_) (fun hb => ?_) <;> (refine Nav.imp ?_)
                    · have hb : 0 < r.length := by simp at hb; omega
                      have hne : r ≠ [] := List.length_pos_iff.1 hb
                      rw [if_neg hne] at s3
                      refine awp_region cx [] fun K hK => ?_
                      simp [push_cast, hZ32]
                      repeat (refine And.intro (by clear hK; intros; first | omega | (simp_all; done) | (simp_all <;> omega)) ?_)
                      refine hK _ ?_; clear hK K; refine Nav.imp ?_
                      refine ⟨(i', k', Z ++ [⟨y, r⟩]), s3, by (try clear hPs); (try clear hQs); simp only; omega, ?_⟩
                      refine weak_of [(0, some 0), (1, some 1), (2, some 2), (3, some 3), (4, some 14)] rfl (by simp [upT, up, upL, push_cast, Row.row]) (by simp [upH, upR, upL, up, push_cast, Row.row]) (by simp [namesOk, push_cast]) (by simp [olds])
                    · have hb : r = [] := by simpa using hb
                      rw [if_pos hb, List.append_nil] at s3
                      refine ⟨(i', k', Z), s3, by (try clear hPs); (try clear hQs); simp only; omega, ?_⟩
                      refine weak_of [(0, some 0), (1, some 1), (2, some 2), (3, some 3), (4, some 4)] rfl (by simp [upT, up, upL, push_cast, Row.row]) (by simp [upH, upR, upL, up, push_cast, Row.row]) (by simp [namesOk, push_cast]) (by simp [olds])
          · have hi : i = a.length := by omega
            have hk : k = b.length := by omega
            subst hi hk
            have hz := hend Z hat
            subst hz
            refine awp_region cx [] fun K hK => ?_
            simp [push_cast]
            repeat (refine And.intro (by clear hK; intros; first | omega | (simp_all; done) | (simp_all <;> omega)) ?_)
            refine hK _ ?_; clear hK K; refine Nav.imp ?_
            refine awp_cond (b := false) (by simp [push_cast]) (fun hb => ?_) (fun hb => ?_) <;> (refine Nav.imp ?_)
            · simp at hb
            · refine awp_freeze 4 (Z.map Row.row) rfl (by simp [push_cast, Row.row]) fun K hK => ?_
              simp [push_cast, St.fz, fzT, fzH, fzO, fz, fzL, fzR, fzR_dr, fzR_app, fzR_set, fzL_map, Row.row]
              refine hK _ ?_; clear hK K; refine Nav.imp ?_
              refine awp_region cx [] fun K hK => ?_
              simp [push_cast]
              repeat (refine And.intro (by clear hK; intros; first | omega | (simp_all; done) | (simp_all <;> omega)) ?_)
              refine hK _ ?_; clear hK K; refine Nav.imp ?_
              simp [push_cast]
end Go.Proofs.YtlfbjflfbjkbeaaGreat

namespace Go.Proofs.YtlfbjflfbjkbeaaGreat
open Go.Abs

theorem runion_big (a b : List Row) (hA : bigR a) (hB : bigR b) : PC Tryz.prog 69 [.agg (regRow a), .agg (regRow b)] (.p (.agg (regRow (opR fU a b)))) := by
  have c1 := operated_big 0 fU rfl keptU a b hA hB
  generalize opR fU a b = r at *
  refine pc_of_awp cx (fn := Tryz.f69) (c := _) Tryz.func69 rfl rfl (Nat.le_of_ble_eq_true rfl) ?_
  rw [Tryz.ntmps69]; refine Nav.imp ?_
  refine awp_region cx [] fun K hK => ?_
  simp [push_cast]
  repeat (refine And.intro (by clear hK; intros; first | omega | (simp_all; done) | (simp_all <;> omega)) ?_)
  refine hK _ ?_; clear hK K; refine Nav.imp ?_
  refine awp_region cx [(2, .p (.agg (regRow r)))] fun K hK => ?_
  simp [push_cast, c1]
  repeat (refine And.intro (by clear hK; intros; first | omega | (simp_all; done) | (simp_all <;> omega)) ?_)
  refine hK _ ?_; clear hK K; refine Nav.imp ?_
  simp [push_cast]


theorem runion_ok (a b : List Row) (hA : smallR a) (hB : smallR b) : PC Tryz.prog 69 [.agg (regRow a), .agg (regRow b)] (.p (.agg (regRow (opR fU a b)))) := runion_big a b (big_of hA) (big_of hB)



end Go.Proofs.YtlfbjflfbjkbeaaGreat

namespace Go.Proofs.YtlfbjflfbjkbeaaGreat
open Go.Abs

theorem count55_ok (n : Int) : PC Tryz.prog 45 [.int .i64 n] (.p (.bool (cntB n))) := by
  refine pc_of_awp cx (fn := Tryz.f45) (c := _) Tryz.func45 rfl rfl (Nat.le_of_ble_eq_true rfl) ?_
  rw [Tryz.ntmps45]; refine Nav.imp ?_
  refine awp_region cx [] fun K hK => ?_
  simp [push_cast]
  repeat (refine And.intro (by clear hK; intros; first | omega | (simp_all; done) | (simp_all <;> omega)) ?_)
  refine hK _ ?_; clear hK K; refine Nav.imp ?_
  refine awp_region cx [] fun K hK => ?_
  simp [push_cast]
  repeat (refine And.intro (by clear hK; intros; first | omega | (simp_all; done) | (simp_all <;> omega)) ?_)
  refine hK _ ?_; clear hK K; refine Nav.imp ?_
  simp [push_cast, cntB]
theorem inside55_ok (c : Cell) : PC Tryz.prog 49 [.agg c.row] (.p (.bool (onG c))) := by
  refine pc_of_awp cx (fn := Tryz.f49) (c := _) Tryz.func49 rfl rfl (Nat.le_of_ble_eq_true rfl) ?_
  rw [Tryz.ntmps49]; refine Nav.imp ?_
  refine awp_region cx [] fun K hK => ?_
  simp [push_cast]
  repeat (refine And.intro (by clear hK; intros; first | omega | (simp_all; done) | (simp_all <;> omega)) ?_)
  refine hK _ ?_; clear hK K; refine Nav.imp ?_
  refine awp_region cx [] fun K hK => ?_
  simp [push_cast]
  repeat (refine And.intro (by clear hK; intros; first | omega | (simp_all; done) | (simp_all <;> omega)) ?_)
  refine hK _ ?_; clear hK K; refine Nav.imp ?_
  simp [push_cast, onG]
theorem above55_ok (L : List (List Row)) (l : Int) (c : Cell) (hl0 : -1 ≤ l ∧ l ≤ 4611686018427387905) (hL : ∀ R ∈ L, smallR R) (hlen : L.length ≤ 1000) : PC Tryz.prog 27 [encLays L, .int .i64 l, .agg c.row] (.p (.bool (aboveB L (l + 1).toNat c))) := by
  have hs : (((l + 1).toNat : Nat) : Int) = l + 1 := by omega
  generalize (l + 1).toNat = s at *
  generalize hA : aboveB L s c = A at *
  refine pc_of_awp cx (fn := Tryz.f27) (c := _) Tryz.func27 rfl rfl (Nat.le_of_ble_eq_true rfl) ?_
  rw [Tryz.ntmps27]; refine Nav.imp ?_
  refine awp_region cx [] fun K hK => ?_
  simp [push_cast]
  repeat (refine And.intro (by clear hK; intros; first | omega | (simp_all; done) | (simp_all <;> omega)) ?_)
  refine hK _ ?_; clear hK K; refine Nav.imp ?_
  refine awp_region cx [] fun K hK => ?_
  simp [push_cast]
  repeat (refine And.intro (by clear hK; intros; first | omega | (simp_all; done) | (simp_all <;> omega)) ?_)
  refine hK _ ?_; clear hK K; refine Nav.imp ?_
  refine awp_loop (β := Nat) (fun i => ⟨25, [(0, .d (encLays L)), (1, .d (.int .i64 l)), (5, .ptr 0 0 0), (7, .d (.int .i64 i))], [(0, some ⟨57, 2, [c.row.map .d]⟩)], 1⟩) (fun i => i ≤ L.length ∧ A = aboveB L (max s i) c) (fun i => L.length - i) 0 ?_ ⟨Nat.zero_le _, by simp [hA]⟩ ?_
  · refine weak_of [(0, some 0)] rfl (by simp [upT, up, upL, push_cast]) (by simp [upH, upR, upL, up, push_cast]) (by simp [namesOk, push_cast]) (by simp [olds])
  · rintro i ⟨hi, hA2⟩
    refine Nav.imp ?_
    refine awp_region cx [] fun K hK => ?_
    simp [push_cast]
    repeat (refine And.intro (by clear hK; intros; first | omega | (simp_all; done) | (simp_all <;> omega)) ?_)
    refine hK _ ?_; clear hK K; refine Nav.imp ?_
    refine awp_cond (b := decide (i < L.length)) (by simp [push_cast]) (fun hb => ?_) (fun hb => ?_) <;> (refine Nav.imp ?_)
    · have hlt : i < L.length := by simpa using hb
      obtain ⟨R, hR⟩ := getq hlt
      have e0 := wrap_i64 (n := (i : Int) + 1) (by omega) (by omega)
      have c1 := contains18_ok R c (hL R (List.mem_of_getElem? hR))
      by_cases q : l < (i : Int)
      · have hst : aboveB L i c = (conB R c || aboveB L (i + 1) c) := by
          unfold aboveB
          rw [drop_get hR]; rfl
        rw [show max s i = i by omega, hst] at hA2
        cases hc : conB R c with
        | true =>
          rw [hc] at c1 hA2
          simp at hA2
          subst hA2
          refine awp_region_draw cx mixed [(9, .p (.bool true))] fun K hK => ?_
          simp [push_cast, q, hR, c1, Cell.row]
          repeat (refine And.intro (by clear hK; intros; first | omega | (simp_all; done) | (simp_all <;> omega)) ?_)
          refine hK _ _ (by kernel_rfl) ?_; clear hK K; refine Nav.imp ?_
          refine awp_cond (b := true) (by simp [push_cast]) (fun hb => ?_) (fun hb => ?_) <;> (refine Nav.imp ?_)
          · refine awp_region cx [] fun K hK => ?_
            simp [push_cast]
            repeat (refine And.intro (by clear hK; intros; first | omega | (simp_all; done) | (simp_all <;> omega)) ?_)
            refine hK _ ?_; clear hK K; refine Nav.imp ?_
            simp [push_cast]
          · simp at hb
        | false =>
          rw [hc] at c1 hA2
          simp at hA2
          refine awp_region_draw cx mixed [(9, .p (.bool false))] fun K hK => ?_
          simp [push_cast, q, hR, c1, Cell.row]
          repeat (refine And.intro (by clear hK; intros; first | omega | (simp_all; done) | (simp_all <;> omega)) ?_)
          refine hK _ _ (by kernel_rfl) ?_; clear hK K; refine Nav.imp ?_
          refine awp_cond (b := false) (by simp [push_cast]) (fun hb => ?_) (fun hb => ?_) <;> (refine Nav.imp ?_)
          · simp at hb
          · refine awp_region cx [] fun K hK => ?_
            simp [push_cast, e0]
            repeat (refine And.intro (by clear hK; intros; first | omega | (simp_all; done) | (simp_all <;> omega)) ?_)
            refine hK _ ?_; clear hK K; refine Nav.imp ?_
            refine ⟨i + 1, ⟨hlt, by rw [show max s (i + 1) = i + 1 by omega]; exact hA2⟩, by omega, ?_⟩
            refine weak_of [(0, some 0)] rfl (by simp [upT, up, upL, push_cast]) (by simp [upH, upR, upL, up, push_cast]) (by simp [namesOk, push_cast]) (by simp [olds])
      · have q' : decide (l < (i : Int)) = false := by simp; omega
        refine awp_region_draw cx mixed [(9, .skip)] fun K hK => ?_
        simp [push_cast, q', hR, Cell.row]
        repeat (refine And.intro (by clear hK; intros; first | omega | (simp_all; done) | (simp_all <;> omega)) ?_)
        refine hK _ _ (by kernel_rfl) ?_; clear hK K; refine Nav.imp ?_
        refine awp_cond (b := false) (by simp [push_cast]) (fun hb => ?_) (fun hb => ?_) <;> (refine Nav.imp ?_)
        · simp at hb
        · refine awp_region cx [] fun K hK => ?_
          simp [push_cast, e0]
          repeat (refine And.intro (by clear hK; intros; first | omega | (simp_all; done) | (simp_all <;> omega)) ?_)
          refine hK _ ?_; clear hK K; refine Nav.imp ?_
          refine ⟨i + 1, ⟨hlt, by rw [show max s (i + 1) = max s i by omega]; exact hA2⟩, by omega, ?_⟩
          refine weak_of [(0, some 0)] rfl (by simp [upT, up, upL, push_cast]) (by simp [upH, upR, upL, up, push_cast]) (by simp [namesOk, push_cast]) (by simp [olds])
    · have hie : i = L.length := by simp at hb; omega
      subst hie
      have : aboveB L (max s L.length) c = false := by
        unfold aboveB
        rw [List.drop_eq_nil_of_le (by omega)]; rfl
      rw [this] at hA2
      subst hA2
      refine awp_region cx [] fun K hK => ?_
      simp [push_cast]
      repeat (refine And.intro (by clear hK; intros; first | omega | (simp_all; done) | (simp_all <;> omega)) ?_)
      refine hK _ ?_; clear hK K; refine Nav.imp ?_
      simp [push_cast]
set_option maxHeartbeats 4000000 in
theorem valid55_ok (b : Bench) (hL : smallL b.lays) : PC Tryz.prog 24 [.agg b.row] (.p (.bool (validE b))) := by
  obtain ⟨f1, f2, f3⟩ := sound_facts b
  have hv : validE b = (b.lays.all validR && soundB b) := rfl
  obtain ⟨hl, hR⟩ := hL
  generalize soundB b = sb at *
  generalize validE b = vb at *
  have w3 : IntKind.i64.wrap 3 = 3 := by decide
  have w4 : IntKind.i64.wrap 4 = 4 := by decide
  refine pc_of_awp cx (fn := Tryz.f24) (c := _) Tryz.func24 rfl rfl (Nat.le_of_ble_eq_true rfl) ?_
  rw [Tryz.ntmps24]; refine Nav.imp ?_
  refine awp_region cx [] fun K hK => ?_
  simp [push_cast]
  repeat (refine And.intro (by clear hK; intros; first | omega | (simp_all; done) | (simp_all <;> omega)) ?_)
  refine hK _ ?_; clear hK K; refine Nav.imp ?_
  refine awp_region cx [] fun K hK => ?_
  simp [push_cast]
  repeat (refine And.intro (by clear hK; intros; first | omega | (simp_all; done) | (simp_all <;> omega)) ?_)
  refine hK _ ?_; clear hK K; refine Nav.imp ?_
  refine awp_loop (β := Nat) (fun i => ⟨63, [(1, .ptr 0 0 0), (3, .d (.int .i64 i))], [(0, some ⟨30, 22, [b.row.map .d]⟩)], 1⟩) (fun i => i ≤ 4 ∧ ∀ j < i, withB (b.real.at j) 1099511627776 = true) (fun i => 4 - i) 0 ?_ ⟨Nat.zero_le _, by simp⟩ ?_
  · refine weak_of [(0, some 0)] rfl (by simp [upT, up, upL, push_cast]) (by simp [upH, upR, upL, up, push_cast]) (by simp [namesOk, push_cast]) (by simp [olds])
  · rintro i ⟨hi, hall⟩
    rcases (show i = 0 ∨ i = 1 ∨ i = 2 ∨ i = 3 ∨ i = 4 by omega) with rfl | rfl | rfl | rfl | rfl
    · have hw2 : withB b.real.p 1099511627776 = !(decide (b.real.p < -1099511627776) || decide (1099511627776 < b.real.p)) := by rw [Bool.eq_iff_iff]; simp [withB]
      refine Nav.imp ?_
      refine awp_region cx [] fun K hK => ?_
      simp [push_cast]
      repeat (refine And.intro (by clear hK; intros; first | omega | (simp_all; done) | (simp_all <;> omega)) ?_)
      refine hK _ ?_; clear hK K; refine Nav.imp ?_
      refine awp_cond (b := true) (by simp [push_cast]) (fun hb => ?_) (fun hb => ?_) <;> (refine Nav.imp ?_)
      · refine awp_region cx [] fun K hK => ?_
        simp [push_cast]
        repeat (refine And.intro (by clear hK; intros; first | omega | (simp_all; done) | (simp_all <;> omega)) ?_)
        refine hK _ ?_; clear hK K; refine Nav.imp ?_
        refine awp_cond (b := decide (b.real.p < -1099511627776) || decide (1099511627776 < b.real.p)) (by simp [push_cast]) (fun hb => ?_) (fun hb => ?_) <;> (refine Nav.imp ?_)
        · rw [hb] at hw2
          have hf : vb = false := by
            have : sb = false := by
              cases sb
              · rfl
              · have := f1 rfl 0 (by omega)
                simp only [Pos.at] at this
                rw [this] at hw2; cases hw2
            rw [hv, this, Bool.and_false]
          rw [hf]
          refine awp_region cx [] fun K hK => ?_
          simp [push_cast]
          repeat (refine And.intro (by clear hK; intros; first | omega | (simp_all; done) | (simp_all <;> omega)) ?_)
          refine hK _ ?_; clear hK K; refine Nav.imp ?_
          simp [push_cast]
        · rw [hb] at hw2
          refine awp_region cx [] fun K hK => ?_
          simp [push_cast, w3, w4]
          repeat (refine And.intro (by clear hK; intros; first | omega | (simp_all; done) | (simp_all <;> omega)) ?_)
          refine hK _ ?_; clear hK K; refine Nav.imp ?_
          refine ⟨1, ⟨by omega, fun j hj => ?_⟩, by omega, ?_⟩
          · by_cases e : j < 0
            · exact hall j e
            · have : j = 0 := by omega
              subst this
              simpa [Pos.at] using hw2
          · refine weak_of [(0, some 0)] rfl (by simp [upT, up, upL, push_cast]) (by simp [upH, upR, upL, up, push_cast]) (by simp [namesOk, push_cast]) (by simp [olds])
      · simp at hb
    · have hw2 : withB b.real.q 1099511627776 = !(decide (b.real.q < -1099511627776) || decide (1099511627776 < b.real.q)) := by rw [Bool.eq_iff_iff]; simp [withB]
      refine Nav.imp ?_
      refine awp_region cx [] fun K hK => ?_
      simp [push_cast]
      repeat (refine And.intro (by clear hK; intros; first | omega | (simp_all; done) | (simp_all <;> omega)) ?_)
      refine hK _ ?_; clear hK K; refine Nav.imp ?_
      refine awp_cond (b := true) (by simp [push_cast]) (fun hb => ?_) (fun hb => ?_) <;> (refine Nav.imp ?_)
      · refine awp_region cx [] fun K hK => ?_
        simp [push_cast]
        repeat (refine And.intro (by clear hK; intros; first | omega | (simp_all; done) | (simp_all <;> omega)) ?_)
        refine hK _ ?_; clear hK K; refine Nav.imp ?_
        refine awp_cond (b := decide (b.real.q < -1099511627776) || decide (1099511627776 < b.real.q)) (by simp [push_cast]) (fun hb => ?_) (fun hb => ?_) <;> (refine Nav.imp ?_)
        · rw [hb] at hw2
          have hf : vb = false := by
            have : sb = false := by
              cases sb
              · rfl
              · have := f1 rfl 1 (by omega)
                simp only [Pos.at] at this
                rw [this] at hw2; cases hw2
            rw [hv, this, Bool.and_false]
          rw [hf]
          refine awp_region cx [] fun K hK => ?_
          simp [push_cast]
          repeat (refine And.intro (by clear hK; intros; first | omega | (simp_all; done) | (simp_all <;> omega)) ?_)
          refine hK _ ?_; clear hK K; refine Nav.imp ?_
          simp [push_cast]
        · rw [hb] at hw2
          refine awp_region cx [] fun K hK => ?_
          simp [push_cast, w3, w4]
          repeat (refine And.intro (by clear hK; intros; first | omega | (simp_all; done) | (simp_all <;> omega)) ?_)
          refine hK _ ?_; clear hK K; refine Nav.imp ?_
          refine ⟨2, ⟨by omega, fun j hj => ?_⟩, by omega, ?_⟩
          · by_cases e : j < 1
            · exact hall j e
            · have : j = 1 := by omega
              subst this
              simpa [Pos.at] using hw2
          · refine weak_of [(0, some 0)] rfl (by simp [upT, up, upL, push_cast]) (by simp [upH, upR, upL, up, push_cast]) (by simp [namesOk, push_cast]) (by simp [olds])
      · simp at hb
    · have hw2 : withB b.real.r 1099511627776 = !(decide (b.real.r < -1099511627776) || decide (1099511627776 < b.real.r)) := by rw [Bool.eq_iff_iff]; simp [withB]
      refine Nav.imp ?_
      refine awp_region cx [] fun K hK => ?_
      simp [push_cast]
      repeat (refine And.intro (by clear hK; intros; first | omega | (simp_all; done) | (simp_all <;> omega)) ?_)
      refine hK _ ?_; clear hK K; refine Nav.imp ?_
      refine awp_cond (b := true) (by simp [push_cast]) (fun hb => ?_) (fun hb => ?_) <;> (refine Nav.imp ?_)
      · refine awp_region cx [] fun K hK => ?_
        simp [push_cast]
        repeat (refine And.intro (by clear hK; intros; first | omega | (simp_all; done) | (simp_all <;> omega)) ?_)
        refine hK _ ?_; clear hK K; refine Nav.imp ?_
        refine awp_cond (b := decide (b.real.r < -1099511627776) || decide (1099511627776 < b.real.r)) (by simp [push_cast]) (fun hb => ?_) (fun hb => ?_) <;> (refine Nav.imp ?_)
        · rw [hb] at hw2
          have hf : vb = false := by
            have : sb = false := by
              cases sb
              · rfl
              · have := f1 rfl 2 (by omega)
                simp only [Pos.at] at this
                rw [this] at hw2; cases hw2
            rw [hv, this, Bool.and_false]
          rw [hf]
          refine awp_region cx [] fun K hK => ?_
          simp [push_cast]
          repeat (refine And.intro (by clear hK; intros; first | omega | (simp_all; done) | (simp_all <;> omega)) ?_)
          refine hK _ ?_; clear hK K; refine Nav.imp ?_
          simp [push_cast]
        · rw [hb] at hw2
          refine awp_region cx [] fun K hK => ?_
          simp [push_cast, w3, w4]
          repeat (refine And.intro (by clear hK; intros; first | omega | (simp_all; done) | (simp_all <;> omega)) ?_)
          refine hK _ ?_; clear hK K; refine Nav.imp ?_
          refine ⟨3, ⟨by omega, fun j hj => ?_⟩, by omega, ?_⟩
          · by_cases e : j < 2
            · exact hall j e
            · have : j = 2 := by omega
              subst this
              simpa [Pos.at] using hw2
          · refine weak_of [(0, some 0)] rfl (by simp [upT, up, upL, push_cast]) (by simp [upH, upR, upL, up, push_cast]) (by simp [namesOk, push_cast]) (by simp [olds])
      · simp at hb
    · have hw2 : withB b.real.s 1099511627776 = !(decide (b.real.s < -1099511627776) || decide (1099511627776 < b.real.s)) := by rw [Bool.eq_iff_iff]; simp [withB]
      refine Nav.imp ?_
      refine awp_region cx [] fun K hK => ?_
      simp [push_cast]
      repeat (refine And.intro (by clear hK; intros; first | omega | (simp_all; done) | (simp_all <;> omega)) ?_)
      refine hK _ ?_; clear hK K; refine Nav.imp ?_
      refine awp_cond (b := true) (by simp [push_cast]) (fun hb => ?_) (fun hb => ?_) <;> (refine Nav.imp ?_)
      · refine awp_region cx [] fun K hK => ?_
        simp [push_cast]
        repeat (refine And.intro (by clear hK; intros; first | omega | (simp_all; done) | (simp_all <;> omega)) ?_)
        refine hK _ ?_; clear hK K; refine Nav.imp ?_
        refine awp_cond (b := decide (b.real.s < -1099511627776) || decide (1099511627776 < b.real.s)) (by simp [push_cast]) (fun hb => ?_) (fun hb => ?_) <;> (refine Nav.imp ?_)
        · rw [hb] at hw2
          have hf : vb = false := by
            have : sb = false := by
              cases sb
              · rfl
              · have := f1 rfl 3 (by omega)
                simp only [Pos.at] at this
                rw [this] at hw2; cases hw2
            rw [hv, this, Bool.and_false]
          rw [hf]
          refine awp_region cx [] fun K hK => ?_
          simp [push_cast]
          repeat (refine And.intro (by clear hK; intros; first | omega | (simp_all; done) | (simp_all <;> omega)) ?_)
          refine hK _ ?_; clear hK K; refine Nav.imp ?_
          simp [push_cast]
        · rw [hb] at hw2
          refine awp_region cx [] fun K hK => ?_
          simp [push_cast, w3, w4]
          repeat (refine And.intro (by clear hK; intros; first | omega | (simp_all; done) | (simp_all <;> omega)) ?_)
          refine hK _ ?_; clear hK K; refine Nav.imp ?_
          refine ⟨4, ⟨by omega, fun j hj => ?_⟩, by omega, ?_⟩
          · by_cases e : j < 3
            · exact hall j e
            · have : j = 3 := by omega
              subst this
              simpa [Pos.at] using hw2
          · refine weak_of [(0, some 0)] rfl (by simp [upT, up, upL, push_cast]) (by simp [upH, upR, upL, up, push_cast]) (by simp [namesOk, push_cast]) (by simp [olds])
      · simp at hb
    · refine Nav.imp ?_
      refine awp_region cx [] fun K hK => ?_
      simp [push_cast]
      repeat (refine And.intro (by clear hK; intros; first | omega | (simp_all; done) | (simp_all <;> omega)) ?_)
      refine hK _ ?_; clear hK K; refine Nav.imp ?_
      refine awp_cond (b := false) (by simp [push_cast]) (fun hb => ?_) (fun hb => ?_) <;> (refine Nav.imp ?_)
      · simp at hb
      · have k0 := count55_ok b.filament
        have k1 := count55_ok b.drawn
        have k2 := count55_ok b.dry
        have k3 := count55_ok b.hits
        have f2' : sb = true → cntB b.filament = true ∧ cntB b.drawn = true ∧ cntB b.dry = true ∧ cntB b.hits = true := fun h => ⟨f2 h 0 (by omega), f2 h 1 (by omega), f2 h 2 (by omega), f2 h 3 (by omega)⟩
        have f3' : cntB b.filament = true → cntB b.drawn = true → cntB b.dry = true → cntB b.hits = true → sb = decide (b.lays.length ≤ 256) := fun h0 h1 h2 h3 => f3 hall fun j hj => by
          rcases (show j = 0 ∨ j = 1 ∨ j = 2 ∨ j = 3 by omega) with rfl | rfl | rfl | rfl
          · exact h0
          · exact h1
          · exact h2
          · exact h3
        clear f1 f2 f3
        generalize cntB b.filament = a0 at *
        generalize cntB b.drawn = a1 at *
        generalize cntB b.dry = a2 at *
        generalize cntB b.hits = a3 at *
        have bad : (a0 = false ∨ a1 = false ∨ a2 = false ∨ a3 = false) → vb = false := fun h => by
          have : sb = false := by
            cases sb
            · rfl
            · have := f2' rfl
              rcases h with h | h | h | h <;> rw [h] at this <;> simp at this
          rw [hv, this, Bool.and_false]
        cases a0 with
        | false =>
          rw [bad (.inl rfl)]
          refine awp_region cx [(2, .p (.bool false)), (7, .skip), (13, .skip), (19, .skip)] fun K hK => ?_
          simp [push_cast, k0]
          repeat (refine And.intro (by clear hK; intros; first | omega | (simp_all; done) | (simp_all <;> omega)) ?_)
          refine hK _ ?_; clear hK K; refine Nav.imp ?_
          refine awp_cond (b := true) (by simp [push_cast]) (fun hb => ?_) (fun hb => ?_) <;> (refine Nav.imp ?_)
          · refine awp_region cx [] fun K hK => ?_
            simp [push_cast]
            repeat (refine And.intro (by clear hK; intros; first | omega | (simp_all; done) | (simp_all <;> omega)) ?_)
            refine hK _ ?_; clear hK K; refine Nav.imp ?_
            simp [push_cast]
          · simp at hb
        | true =>
        cases a1 with
        | false =>
          rw [bad (.inr (.inl rfl))]
          refine awp_region cx [(2, .p (.bool true)), (7, .p (.bool false)), (13, .skip), (19, .skip)] fun K hK => ?_
          simp [push_cast, k0, k1]
          repeat (refine And.intro (by clear hK; intros; first | omega | (simp_all; done) | (simp_all <;> omega)) ?_)
          refine hK _ ?_; clear hK K; refine Nav.imp ?_
          refine awp_cond (b := true) (by simp [push_cast]) (fun hb => ?_) (fun hb => ?_) <;> (refine Nav.imp ?_)
          · refine awp_region cx [] fun K hK => ?_
            simp [push_cast]
            repeat (refine And.intro (by clear hK; intros; first | omega | (simp_all; done) | (simp_all <;> omega)) ?_)
            refine hK _ ?_; clear hK K; refine Nav.imp ?_
            simp [push_cast]
          · simp at hb
        | true =>
        cases a2 with
        | false =>
          rw [bad (.inr (.inr (.inl rfl)))]
          refine awp_region cx [(2, .p (.bool true)), (7, .p (.bool true)), (13, .p (.bool false)), (19, .skip)] fun K hK => ?_
          simp [push_cast, k0, k1, k2]
          repeat (refine And.intro (by clear hK; intros; first | omega | (simp_all; done) | (simp_all <;> omega)) ?_)
          refine hK _ ?_; clear hK K; refine Nav.imp ?_
          refine awp_cond (b := true) (by simp [push_cast]) (fun hb => ?_) (fun hb => ?_) <;> (refine Nav.imp ?_)
          · refine awp_region cx [] fun K hK => ?_
            simp [push_cast]
            repeat (refine And.intro (by clear hK; intros; first | omega | (simp_all; done) | (simp_all <;> omega)) ?_)
            refine hK _ ?_; clear hK K; refine Nav.imp ?_
            simp [push_cast]
          · simp at hb
        | true =>
        cases a3 with
        | false =>
          rw [bad (.inr (.inr (.inr rfl)))]
          refine awp_region cx [(2, .p (.bool true)), (7, .p (.bool true)), (13, .p (.bool true)), (19, .p (.bool false))] fun K hK => ?_
          simp [push_cast, k0, k1, k2, k3]
          repeat (refine And.intro (by clear hK; intros; first | omega | (simp_all; done) | (simp_all <;> omega)) ?_)
          refine hK _ ?_; clear hK K; refine Nav.imp ?_
          refine awp_cond (b := true) (by simp [push_cast]) (fun hb => ?_) (fun hb => ?_) <;> (refine Nav.imp ?_)
          · refine awp_region cx [] fun K hK => ?_
            simp [push_cast]
            repeat (refine And.intro (by clear hK; intros; first | omega | (simp_all; done) | (simp_all <;> omega)) ?_)
            refine hK _ ?_; clear hK K; refine Nav.imp ?_
            simp [push_cast]
          · simp at hb
        | true =>
        have hsb := f3' rfl rfl rfl rfl
        subst hsb
        refine awp_region cx [(2, .p (.bool true)), (7, .p (.bool true)), (13, .p (.bool true)), (19, .p (.bool true))] fun K hK => ?_
        simp [push_cast, k0, k1, k2, k3]
        repeat (refine And.intro (by clear hK; intros; first | omega | (simp_all; done) | (simp_all <;> omega)) ?_)
        refine hK _ ?_; clear hK K; refine Nav.imp ?_
        refine awp_cond (by simp [push_cast] <;> exact rfl) (fun hb => ?_) (fun hb => ?_) <;> (refine Nav.imp ?_)
        · have hf : vb = false := by
            rw [hv]
            have : decide (b.lays.length ≤ 256) = false := by simp at hb ⊢; omega
            rw [this, Bool.and_false]
          rw [hf]
          refine awp_region cx [] fun K hK => ?_
          simp [push_cast]
          repeat (refine And.intro (by clear hK; intros; first | omega | (simp_all; done) | (simp_all <;> omega)) ?_)
          refine hK _ ?_; clear hK K; refine Nav.imp ?_
          simp [push_cast]
        · have hle : decide (b.lays.length ≤ 256) = true := by simp at hb ⊢; omega
          rw [hle, Bool.and_true] at hv
          refine awp_region cx [] fun K hK => ?_
          simp [push_cast]
          repeat (refine And.intro (by clear hK; intros; first | omega | (simp_all; done) | (simp_all <;> omega)) ?_)
          refine hK _ ?_; clear hK K; refine Nav.imp ?_
          refine awp_loop (β := Nat) (fun i => ⟨63, [(1, .ptr 0 0 0), (4, .d (.int .i64 i))], [(0, some ⟨30, 22, [b.row.map .d]⟩)], 1⟩) (fun i => i ≤ b.lays.length ∧ ∀ (j : Nat) R, j < i → b.lays[j]? = some R → validR R = true) (fun i => b.lays.length - i) 0 ?_ ⟨Nat.zero_le _, by simp⟩ ?_
          · refine weak_of [(0, some 0)] rfl (by simp [upT, up, upL, push_cast]) (by simp [upH, upR, upL, up, push_cast]) (by simp [namesOk, push_cast]) (by simp [olds])
          · rintro i ⟨hi, hall2⟩
            refine Nav.imp ?_
            refine awp_region cx [] fun K hK => ?_
            simp [push_cast]
            repeat (refine And.intro (by clear hK; intros; first | omega | (simp_all; done) | (simp_all <;> omega)) ?_)
            refine hK _ ?_; clear hK K; refine Nav.imp ?_
            refine awp_cond (b := decide (i < b.lays.length)) (by simp [push_cast]) (fun hb => ?_) (fun hb => ?_) <;> (refine Nav.imp ?_)
            · have hlt : i < b.lays.length := by simpa using hb
              obtain ⟨R, hRi⟩ := getq hlt
              have e0 := wrap_i64 (n := (i : Int) + 1) (by omega) (by omega)
              have c2 := validR_ok R (hR R (List.mem_of_getElem? hRi))
              cases hvR : validR R with
              | false =>
                rw [hvR] at c2
                have hf : vb = false := by
                  rw [hv, List.all_eq_false]
                  exact ⟨R, List.mem_of_getElem? hRi, by simp [hvR]⟩
                rw [hf]
                refine awp_region cx [(5, .p (.bool false))] fun K hK => ?_
                simp [push_cast, c2, hRi]
                repeat (refine And.intro (by clear hK; intros; first | omega | (simp_all; done) | (simp_all <;> omega)) ?_)
                refine hK _ ?_; clear hK K; refine Nav.imp ?_
                refine awp_cond (b := true) (by simp [push_cast]) (fun hb => ?_) (fun hb => ?_) <;> (refine Nav.imp ?_)
                · refine awp_region cx [] fun K hK => ?_
                  simp [push_cast]
                  repeat (refine And.intro (by clear hK; intros; first | omega | (simp_all; done) | (simp_all <;> omega)) ?_)
                  refine hK _ ?_; clear hK K; refine Nav.imp ?_
                  simp [push_cast]
                · simp at hb
              | true =>
                rw [hvR] at c2
                refine awp_region cx [(5, .p (.bool true))] fun K hK => ?_
                simp [push_cast, c2, hRi]
                repeat (refine And.intro (by clear hK; intros; first | omega | (simp_all; done) | (simp_all <;> omega)) ?_)
                refine hK _ ?_; clear hK K; refine Nav.imp ?_
                refine awp_cond (b := false) (by simp [push_cast]) (fun hb => ?_) (fun hb => ?_) <;> (refine Nav.imp ?_)
                · simp at hb
                · refine awp_region cx [] fun K hK => ?_
                  simp [push_cast, e0]
                  repeat (refine And.intro (by clear hK; intros; first | omega | (simp_all; done) | (simp_all <;> omega)) ?_)
                  refine hK _ ?_; clear hK K; refine Nav.imp ?_
                  refine ⟨i + 1, ⟨hlt, fun j S hj hS => ?_⟩, by omega, ?_⟩
                  · by_cases e : j < i
                    · exact hall2 j S e hS
                    · have : j = i := by omega
                      subst this
                      rw [hRi] at hS; cases hS; exact hvR
                  · refine weak_of [(0, some 0)] rfl (by simp [upT, up, upL, push_cast]) (by simp [upH, upR, upL, up, push_cast]) (by simp [namesOk, push_cast]) (by simp [olds])
            · have hie : i = b.lays.length := by simp at hb; omega
              have : b.lays.all validR = true := by
                rw [List.all_eq_true]
                intro R hR'
                obtain ⟨j, hj⟩ := List.mem_iff_getElem?.1 hR'
                exact hall2 j R (by have := (List.getElem?_eq_some_iff.1 hj).1; omega) hj
              rw [hv, this]
              refine awp_region cx [] fun K hK => ?_
              simp [push_cast]
              repeat (refine And.intro (by clear hK; intros; first | omega | (simp_all; done) | (simp_all <;> omega)) ?_)
              refine hK _ ?_; clear hK K; refine Nav.imp ?_
              simp [push_cast]
end Go.Proofs.YtlfbjflfbjkbeaaGreat

namespace Go.Proofs.YtlfbjflfbjkbeaaGreat
open Go.Abs

set_option maxHeartbeats 4000000 in
theorem add55_ok (L : List (List Row)) (l : Int) (c : Cell) (h0 : 0 ≤ l ∧ l < 256) (hg : onG c = true) (hL : ∀ R ∈ L, validR R = true) (hl : L.length ≤ 256) : PC Tryz.prog 50 [encLays L, .int .i64 l, .agg c.row] (.p (encLays (layL L l.toNat c))) := by
  obtain ⟨n, rfl⟩ : ∃ n : Nat, l = n := ⟨l.toNat, by omega⟩
  rw [show ((n : Int)).toNat = n by omega]
  generalize hFd : layL L n c = F at *
  have h24 : L.length * 24 ≤ 140737488355328 := by omega
  refine pc_of_awp cx (fn := Tryz.f50) (c := _) Tryz.func50 rfl rfl (Nat.le_of_ble_eq_true rfl) ?_
  rw [Tryz.ntmps50]; refine Nav.imp ?_
  refine awp_region cx [] fun K hK => ?_
  simp [push_cast]
  repeat (refine And.intro (by clear hK; intros; first | omega | (simp_all; done) | (simp_all <;> omega)) ?_)
  refine hK _ ?_; clear hK K; refine Nav.imp ?_
  refine awp_region cx [] fun K hK => ?_
  simp [push_cast, h24]
  repeat (refine And.intro (by clear hK; intros; first | omega | (simp_all; done) | (simp_all <;> omega)) ?_)
  refine hK _ ?_; clear hK K; refine Nav.imp ?_
  refine awp_loop (β := List (List Row) × Nat) (fun s => ⟨37, [(1, .d (.int .i64 n)), (5, .ptr 0 0 0), (7, .hs 1 0 s.1.length)], [(0, some ⟨57, 2, [c.row.map .d]⟩), (1, some ⟨48, 1, dr (s.1.map regRow)⟩)], 2⟩) (fun s => s.1 = L ++ List.replicate s.2 [] ∧ (s.2 = 0 ∨ s.1.length ≤ n + 1)) (fun s => n + 1 - s.1.length) (L, 0) ?_ ⟨by simp, .inl rfl⟩ ?_
  · refine weak_of [(0, some 0), (1, some 4)] rfl (by simp [upT, up, upL, push_cast]) (by simp [upH, upR, upL, up, push_cast]) (by simp [namesOk, push_cast]) (by simp [olds])
  · rintro ⟨M, k⟩ ⟨hM, hk⟩
    simp only at hM hk
    have hMl : M.length ≤ 257 := by
      rcases hk with h | h
      · subst h; rw [hM]; simp; omega
      · omega
    refine Nav.imp ?_
    refine awp_region cx [] fun K hK => ?_
    simp [push_cast]
    repeat (refine And.intro (by clear hK; intros; first | omega | (simp_all; done) | (simp_all <;> omega)) ?_)
    refine hK _ ?_; clear hK K; refine Nav.imp ?_
    refine awp_cond (b := decide (M.length ≤ n)) (by simp [push_cast]) (fun hb => ?_) (fun hb => ?_) <;> (refine Nav.imp ?_)
    · have hlt : M.length ≤ n := by simpa using hb
      have h24 : (M.length + 1) * 24 ≤ 140737488355328 := by omega
      refine awp_region cx [] fun K hK => ?_
      simp [push_cast, h24]
      repeat (refine And.intro (by clear hK; intros; first | omega | (simp_all; done) | (simp_all <;> omega)) ?_)
      refine hK _ ?_; clear hK K; refine Nav.imp ?_
      refine ⟨(M ++ [[]], k + 1), ⟨by simp only; rw [hM, List.append_assoc, ← List.replicate_succ'], .inr (by simp; omega)⟩, by simp; omega, ?_⟩
      refine Weak.trans (weak_den 9 rfl rfl) ?_
      simp [push_cast, den, den_dr]
      refine weak_of [(0, some 0), (1, some 9)] rfl (by simp [upT, up, upL, push_cast]) (by simp [upH, upR, upL, up, push_cast]) (by simp [namesOk, push_cast]) (by simp [olds])
    · have hge : ¬ M.length ≤ n := by simpa using hb
      have c2 := rof_ok [c] (by simp)
      have hD : ofD [c] = .tup [.agg (regRow (ofR [c])), .int .i64 0] := by simp [ofE, hg]
      rw [hD] at c2
      obtain ⟨Q, hQ⟩ := getq (show n < M.length by omega)
      have hQv : validR Q = true := by
        rw [hM] at hQ
        rw [List.getElem?_append] at hQ
        split at hQ
        · exact hL Q (List.mem_of_getElem? hQ)
        · have := List.mem_of_getElem? hQ
          rw [List.mem_replicate] at this
          rw [this.2]; rfl
      have hOv : validR (ofR [c]) = true := (of_set (l := [c]) (by simp) (by simp [hg])).1
      have c3 := runion_ok Q (ofR [c]) (small_valid hQv) (small_valid hOv)
      have hFM : F = M.set n (opR fU Q (ofR [c])) := by
        rw [← hFd]; unfold layL
        have hp : L ++ List.replicate (n + 1 - L.length) [] = M := by
          rw [hM]
          congr 2
          rcases hk with h | h
          · subst h
            rw [hM] at hge
            simp at hge
            omega
          · rw [hM] at h hge
            simp at h hge
            omega
        rw [hp]
        congr 2
        rw [List.getD_eq_getElem?_getD, hQ]; rfl
      generalize ofR [c] = O at *
      generalize opR fU Q O = U at *
      refine awp_region cx [(1, .f (encCells [c])), (2, .p (.tup [.agg (regRow O), .int .i64 0]))] fun K hK => ?_
      simp [push_cast, c2, Cell.row]
      repeat (refine And.intro (by clear hK; intros; first | omega | (simp_all; done) | (simp_all <;> omega)) ?_)
      refine hK _ ?_; clear hK K; refine Nav.imp ?_
      refine awp_region_draw cx mixed [(7, .p (.agg (regRow U)))] fun K hK => ?_
      simp [push_cast, hQ, c3]
      repeat (refine And.intro (by clear hK; intros; first | omega | (simp_all; done) | (simp_all <;> omega)) ?_)
      refine hK _ _ (by kernel_rfl) ?_; clear hK K; refine Nav.imp ?_
      have hFr : dr (F.map regRow) = (dr (M.map regRow)).set n [AV.d (encRows U)] := by
        rw [hFM, List.map_set, dr_set]; rfl
      have hFl : F.length = M.length := by rw [hFM]; simp
      rw [← hFr, ← hFl]
      clear hFr
      refine awp_freeze 1 (F.map regRow) rfl (by simp [push_cast]) fun K hK => ?_
      simp [push_cast, St.fz, fzT, fzH, fzO, fz, fzL, fzR, fzR_dr, fzR_app, fzR_set, fzL_map]
      refine hK _ ?_; clear hK K; refine Nav.imp ?_
      refine awp_region cx [] fun K hK => ?_
      simp [push_cast]
      repeat (refine And.intro (by clear hK; intros; first | omega | (simp_all; done) | (simp_all <;> omega)) ?_)
      refine hK _ ?_; clear hK K; refine Nav.imp ?_
      simp [push_cast]
set_option maxHeartbeats 4000000 in
theorem push55_ok (b : Bench) (c : Cell) (l : Int) (hl0 : -1 ≤ l ∧ l ≤ 4611686018427387905) (hL : ∀ R ∈ b.lays, validR R = true) (hl : b.lays.length ≤ 256) (h1 : 0 ≤ b.filament ∧ b.filament ≤ 1099511627776) (h2 : 0 ≤ b.drawn ∧ b.drawn ≤ 1099511627776) (h3 : 0 ≤ b.dry ∧ b.dry ≤ 1099511627776) :
    PC Tryz.prog 26 [.agg b.row, .agg c.row, .int .i64 l] (.p (.agg (extB b c l 1).row)) := by
  have hE : extB b c l 1 = if 0 < b.drawn then { b with drawn := b.drawn - 1 } else if 0 < b.filament then { b with filament := b.filament - 1, lays := layF b.lays l c } else { b with dry := b.dry + 1 } := rfl
  generalize extB b c l 1 = B at *
  have w1 := wrap_i64 (n := b.drawn - 1) (by omega) (by omega)
  have w2 := wrap_i64 (n := b.filament - 1) (by omega) (by omega)
  have w3 := wrap_i64 (n := b.dry + 1) (by omega) (by omega)
  by_cases q1 : 0 < b.drawn
  · rw [if_pos q1] at hE
    subst hE
    refine pc_of_awp cx (fn := Tryz.f26) (c := _) Tryz.func26 rfl rfl (Nat.le_of_ble_eq_true rfl) ?_
    rw [Tryz.ntmps26]; refine Nav.imp ?_
    refine awp_region cx [] fun K hK => ?_
    simp [push_cast]
    repeat (refine And.intro (by clear hK; intros; first | omega | (simp_all; done) | (simp_all <;> omega)) ?_)
    refine hK _ ?_; clear hK K; refine Nav.imp ?_
    refine awp_region cx [] fun K hK => ?_
    simp [push_cast]
    repeat (refine And.intro (by clear hK; intros; first | omega | (simp_all; done) | (simp_all <;> omega)) ?_)
    refine hK _ ?_; clear hK K; refine Nav.imp ?_
    refine awp_cond (b := true) (by simp [push_cast, q1]) (fun hb => ?_) (fun hb => ?_) <;> (refine Nav.imp ?_)
    · refine awp_region cx [] fun K hK => ?_
      simp [push_cast, w1]
      repeat (refine And.intro (by clear hK; intros; first | omega | (simp_all; done) | (simp_all <;> omega)) ?_)
      refine hK _ ?_; clear hK K; refine Nav.imp ?_
      refine awp_region cx [] fun K hK => ?_
      simp [push_cast]
      repeat (refine And.intro (by clear hK; intros; first | omega | (simp_all; done) | (simp_all <;> omega)) ?_)
      refine hK _ ?_; clear hK K; refine Nav.imp ?_
      simp [push_cast]
    · simp at hb
  rw [if_neg q1] at hE
  have q1' : decide (0 < b.drawn) = false := by simp; omega
  by_cases q2 : 0 < b.filament
  · rw [if_pos q2] at hE
    have q2' : decide (b.filament < 1) = false := by simp; omega
    have c1 := inside55_ok c
    have hF : layF b.lays l c = if layOk l c then layL b.lays l.toNat c else b.lays := rfl
    have hok : layOk l c = (decide (0 ≤ l) && decide (l < 256) && onG c) := rfl
    have c2 := fun h0 hg => add55_ok b.lays l c h0 hg hL hl
    generalize layF b.lays l c = F at *
    generalize onG c = og at *
    refine pc_of_awp cx (fn := Tryz.f26) (c := _) Tryz.func26 rfl rfl (Nat.le_of_ble_eq_true rfl) ?_
    rw [Tryz.ntmps26]; refine Nav.imp ?_
    refine awp_region cx [] fun K hK => ?_
    simp [push_cast]
    repeat (refine And.intro (by clear hK; intros; first | omega | (simp_all; done) | (simp_all <;> omega)) ?_)
    refine hK _ ?_; clear hK K; refine Nav.imp ?_
    refine awp_region cx [] fun K hK => ?_
    simp [push_cast]
    repeat (refine And.intro (by clear hK; intros; first | omega | (simp_all; done) | (simp_all <;> omega)) ?_)
    refine hK _ ?_; clear hK K; refine Nav.imp ?_
    refine awp_cond (b := false) (by simp [push_cast, q1']) (fun hb => ?_) (fun hb => ?_) <;> (refine Nav.imp ?_)
    · simp at hb
    · refine awp_region cx [] fun K hK => ?_
      simp [push_cast]
      repeat (refine And.intro (by clear hK; intros; first | omega | (simp_all; done) | (simp_all <;> omega)) ?_)
      refine hK _ ?_; clear hK K; refine Nav.imp ?_
      refine awp_cond (b := false) (by simp [push_cast, q2']) (fun hb => ?_) (fun hb => ?_) <;> (refine Nav.imp ?_)
      · simp at hb
      · refine awp_region cx [] fun K hK => ?_
        simp [push_cast, w2]
        repeat (refine And.intro (by clear hK; intros; first | omega | (simp_all; done) | (simp_all <;> omega)) ?_)
        refine hK _ ?_; clear hK K; refine Nav.imp ?_
        cases hk : layOk l c with
        | true =>
          rw [hk] at hF hok
          simp only [if_true] at hF
          have hk2 := hok.symm
          simp only [Bool.and_eq_true, decide_eq_true_eq] at hk2
          obtain ⟨⟨k1, k2⟩, k3⟩ := hk2
          have c3 := c2 ⟨k1, k2⟩ k3
          rw [← hF] at c3
          clear c2 hok
          subst k3
          subst hE
          refine awp_region cx [(8, .p (.bool true))] fun K hK => ?_
          simp [push_cast, c1, k1, k2, Cell.row]
          repeat (refine And.intro (by clear hK; intros; first | omega | (simp_all; done) | (simp_all <;> omega)) ?_)
          refine hK _ ?_; clear hK K; refine Nav.imp ?_
          refine awp_cond (b := true) (by simp [push_cast]) (fun hb => ?_) (fun hb => ?_) <;> (refine Nav.imp ?_)
          · refine awp_region cx [(4, .p (encLays F))] fun K hK => ?_
            simp [push_cast, c3, Cell.row]
            repeat (refine And.intro (by clear hK; intros; first | omega | (simp_all; done) | (simp_all <;> omega)) ?_)
            refine hK _ ?_; clear hK K; refine Nav.imp ?_
            refine awp_region cx [] fun K hK => ?_
            simp [push_cast]
            repeat (refine And.intro (by clear hK; intros; first | omega | (simp_all; done) | (simp_all <;> omega)) ?_)
            refine hK _ ?_; clear hK K; refine Nav.imp ?_
            simp [push_cast]
          · simp at hb
        | false =>
          rw [hk] at hF hok
          simp only [Bool.false_eq_true, if_false] at hF
          subst hE
          subst hF
          clear c2
          by_cases k1 : 0 ≤ l ∧ l < 256
          · have : og = false := by
              obtain ⟨k1, k2⟩ := k1
              simpa [k1, k2] using hok.symm
            subst this
            obtain ⟨k1, k2⟩ := k1
            refine awp_region cx [(8, .p (.bool false))] fun K hK => ?_
            simp [push_cast, c1, k1, k2, Cell.row]
            repeat (refine And.intro (by clear hK; intros; first | omega | (simp_all; done) | (simp_all <;> omega)) ?_)
            refine hK _ ?_; clear hK K; refine Nav.imp ?_
            refine awp_cond (b := false) (by simp [push_cast]) (fun hb => ?_) (fun hb => ?_) <;> (refine Nav.imp ?_)
            · simp at hb
            · refine awp_region cx [] fun K hK => ?_
              simp [push_cast]
              repeat (refine And.intro (by clear hK; intros; first | omega | (simp_all; done) | (simp_all <;> omega)) ?_)
              refine hK _ ?_; clear hK K; refine Nav.imp ?_
              simp [push_cast]
          · have k2 : (decide (0 ≤ l) && decide (l < 256)) = false := by
              rw [Bool.and_eq_false_iff]
              simp; omega
            refine awp_region cx [(8, .skip)] fun K hK => ?_
            simp [push_cast, k2, Cell.row]
            repeat (refine And.intro (by clear hK; intros; first | omega | (simp_all; done) | (simp_all <;> omega)) ?_)
            refine hK _ ?_; clear hK K; refine Nav.imp ?_
            refine awp_cond (b := false) (by simp [push_cast, k2]) (fun hb => ?_) (fun hb => ?_) <;> (refine Nav.imp ?_)
            · simp at hb
            · refine awp_region cx [] fun K hK => ?_
              simp [push_cast]
              repeat (refine And.intro (by clear hK; intros; first | omega | (simp_all; done) | (simp_all <;> omega)) ?_)
              refine hK _ ?_; clear hK K; refine Nav.imp ?_
              simp [push_cast]
  · rw [if_neg q2] at hE
    subst hE
    have q2' : b.filament < 1 := by omega
    refine pc_of_awp cx (fn := Tryz.f26) (c := _) Tryz.func26 rfl rfl (Nat.le_of_ble_eq_true rfl) ?_
    rw [Tryz.ntmps26]; refine Nav.imp ?_
    refine awp_region cx [] fun K hK => ?_
    simp [push_cast]
    repeat (refine And.intro (by clear hK; intros; first | omega | (simp_all; done) | (simp_all <;> omega)) ?_)
    refine hK _ ?_; clear hK K; refine Nav.imp ?_
    refine awp_region cx [] fun K hK => ?_
    simp [push_cast]
    repeat (refine And.intro (by clear hK; intros; first | omega | (simp_all; done) | (simp_all <;> omega)) ?_)
    refine hK _ ?_; clear hK K; refine Nav.imp ?_
    refine awp_cond (b := false) (by simp [push_cast, q1']) (fun hb => ?_) (fun hb => ?_) <;> (refine Nav.imp ?_)
    · simp at hb
    · refine awp_region cx [] fun K hK => ?_
      simp [push_cast]
      repeat (refine And.intro (by clear hK; intros; first | omega | (simp_all; done) | (simp_all <;> omega)) ?_)
      refine hK _ ?_; clear hK K; refine Nav.imp ?_
      refine awp_cond (b := true) (by simp [push_cast, q2']) (fun hb => ?_) (fun hb => ?_) <;> (refine Nav.imp ?_)
      · refine awp_region cx [] fun K hK => ?_
        simp [push_cast, w3]
        repeat (refine And.intro (by clear hK; intros; first | omega | (simp_all; done) | (simp_all <;> omega)) ?_)
        refine hK _ ?_; clear hK K; refine Nav.imp ?_
        refine awp_region cx [] fun K hK => ?_
        simp [push_cast]
        repeat (refine And.intro (by clear hK; intros; first | omega | (simp_all; done) | (simp_all <;> omega)) ?_)
        refine hK _ ?_; clear hK K; refine Nav.imp ?_
        simp [push_cast]
      · simp at hb
end Go.Proofs.YtlfbjflfbjkbeaaGreat

namespace Go.Proofs.YtlfbjflfbjkbeaaGreat
open Go.Abs

theorem run_of {f : Nat} {ds : List D} (h : hasT Tryz.prog (f + 2) 70 ds) : ∃ c : Run, ds = c.row := by
  obtain ⟨hl, hp⟩ := hasT_struct (n := 2) (ts := [3, 3]) Tryz.underlying70 (by kernel_rfl) rfl (by kernel_rfl) h
  obtain ⟨d0, r0, e0, h0, hp0⟩ := parts_one (by kernel_rfl) hp (by simp_all <;> omega)
  subst e0
  obtain ⟨d1, r1, e1, h1, hp1⟩ := parts_one (by kernel_rfl) hp0 (by simp_all <;> omega)
  subst e1
  simp only [parts] at hp1
  subst hp1
  obtain ⟨n0, e0, w0⟩ := hasT_int Tryz.underlying3 h0
  cases e0
  obtain ⟨n1, e1, w1⟩ := hasT_int Tryz.underlying3 h1
  cases e1
  exact ⟨⟨n0, n1⟩, rfl⟩
theorem runs_of {f : Nat} {d : D} (h : hasT Tryz.prog (f + 3) 49 [d]) : ∃ l : List Run, d = encRuns l := by
  obtain ⟨rows, he, _, hr⟩ := hasT_slice Tryz.underlying49 h
  cases he
  obtain ⟨l, rfl⟩ := rows_of (row := Run.row) fun r hr' => run_of (hr r hr')
  exact ⟨l, rfl⟩
theorem regrows_of {f : Nat} {d : D} (h : hasT Tryz.prog (f + 5) 46 [d]) : ∃ l : List Row, d = encRows l := by
  obtain ⟨rows, he, _, hr⟩ := hasT_slice Tryz.underlying46 h
  cases he
  obtain ⟨l, rfl⟩ := rows_of (row := Row.row) fun r hr' => by
    obtain ⟨hl, hp⟩ := hasT_struct (n := 2) (ts := [3, 49]) Tryz.underlying51 (by kernel_rfl) rfl (by kernel_rfl) (hr r hr')
    obtain ⟨d0, r0, e0, h0, hp0⟩ := parts_one (by kernel_rfl) hp (by simp_all <;> omega)
    subst e0
    obtain ⟨d1, r1, e1, h1, hp1⟩ := parts_one (by kernel_rfl) hp0 (by simp_all <;> omega)
    subst e1
    simp only [parts] at hp1
    subst hp1
    obtain ⟨n0, e0, w0⟩ := hasT_int Tryz.underlying3 h0
    cases e0
    obtain ⟨c, rfl⟩ := runs_of h1
    exact ⟨⟨n0, c⟩, rfl⟩
  exact ⟨l, rfl⟩
theorem region_of {f : Nat} {ds : List D} (h : hasT Tryz.prog (f + 6) 48 ds) : ∃ l : List Row, ds = regRow l := by
  obtain ⟨hl, hp⟩ := hasT_struct (n := 1) (ts := [46]) Tryz.underlying48 (by kernel_rfl) rfl (by kernel_rfl) h
  obtain ⟨d0, r0, e0, h0, hp0⟩ := parts_one (by kernel_rfl) hp (by simp_all <;> omega)
  subst e0
  simp only [parts] at hp0
  subst hp0
  obtain ⟨c, rfl⟩ := regrows_of h0
  exact ⟨c, rfl⟩

theorem own : ownKnob Tryz.prog.godebug = none := by kernel_rfl
theorem laidOut : laidOutB Tryz.prog = true := by kernel_rfl
def zeroCell : Value := .agg #[.int .i64 0, .int .i64 0]
def zeroReg : Value := .agg #[.slice none 0 0]
end Go.Proofs.YtlfbjflfbjkbeaaGreat
