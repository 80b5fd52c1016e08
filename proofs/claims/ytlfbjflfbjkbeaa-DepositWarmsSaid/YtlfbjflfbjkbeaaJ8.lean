/-
  Texts of this seat put together: P10, P11, L0, P12, P13, P14, XC, P22, P15, P20, P16, P18.
-/
import Derived.Test.YtlfbjflfbjkbeaaJ7
import Derived.Test.YtlfbjflfbjkbeaaJ4
import Derived.Test.YtlfbjflfbjkbeaaJ3
import Derived.Test.YtlfbjflfbjkbeaaJ5
import Derived.Test.YtlfbjflfbjkbeaaJ6
import Derived.Test.YtlfbjflfbjkbeaaChecked
set_option linter.unusedVariables false
set_option linter.unusedSimpArgs false
set_option maxRecDepth 100000
namespace Go.Proofs.Ytlfbjflfbjkbeaa
open Go.Abs

def Bench.cnts (b : Bench) : Pos := ⟨b.filament, b.drawn, b.dry, b.hits⟩
def realB (x : Pos) : Bool := withB x.p 1099511627776 && withB x.q 1099511627776 && withB x.r 1099511627776 && withB x.s 1099511627776
def cntsB (x : Pos) : Bool := cntB x.p && cntB x.q && cntB x.r && cntB x.s
theorem four_iff {f : Int → Bool} {x : Pos} : (f x.p && f x.q && f x.r && f x.s) = true ↔ ∀ j < 4, f (x.at j) = true := by
  constructor
  · intro h j hj
    simp only [Bool.and_eq_true] at h
    rcases (show j = 0 ∨ j = 1 ∨ j = 2 ∨ j = 3 by omega) with rfl | rfl | rfl | rfl <;> simp [Pos.at, h]
  · intro h
    have h0 := h 0 (by omega)
    have h1 := h 1 (by omega)
    have h3 := h 2 (by omega)
    have h4 := h 3 (by omega)
    simp only [Pos.at] at h0 h1 h3 h4
    simp [h0, h1, h3, h4]
def soundB (b : Bench) : Bool := realB b.real && cntsB b.cnts && decide (b.lays.length ≤ 256)
def validE (b : Bench) : Bool := b.lays.all validR && soundB b
theorem sound_facts (b : Bench) : (soundB b = true → ∀ j < 4, withB (b.real.at j) 1099511627776 = true) ∧ (soundB b = true → ∀ j < 4, cntB (b.cnts.at j) = true) ∧ ((∀ j < 4, withB (b.real.at j) 1099511627776 = true) → (∀ j < 4, cntB (b.cnts.at j) = true) → soundB b = decide (b.lays.length ≤ 256)) := by
  have h1 : realB b.real = true ↔ _ := four_iff (f := fun n => withB n 1099511627776)
  have h2 : cntsB b.cnts = true ↔ _ := four_iff (f := cntB)
  refine ⟨fun h => ?_, fun h => ?_, fun a c => ?_⟩
  · simp only [soundB, Bool.and_eq_true] at h; exact h1.1 h.1.1
  · simp only [soundB, Bool.and_eq_true] at h; exact h2.1 h.1.2
  · simp only [soundB, h1.2 a, h2.2 c, Bool.true_and]
set_option maxHeartbeats 4000000 in
theorem sound_ok (b : Bench) (hl : b.lays.length ≤ 1000) : PC Try.prog 32 [.agg b.row] (.p (.bool (soundB b))) := by
  obtain ⟨f1, f2, f3⟩ := sound_facts b
  generalize soundB b = sb at *
  have w3 : IntKind.i64.wrap 3 = 3 := by decide
  have w4 : IntKind.i64.wrap 4 = 4 := by decide
  refine pc_of_awp cx (fn := Try.f32) (c := _) Try.func32 rfl rfl (Nat.le_of_ble_eq_true rfl) ?_
  rw [Try.ntmps32]; refine Nav.imp ?_
  refine awp_region cx [] fun K hK => ?_
  simp [push_cast]
  repeat (refine And.intro (by clear hK; intros; first | omega | (simp_all; done) | (simp_all <;> omega)) ?_)
  refine hK _ ?_; clear hK K; refine Nav.imp ?_
  refine awp_region cx [] fun K hK => ?_
  simp [push_cast]
  repeat (refine And.intro (by clear hK; intros; first | omega | (simp_all; done) | (simp_all <;> omega)) ?_)
  refine hK _ ?_; clear hK K; refine Nav.imp ?_
  refine awp_loop (β := Nat) (fun i => ⟨42, [(1, .ptr 0 0 0), (8, .d (.agg b.real.row)), (9, .d (.int .i64 i))], [(0, some ⟨43, 22, [b.row.map .d]⟩)], 1⟩) (fun i => i ≤ 4 ∧ ∀ j < i, withB (b.real.at j) 1099511627776 = true) (fun i => 4 - i) 0 ?_ ⟨Nat.zero_le _, by simp⟩ ?_
  · refine weak_of [(0, some 0)] rfl (by simp [upT, up, upL, push_cast]) (by simp [upH, upR, upL, up, push_cast]) (by simp [namesOk, push_cast]) (by simp [olds])
  · rintro i ⟨hi, hall⟩
    rcases (show i = 0 ∨ i = 1 ∨ i = 2 ∨ i = 3 ∨ i = 4 by omega) with rfl | rfl | rfl | rfl | rfl
    · have hw2 : withB b.real.p 1099511627776 = !(decide (b.real.p < -1099511627776) || decide (1099511627776 < b.real.p)) := by rw [Bool.eq_iff_iff]; simp [withB]
      refine Nav.imp ?_
      refine awp_region cx [] fun K hK => ?_
      simp [push_cast]
      repeat (refine And.intro (by clear hK; intros; first | omega | (simp_all; done) | (simp_all <;> omega)) ?_)
      refine hK _ ?_; clear hK K; refine Nav.imp ?_
      refine awp_cond (b := true) (by simp [push_cast]) (fun hb => ?_) (fun hb => ?_) <;> (refine Nav.imp ?_)
      · refine awp_region cx [] fun K hK => ?_
        simp [push_cast]
        repeat (refine And.intro (by clear hK; intros; first | omega | (simp_all; done) | (simp_all <;> omega)) ?_)
        refine hK _ ?_; clear hK K; refine Nav.imp ?_
        refine awp_region cx [] fun K hK => ?_
        simp [push_cast]
        repeat (refine And.intro (by clear hK; intros; first | omega | (simp_all; done) | (simp_all <;> omega)) ?_)
        refine hK _ ?_; clear hK K; refine Nav.imp ?_
        refine awp_cond (b := decide (b.real.p < -1099511627776) || decide (1099511627776 < b.real.p)) (by simp [push_cast]) (fun hb => ?_) (fun hb => ?_) <;> (refine Nav.imp ?_)
        · rw [hb] at hw2
          have hf : sb = false := by
            cases sb
            · rfl
            · have := f1 rfl 0 (by omega)
              simp only [Pos.at] at this
              rw [this] at hw2; cases hw2
          rw [hf]
          refine awp_region cx [] fun K hK => ?_
          simp [push_cast]
          repeat (refine And.intro (by clear hK; intros; first | omega | (simp_all; done) | (simp_all <;> omega)) ?_)
          refine hK _ ?_; clear hK K; refine Nav.imp ?_
          simp [push_cast]
        · rw [hb] at hw2
          refine awp_region cx [] fun K hK => ?_
          simp [push_cast, w3, w4]
          repeat (refine And.intro (by clear hK; intros; first | omega | (simp_all; done) | (simp_all <;> omega)) ?_)
          refine hK _ ?_; clear hK K; refine Nav.imp ?_
          refine ⟨1, ⟨by omega, fun j hj => ?_⟩, by omega, ?_⟩
          · by_cases e : j < 0
            · exact hall j e
            · have : j = 0 := by omega
              subst this
              simpa [Pos.at] using hw2
          · refine weak_of [(0, some 0)] rfl (by simp [upT, up, upL, push_cast]) (by simp [upH, upR, upL, up, push_cast]) (by simp [namesOk, push_cast]) (by simp [olds])
      · simp at hb
    · have hw2 : withB b.real.q 1099511627776 = !(decide (b.real.q < -1099511627776) || decide (1099511627776 < b.real.q)) := by rw [Bool.eq_iff_iff]; simp [withB]
      refine Nav.imp ?_
      refine awp_region cx [] fun K hK => ?_
      simp [push_cast]
      repeat (refine And.intro (by clear hK; intros; first | omega | (simp_all; done) | (simp_all <;> omega)) ?_)
      refine hK _ ?_; clear hK K; refine Nav.imp ?_
      refine awp_cond (b := true) (by simp [push_cast]) (fun hb => ?_) (fun hb => ?_) <;> (refine Nav.imp ?_)
      · refine awp_region cx [] fun K hK => ?_
        simp [push_cast]
        repeat (refine And.intro (by clear hK; intros; first | omega | (simp_all; done) | (simp_all <;> omega)) ?_)
        refine hK _ ?_; clear hK K; refine Nav.imp ?_
        refine awp_region cx [] fun K hK => ?_
        simp [push_cast]
        repeat (refine And.intro (by clear hK; intros; first | omega | (simp_all; done) | (simp_all <;> omega)) ?_)
        refine hK _ ?_; clear hK K; refine Nav.imp ?_
        refine awp_cond (b := decide (b.real.q < -1099511627776) || decide (1099511627776 < b.real.q)) (by simp [push_cast]) (fun hb => ?_) (fun hb => ?_) <;> (refine Nav.imp ?_)
        · rw [hb] at hw2
          have hf : sb = false := by
            cases sb
            · rfl
            · have := f1 rfl 1 (by omega)
              simp only [Pos.at] at this
              rw [this] at hw2; cases hw2
          rw [hf]
          refine awp_region cx [] fun K hK => ?_
          simp [push_cast]
          repeat (refine And.intro (by clear hK; intros; first | omega | (simp_all; done) | (simp_all <;> omega)) ?_)
          refine hK _ ?_; clear hK K; refine Nav.imp ?_
          simp [push_cast]
        · rw [hb] at hw2
          refine awp_region cx [] fun K hK => ?_
          simp [push_cast, w3, w4]
          repeat (refine And.intro (by clear hK; intros; first | omega | (simp_all; done) | (simp_all <;> omega)) ?_)
          refine hK _ ?_; clear hK K; refine Nav.imp ?_
          refine ⟨2, ⟨by omega, fun j hj => ?_⟩, by omega, ?_⟩
          · by_cases e : j < 1
            · exact hall j e
            · have : j = 1 := by omega
              subst this
              simpa [Pos.at] using hw2
          · refine weak_of [(0, some 0)] rfl (by simp [upT, up, upL, push_cast]) (by simp [upH, upR, upL, up, push_cast]) (by simp [namesOk, push_cast]) (by simp [olds])
      · simp at hb
    · have hw2 : withB b.real.r 1099511627776 = !(decide (b.real.r < -1099511627776) || decide (1099511627776 < b.real.r)) := by rw [Bool.eq_iff_iff]; simp [withB]
      refine Nav.imp ?_
      refine awp_region cx [] fun K hK => ?_
      simp [push_cast]
      repeat (refine And.intro (by clear hK; intros; first | omega | (simp_all; done) | (simp_all <;> omega)) ?_)
      refine hK _ ?_; clear hK K; refine Nav.imp ?_
      refine awp_cond (b := true) (by simp [push_cast]) (fun hb => ?_) (fun hb => ?_) <;> (refine Nav.imp ?_)
      · refine awp_region cx [] fun K hK => ?_
        simp [push_cast]
        repeat (refine And.intro (by clear hK; intros; first | omega | (simp_all; done) | (simp_all <;> omega)) ?_)
        refine hK _ ?_; clear hK K; refine Nav.imp ?_
        refine awp_region cx [] fun K hK => ?_
        simp [push_cast]
        repeat (refine And.intro (by clear hK; intros; first | omega | (simp_all; done) | (simp_all <;> omega)) ?_)
        refine hK _ ?_; clear hK K; refine Nav.imp ?_
        refine awp_cond (b := decide (b.real.r < -1099511627776) || decide (1099511627776 < b.real.r)) (by simp [push_cast]) (fun hb => ?_) (fun hb => ?_) <;> (refine Nav.imp ?_)
        · rw [hb] at hw2
          have hf : sb = false := by
            cases sb
            · rfl
            · have := f1 rfl 2 (by omega)
              simp only [Pos.at] at this
              rw [this] at hw2; cases hw2
          rw [hf]
          refine awp_region cx [] fun K hK => ?_
          simp [push_cast]
          repeat (refine And.intro (by clear hK; intros; first | omega | (simp_all; done) | (simp_all <;> omega)) ?_)
          refine hK _ ?_; clear hK K; refine Nav.imp ?_
          simp [push_cast]
        · rw [hb] at hw2
          refine awp_region cx [] fun K hK => ?_
          simp [push_cast, w3, w4]
          repeat (refine And.intro (by clear hK; intros; first | omega | (simp_all; done) | (simp_all <;> omega)) ?_)
          refine hK _ ?_; clear hK K; refine Nav.imp ?_
          refine ⟨3, ⟨by omega, fun j hj => ?_⟩, by omega, ?_⟩
          · by_cases e : j < 2
            · exact hall j e
            · have : j = 2 := by omega
              subst this
              simpa [Pos.at] using hw2
          · refine weak_of [(0, some 0)] rfl (by simp [upT, up, upL, push_cast]) (by simp [upH, upR, upL, up, push_cast]) (by simp [namesOk, push_cast]) (by simp [olds])
      · simp at hb
    · have hw2 : withB b.real.s 1099511627776 = !(decide (b.real.s < -1099511627776) || decide (1099511627776 < b.real.s)) := by rw [Bool.eq_iff_iff]; simp [withB]
      refine Nav.imp ?_
      refine awp_region cx [] fun K hK => ?_
      simp [push_cast]
      repeat (refine And.intro (by clear hK; intros; first | omega | (simp_all; done) | (simp_all <;> omega)) ?_)
      refine hK _ ?_; clear hK K; refine Nav.imp ?_
      refine awp_cond (b := true) (by simp [push_cast]) (fun hb => ?_) (fun hb => ?_) <;> (refine Nav.imp ?_)
      · refine awp_region cx [] fun K hK => ?_
        simp [push_cast]
        repeat (refine And.intro (by clear hK; intros; first | omega | (simp_all; done) | (simp_all <;> omega)) ?_)
        refine hK _ ?_; clear hK K; refine Nav.imp ?_
        refine awp_region cx [] fun K hK => ?_
        simp [push_cast]
        repeat (refine And.intro (by clear hK; intros; first | omega | (simp_all; done) | (simp_all <;> omega)) ?_)
        refine hK _ ?_; clear hK K; refine Nav.imp ?_
        refine awp_cond (b := decide (b.real.s < -1099511627776) || decide (1099511627776 < b.real.s)) (by simp [push_cast]) (fun hb => ?_) (fun hb => ?_) <;> (refine Nav.imp ?_)
        · rw [hb] at hw2
          have hf : sb = false := by
            cases sb
            · rfl
            · have := f1 rfl 3 (by omega)
              simp only [Pos.at] at this
              rw [this] at hw2; cases hw2
          rw [hf]
          refine awp_region cx [] fun K hK => ?_
          simp [push_cast]
          repeat (refine And.intro (by clear hK; intros; first | omega | (simp_all; done) | (simp_all <;> omega)) ?_)
          refine hK _ ?_; clear hK K; refine Nav.imp ?_
          simp [push_cast]
        · rw [hb] at hw2
          refine awp_region cx [] fun K hK => ?_
          simp [push_cast, w3, w4]
          repeat (refine And.intro (by clear hK; intros; first | omega | (simp_all; done) | (simp_all <;> omega)) ?_)
          refine hK _ ?_; clear hK K; refine Nav.imp ?_
          refine ⟨4, ⟨by omega, fun j hj => ?_⟩, by omega, ?_⟩
          · by_cases e : j < 3
            · exact hall j e
            · have : j = 3 := by omega
              subst this
              simpa [Pos.at] using hw2
          · refine weak_of [(0, some 0)] rfl (by simp [upT, up, upL, push_cast]) (by simp [upH, upR, upL, up, push_cast]) (by simp [namesOk, push_cast]) (by simp [olds])
      · simp at hb
    · refine Nav.imp ?_
      refine awp_region cx [] fun K hK => ?_
      simp [push_cast]
      repeat (refine And.intro (by clear hK; intros; first | omega | (simp_all; done) | (simp_all <;> omega)) ?_)
      refine hK _ ?_; clear hK K; refine Nav.imp ?_
      refine awp_cond (b := false) (by simp [push_cast]) (fun hb => ?_) (fun hb => ?_) <;> (refine Nav.imp ?_)
      · simp at hb
      · refine awp_region cx [] fun K hK => ?_
        simp [push_cast]
        repeat (refine And.intro (by clear hK; intros; first | omega | (simp_all; done) | (simp_all <;> omega)) ?_)
        refine hK _ ?_; clear hK K; refine Nav.imp ?_
        refine awp_loop (β := Nat) (fun i => ⟨42, [(1, .ptr 0 0 0), (27, .d (.agg b.cnts.row)), (28, .d (.int .i64 i))], [(0, some ⟨43, 22, [b.row.map .d]⟩)], 1⟩) (fun i => i ≤ 4 ∧ ∀ j < i, cntB (b.cnts.at j) = true) (fun i => 4 - i) 0 ?_ ⟨Nat.zero_le _, by simp⟩ ?_
        · refine weak_of [(0, some 0)] rfl (by simp [upT, up, upL, push_cast, Bench.cnts]) (by simp [upH, upR, upL, up, push_cast, Bench.cnts]) (by simp [namesOk, push_cast]) (by simp [olds])
        · rintro i ⟨hi, hall2⟩
          rcases (show i = 0 ∨ i = 1 ∨ i = 2 ∨ i = 3 ∨ i = 4 by omega) with rfl | rfl | rfl | rfl | rfl
          · have hw2 : cntB b.cnts.p = !(decide (b.cnts.p < 0) || decide (1099511627776 < b.cnts.p)) := by rw [Bool.eq_iff_iff]; simp [cntB]
            refine Nav.imp ?_
            refine awp_region cx [] fun K hK => ?_
            simp [push_cast]
            repeat (refine And.intro (by clear hK; intros; first | omega | (simp_all; done) | (simp_all <;> omega)) ?_)
            refine hK _ ?_; clear hK K; refine Nav.imp ?_
            refine awp_cond (b := true) (by simp [push_cast]) (fun hb => ?_) (fun hb => ?_) <;> (refine Nav.imp ?_)
            · refine awp_region cx [] fun K hK => ?_
              simp [push_cast]
              repeat (refine And.intro (by clear hK; intros; first | omega | (simp_all; done) | (simp_all <;> omega)) ?_)
              refine hK _ ?_; clear hK K; refine Nav.imp ?_
              refine awp_region cx [] fun K hK => ?_
              simp [push_cast]
              repeat (refine And.intro (by clear hK; intros; first | omega | (simp_all; done) | (simp_all <;> omega)) ?_)
              refine hK _ ?_; clear hK K; refine Nav.imp ?_
              refine awp_cond (b := decide (b.cnts.p < 0) || decide (1099511627776 < b.cnts.p)) (by simp [push_cast]) (fun hb => ?_) (fun hb => ?_) <;> (refine Nav.imp ?_)
              · rw [hb] at hw2
                have hf : sb = false := by
                  cases sb
                  · rfl
                  · have := f2 rfl 0 (by omega)
                    simp only [Pos.at] at this
                    rw [this] at hw2; cases hw2
                rw [hf]
                refine awp_region cx [] fun K hK => ?_
                simp [push_cast]
                repeat (refine And.intro (by clear hK; intros; first | omega | (simp_all; done) | (simp_all <;> omega)) ?_)
                refine hK _ ?_; clear hK K; refine Nav.imp ?_
                simp [push_cast]
              · rw [hb] at hw2
                refine awp_region cx [] fun K hK => ?_
                simp [push_cast, w3, w4]
                repeat (refine And.intro (by clear hK; intros; first | omega | (simp_all; done) | (simp_all <;> omega)) ?_)
                refine hK _ ?_; clear hK K; refine Nav.imp ?_
                refine ⟨1, ⟨by omega, fun j hj => ?_⟩, by omega, ?_⟩
                · by_cases e : j < 0
                  · exact hall2 j e
                  · have : j = 0 := by omega
                    subst this
                    simpa [Pos.at] using hw2
                · refine weak_of [(0, some 0)] rfl (by simp [upT, up, upL, push_cast]) (by simp [upH, upR, upL, up, push_cast]) (by simp [namesOk, push_cast]) (by simp [olds])
            · simp at hb
          · have hw2 : cntB b.cnts.q = !(decide (b.cnts.q < 0) || decide (1099511627776 < b.cnts.q)) := by rw [Bool.eq_iff_iff]; simp [cntB]
            refine Nav.imp ?_
            refine awp_region cx [] fun K hK => ?_
            simp [push_cast]
            repeat (refine And.intro (by clear hK; intros; first | omega | (simp_all; done) | (simp_all <;> omega)) ?_)
            refine hK _ ?_; clear hK K; refine Nav.imp ?_
            refine awp_cond (b := true) (by simp [push_cast]) (fun hb => ?_) (fun hb => ?_) <;> (refine Nav.imp ?_)
            · refine awp_region cx [] fun K hK => ?_
              simp [push_cast]
              repeat (refine And.intro (by clear hK; intros; first | omega | (simp_all; done) | (simp_all <;> omega)) ?_)
              refine hK _ ?_; clear hK K; refine Nav.imp ?_
              refine awp_region cx [] fun K hK => ?_
              simp [push_cast]
              repeat (refine And.intro (by clear hK; intros; first | omega | (simp_all; done) | (simp_all <;> omega)) ?_)
              refine hK _ ?_; clear hK K; refine Nav.imp ?_
              refine awp_cond (b := decide (b.cnts.q < 0) || decide (1099511627776 < b.cnts.q)) (by simp [push_cast]) (fun hb => ?_) (fun hb => ?_) <;> (refine Nav.imp ?_)
              · rw [hb] at hw2
                have hf : sb = false := by
                  cases sb
                  · rfl
                  · have := f2 rfl 1 (by omega)
                    simp only [Pos.at] at this
                    rw [this] at hw2; cases hw2
                rw [hf]
                refine awp_region cx [] fun K hK => ?_
                simp [push_cast]
                repeat (refine And.intro (by clear hK; intros; first | omega | (simp_all; done) | (simp_all <;> omega)) ?_)
                refine hK _ ?_; clear hK K; refine Nav.imp ?_
                simp [push_cast]
              · rw [hb] at hw2
                refine awp_region cx [] fun K hK => ?_
                simp [push_cast, w3, w4]
                repeat (refine And.intro (by clear hK; intros; first | omega | (simp_all; done) | (simp_all <;> omega)) ?_)
                refine hK _ ?_; clear hK K; refine Nav.imp ?_
                refine ⟨2, ⟨by omega, fun j hj => ?_⟩, by omega, ?_⟩
                · by_cases e : j < 1
                  · exact hall2 j e
                  · have : j = 1 := by omega
                    subst this
                    simpa [Pos.at] using hw2
                · refine weak_of [(0, some 0)] rfl (by simp [upT, up, upL, push_cast]) (by simp [upH, upR, upL, up, push_cast]) (by simp [namesOk, push_cast]) (by simp [olds])
            · simp at hb
          · have hw2 : cntB b.cnts.r = !(decide (b.cnts.r < 0) || decide (1099511627776 < b.cnts.r)) := by rw [Bool.eq_iff_iff]; simp [cntB]
            refine Nav.imp ?_
            refine awp_region cx [] fun K hK => ?_
            simp [push_cast]
            repeat (refine And.intro (by clear hK; intros; first | omega | (simp_all; done) | (simp_all <;> omega)) ?_)
            refine hK _ ?_; clear hK K; refine Nav.imp ?_
            refine awp_cond (b := true) (by simp [push_cast]) (fun hb => ?_) (fun hb => ?_) <;> (refine Nav.imp ?_)
            · refine awp_region cx [] fun K hK => ?_
              simp [push_cast]
              repeat (refine And.intro (by clear hK; intros; first | omega | (simp_all; done) | (simp_all <;> omega)) ?_)
              refine hK _ ?_; clear hK K; refine Nav.imp ?_
              refine awp_region cx [] fun K hK => ?_
              simp [push_cast]
              repeat (refine And.intro (by clear hK; intros; first | omega | (simp_all; done) | (simp_all <;> omega)) ?_)
              refine hK _ ?_; clear hK K; refine Nav.imp ?_
              refine awp_cond (b := decide (b.cnts.r < 0) || decide (1099511627776 < b.cnts.r)) (by simp [push_cast]) (fun hb => ?_) (fun hb => ?_) <;> (refine Nav.imp ?_)
              · rw [hb] at hw2
                have hf : sb = false := by
                  cases sb
                  · rfl
                  · have := f2 rfl 2 (by omega)
                    simp only [Pos.at] at this
                    rw [this] at hw2; cases hw2
                rw [hf]
                refine awp_region cx [] fun K hK => ?_
                simp [push_cast]
                repeat (refine And.intro (by clear hK; intros; first | omega | (simp_all; done) | (simp_all <;> omega)) ?_)
                refine hK _ ?_; clear hK K; refine Nav.imp ?_
                simp [push_cast]
              · rw [hb] at hw2
                refine awp_region cx [] fun K hK => ?_
                simp [push_cast, w3, w4]
                repeat (refine And.intro (by clear hK; intros; first | omega | (simp_all; done) | (simp_all <;> omega)) ?_)
                refine hK _ ?_; clear hK K; refine Nav.imp ?_
                refine ⟨3, ⟨by omega, fun j hj => ?_⟩, by omega, ?_⟩
                · by_cases e : j < 2
                  · exact hall2 j e
                  · have : j = 2 := by omega
                    subst this
                    simpa [Pos.at] using hw2
                · refine weak_of [(0, some 0)] rfl (by simp [upT, up, upL, push_cast]) (by simp [upH, upR, upL, up, push_cast]) (by simp [namesOk, push_cast]) (by simp [olds])
            · simp at hb
          · have hw2 : cntB b.cnts.s = !(decide (b.cnts.s < 0) || decide (1099511627776 < b.cnts.s)) := by rw [Bool.eq_iff_iff]; simp [cntB]
            refine Nav.imp ?_
            refine awp_region cx [] fun K hK => ?_
            simp [push_cast]
            repeat (refine And.intro (by clear hK; intros; first | omega | (simp_all; done) | (simp_all <;> omega)) ?_)
            refine hK _ ?_; clear hK K; refine Nav.imp ?_
            refine awp_cond (b := true) (by simp [push_cast]) (fun hb => ?_) (fun hb => ?_) <;> (refine Nav.imp ?_)
            · refine awp_region cx [] fun K hK => ?_
              simp [push_cast]
              repeat (refine And.intro (by clear hK; intros; first | omega | (simp_all; done) | (simp_all <;> omega)) ?_)
              refine hK _ ?_; clear hK K; refine Nav.imp ?_
              refine awp_region cx [] fun K hK => ?_
              simp [push_cast]
              repeat (refine And.intro (by clear hK; intros; first | omega | (simp_all; done) | (simp_all <;> omega)) ?_)
              refine hK _ ?_; clear hK K; refine Nav.imp ?_
              refine awp_cond (b := decide (b.cnts.s < 0) || decide (1099511627776 < b.cnts.s)) (by simp [push_cast]) (fun hb => ?_) (fun hb => ?_) <;> (refine Nav.imp ?_)
              · rw [hb] at hw2
                have hf : sb = false := by
                  cases sb
                  · rfl
                  · have := f2 rfl 3 (by omega)
                    simp only [Pos.at] at this
                    rw [this] at hw2; cases hw2
                rw [hf]
                refine awp_region cx [] fun K hK => ?_
                simp [push_cast]
                repeat (refine And.intro (by clear hK; intros; first | omega | (simp_all; done) | (simp_all <;> omega)) ?_)
                refine hK _ ?_; clear hK K; refine Nav.imp ?_
                simp [push_cast]
              · rw [hb] at hw2
                refine awp_region cx [] fun K hK => ?_
                simp [push_cast, w3, w4]
                repeat (refine And.intro (by clear hK; intros; first | omega | (simp_all; done) | (simp_all <;> omega)) ?_)
                refine hK _ ?_; clear hK K; refine Nav.imp ?_
                refine ⟨4, ⟨by omega, fun j hj => ?_⟩, by omega, ?_⟩
                · by_cases e : j < 3
                  · exact hall2 j e
                  · have : j = 3 := by omega
                    subst this
                    simpa [Pos.at] using hw2
                · refine weak_of [(0, some 0)] rfl (by simp [upT, up, upL, push_cast]) (by simp [upH, upR, upL, up, push_cast]) (by simp [namesOk, push_cast]) (by simp [olds])
            · simp at hb
          · refine Nav.imp ?_
            refine awp_region cx [] fun K hK => ?_
            simp [push_cast]
            repeat (refine And.intro (by clear hK; intros; first | omega | (simp_all; done) | (simp_all <;> omega)) ?_)
            refine hK _ ?_; clear hK K; refine Nav.imp ?_
            refine awp_cond (b := false) (by simp [push_cast]) (fun hb => ?_) (fun hb => ?_) <;> (refine Nav.imp ?_)
            · simp at hb
            · rw [f3 hall hall2]
              refine awp_region cx [] fun K hK => ?_
              simp [push_cast]
              repeat (refine And.intro (by clear hK; intros; first | omega | (simp_all; done) | (simp_all <;> omega)) ?_)
              refine hK _ ?_; clear hK K; refine Nav.imp ?_
              simp [push_cast]
              omega
theorem bvalid_ok (b : Bench) (hL : smallL b.lays) : PC Try.prog 29 [.agg b.row] (.p (.bool (validE b))) := by
  have c1 := sound_ok b hL.1
  obtain ⟨hl, hR⟩ := hL
  have hv : validE b = (b.lays.all validR && soundB b) := rfl
  generalize soundB b = sb at *
  generalize validE b = vb at *
  refine pc_of_awp cx (fn := Try.f29) (c := _) Try.func29 rfl rfl (Nat.le_of_ble_eq_true rfl) ?_
  rw [Try.ntmps29]; refine Nav.imp ?_
  refine awp_region cx [] fun K hK => ?_
  simp [push_cast]
  repeat (refine And.intro (by clear hK; intros; first | omega | (simp_all; done) | (simp_all <;> omega)) ?_)
  refine hK _ ?_; clear hK K; refine Nav.imp ?_
  refine awp_region cx [] fun K hK => ?_
  simp [push_cast]
  repeat (refine And.intro (by clear hK; intros; first | omega | (simp_all; done) | (simp_all <;> omega)) ?_)
  refine hK _ ?_; clear hK K; refine Nav.imp ?_
  refine awp_loop (β := Nat) (fun i => ⟨18, [(1, .ptr 0 0 0), (6, .d (encLays b.lays)), (7, .d (.int .i64 b.lays.length)), (8, .d (.int .i64 i))], [(0, some ⟨43, 22, [b.row.map .d]⟩)], 1⟩) (fun i => i ≤ b.lays.length ∧ ∀ (j : Nat) R, j < i → b.lays[j]? = some R → validR R = true) (fun i => b.lays.length - i) 0 ?_ ⟨Nat.zero_le _, by simp⟩ ?_
  · refine weak_of [(0, some 0)] rfl (by simp [upT, up, upL, push_cast]) (by simp [upH, upR, upL, up, push_cast]) (by simp [namesOk, push_cast]) (by simp [olds])
  · rintro i ⟨hi, hall⟩
    refine Nav.imp ?_
    refine awp_region cx [] fun K hK => ?_
    simp [push_cast]
    repeat (refine And.intro (by clear hK; intros; first | omega | (simp_all; done) | (simp_all <;> omega)) ?_)
    refine hK _ ?_; clear hK K; refine Nav.imp ?_
    refine awp_cond (b := decide ((i : Int) < b.lays.length)) (by simp [push_cast]) (fun hb => ?_) (fun hb => ?_) <;> (refine Nav.imp ?_)
    · have hlt : i < b.lays.length := by simpa using hb
      obtain ⟨R, hRi⟩ := getq hlt
      have e0 := wrap_i64 (n := (i : Int) + 1) (by omega) (by omega)
      have c2 := valid_ok R (hR R (List.mem_of_getElem? hRi))
      refine awp_region cx [] fun K hK => ?_
      simp [push_cast, hRi]
      repeat (refine And.intro (by clear hK; intros; first | omega | (simp_all; done) | (simp_all <;> omega)) ?_)
      refine hK _ ?_; clear hK K; refine Nav.imp ?_
      cases hvR : validR R with
      | false =>
        rw [hvR] at c2
        have hf : vb = false := by
          rw [hv, Bool.and_eq_false_iff]; left
          rw [List.all_eq_false]
          exact ⟨R, List.mem_of_getElem? hRi, by simp [hvR]⟩
        rw [hf]
        refine awp_region cx [(1, .p (.bool false))] fun K hK => ?_
        simp [push_cast, c2]
        repeat (refine And.intro (by clear hK; intros; first | omega | (simp_all; done) | (simp_all <;> omega)) ?_)
        refine hK _ ?_; clear hK K; refine Nav.imp ?_
        refine awp_cond (b := true) (by simp [push_cast]) (fun hb => ?_) (fun hb => ?_) <;> (refine Nav.imp ?_)
        · refine awp_region cx [] fun K hK => ?_
          simp [push_cast]
          repeat (refine And.intro (by clear hK; intros; first | omega | (simp_all; done) | (simp_all <;> omega)) ?_)
          refine hK _ ?_; clear hK K; refine Nav.imp ?_
          simp [push_cast]
        · simp at hb
      | true =>
        rw [hvR] at c2
        refine awp_region cx [(1, .p (.bool true))] fun K hK => ?_
        simp [push_cast, c2]
        repeat (refine And.intro (by clear hK; intros; first | omega | (simp_all; done) | (simp_all <;> omega)) ?_)
        refine hK _ ?_; clear hK K; refine Nav.imp ?_
        refine awp_cond (b := false) (by simp [push_cast]) (fun hb => ?_) (fun hb => ?_) <;> (refine Nav.imp ?_)
        · simp at hb
        · refine awp_region cx [] fun K hK => ?_
          simp [push_cast, e0]
          repeat (refine And.intro (by clear hK; intros; first | omega | (simp_all; done) | (simp_all <;> omega)) ?_)
          refine hK _ ?_; clear hK K; refine Nav.imp ?_
          refine ⟨i + 1, ⟨hlt, fun j S hj hS => ?_⟩, by omega, ?_⟩
          · by_cases e : j < i
            · exact hall j S e hS
            · have : j = i := by omega
              subst this
              rw [hRi] at hS; cases hS; exact hvR
          · refine weak_of [(0, some 0)] rfl (by simp [upT, up, upL, push_cast]) (by simp [upH, upR, upL, up, push_cast]) (by simp [namesOk, push_cast]) (by simp [olds])
    · have hie : i = b.lays.length := by simp at hb; omega
      have : b.lays.all validR = true := by
        rw [List.all_eq_true]
        intro R hR'
        obtain ⟨j, hj⟩ := List.mem_iff_getElem?.1 hR'
        exact hall j R (by have := (List.getElem?_eq_some_iff.1 hj).1; omega) hj
      rw [this, Bool.true_and] at hv
      rw [hv]
      refine awp_region cx [(1, .p (.bool sb))] fun K hK => ?_
      simp [push_cast, c1]
      repeat (refine And.intro (by clear hK; intros; first | omega | (simp_all; done) | (simp_all <;> omega)) ?_)
      refine hK _ ?_; clear hK K; refine Nav.imp ?_
      simp [push_cast]
end Go.Proofs.Ytlfbjflfbjkbeaa

namespace Go.Proofs.Ytlfbjflfbjkbeaa
open Go.Abs
attribute [push_cast] okHead calleeB

def stepP (x p : Pos) : Pos := ⟨x.p + p.p, x.q + p.q, x.r + p.r, x.s + p.s⟩
def oneB (n : Int) : Bool := !(decide (n < -1) || decide (1 < n))
def unitP (p : Pos) : Bool := oneB p.p && oneB p.q && oneB p.r && oneB p.s
def pulseW (b : Bench) (m : Mach) (s : Sett) (p : Pos) : Bench :=
  hitF (extB { b with real := stepP b.real p } (underC m s (stepP b.real p)) (underL m s (stepP b.real p)) p.s) (underC m s (stepP b.real p)) (underL m s (stepP b.real p)) (p.p * p.p + p.q * p.q)
def pulseB (b : Bench) (m : Mach) (s : Sett) (p : Pos) : Bench := if unitP p && (rightB m s && validE b) && soundB (pulseW b m s p) then pulseW b m s p else b
theorem opR_valid {f : Bool → Bool → Bool} (hf : f false false = false) (a b : List Row) : validR (opR f a b) = true := by
  cases hv : (validR a && validR b) with
  | false => unfold opR; rw [hv]; rfl
  | true =>
    simp only [Bool.and_eq_true] at hv
    exact (opR_facts hf hv.1 hv.2).1
theorem layF_facts {L : List (List Row)} {l : Int} {c : Cell} (hL : ∀ R ∈ L, validR R = true) (hl : L.length ≤ 256) : (∀ R ∈ layF L l c, validR R = true) ∧ (layF L l c).length ≤ 256 := by
  unfold layF
  split
  · rename_i h
    simp [layOk] at h
    refine ⟨fun R hR => ?_, ?_⟩
    · unfold layL at hR
      rcases List.mem_or_eq_of_mem_set hR with h1 | h1
      · rcases List.mem_append.1 h1 with h1 | h1
        · exact hL R h1
        · rw [(List.mem_replicate.1 h1).2]; rfl
      · rw [h1]; exact opR_valid rfl _ _
    · rw [layL_len]; split <;> omega
  · exact ⟨hL, hl⟩
theorem ext_facts {b : Bench} {c : Cell} {l k : Int} (hL : ∀ R ∈ b.lays, validR R = true) (hl : b.lays.length ≤ 256) : (∀ R ∈ (extB b c l k).lays, validR R = true) ∧ (extB b c l k).lays.length ≤ 256 ∧ (extB b c l k).hits = b.hits := by
  unfold extB
  split
  · exact ⟨hL, hl, rfl⟩
  split
  · exact ⟨hL, hl, rfl⟩
  split
  · exact ⟨hL, hl, rfl⟩
  split
  · obtain ⟨h1, h2⟩ := layF_facts (l := l) (c := c) hL hl
    exact ⟨h1, h2, rfl⟩
  · exact ⟨hL, hl, rfl⟩
theorem hit_lays {b : Bench} {c : Cell} {l k : Int} : (hitF b c l k).lays = b.lays := by
  unfold hitF
  split
  · rfl
  split <;> rfl
theorem under_layer (m : Mach) (s : Sett) (x : Pos) : -1 ≤ underL m s x ∧ underL m s x ≤ 4611686018427387905 := by
  rcases under_cases m s x with ⟨h, _⟩ | ⟨_, h, _⟩ | ⟨h1, h2, a, b, c, d, _, hd, ha, hb, hc, hp, hh⟩
  · have : underB m s x = false := by simp [underB, h]
    simp [underL, this]
  · have : underB m s x = false := by simp [underB, h]
    simp [underL, this]
  · have := lay_range hc hh.1
    simp only [underD, D.tup.injEq, List.cons.injEq, D.int.injEq, true_and, and_true] at hd
    rw [hd.2]; exact this
set_option maxHeartbeats 8000000 in
theorem pulse_ok (b : Bench) (m : Mach) (s : Sett) (p : Pos) (hS : smallL b.lays) : PC Try.prog 11 [.agg b.row, .agg m.row, .agg s.row, .agg p.row] (.p (.agg (pulseB b m s p).row)) := by
  have c1 := clone_bench b hS
  have c2 := right_ok m s
  have c3 := bvalid_ok b hS
  have hP : pulseB b m s p = if unitP p && (rightB m s && validE b) && soundB (pulseW b m s p) then pulseW b m s p else b := rfl
  have hu : unitP p = true ↔ _ := four_iff (f := oneB) (x := p)
  generalize hB : pulseB b m s p = B at *
  generalize unitP p = up_ at *
  have w3 : IntKind.i64.wrap 3 = 3 := by decide
  have w4 : IntKind.i64.wrap 4 = 4 := by decide
  refine pc_of_awp cx (fn := Try.f11) (c := _) Try.func11 rfl rfl (Nat.le_of_ble_eq_true rfl) ?_
  rw [Try.ntmps11]; refine Nav.imp ?_
  refine awp_region cx [] fun K hK => ?_
  simp [push_cast]
  repeat (refine And.intro (by clear hK; intros; first | omega | (simp_all; done) | (simp_all <;> omega)) ?_)
  refine hK _ ?_; clear hK K; refine Nav.imp ?_
  refine awp_region cx [(1, .x ⟨[], [.d (.agg b.row)], [], [], some 2, [(2, ⟨56, 1, dr (b.lays.map regRow)⟩)], .agg (b.av (.hs 2 0 b.lays.length))⟩)] fun K hK => ?_
  simp [push_cast, c1]
  repeat (refine And.intro (by clear hK; intros; first | omega | (simp_all; done) | (simp_all <;> omega)) ?_)
  refine hK _ ?_; clear hK K; refine Nav.imp ?_
  refine awp_region cx [] fun K hK => ?_
  simp [push_cast]
  repeat (refine And.intro (by clear hK; intros; first | omega | (simp_all; done) | (simp_all <;> omega)) ?_)
  refine hK _ ?_; clear hK K; refine Nav.imp ?_
  refine awp_loop (β := Nat) (fun i => ⟨113, [(4, .ptr 0 0 0), (5, .ptr 1 0 0), (6, .ptr 2 0 0), (7, .ptr 3 0 0), (8, .ptr 4 0 0), (9, .ptr 5 0 0), (19, .d (.agg p.row)), (20, .d (.int .i64 i))], [(0, some ⟨43, 22, [b.row.map .d]⟩), (1, some ⟨26, 30, [m.row.map .d]⟩), (2, some ⟨28, 20, [s.row.map .d]⟩), (3, some ⟨29, 4, [p.row.map .d]⟩), (4, some ⟨43, 22, benchZ⟩), (5, some ⟨43, 22, [b.av (.hs 6 0 b.lays.length)]⟩), (6, some ⟨56, 1, dr (b.lays.map regRow)⟩)], 7⟩) (fun i => i ≤ 4 ∧ ∀ j < i, oneB (p.at j) = true) (fun i => 4 - i) 0 ?_ ⟨Nat.zero_le _, by simp⟩ ?_
  · refine weak_of [(0, some 0), (1, some 1), (2, some 2), (3, some 3), (4, some 4), (5, some 7), (6, some 6)] rfl (by simp [upT, up, upL, push_cast]) (by simp [upH, upR, upL, up, push_cast]) (by simp [namesOk, push_cast]) (by simp [olds])
  · rintro i ⟨hi, hall⟩
    rcases (show i = 0 ∨ i = 1 ∨ i = 2 ∨ i = 3 ∨ i = 4 by omega) with rfl | rfl | rfl | rfl | rfl
    · have hw2 : oneB p.p = !(decide (p.p < -1) || decide (1 < p.p)) := rfl
      refine Nav.imp ?_
      refine awp_region cx [] fun K hK => ?_
      simp [push_cast]
      repeat (refine And.intro (by clear hK; intros; first | omega | (simp_all; done) | (simp_all <;> omega)) ?_)
      refine hK _ ?_; clear hK K; refine Nav.imp ?_
      refine awp_cond (b := true) (by simp [push_cast]) (fun hb => ?_) (fun hb => ?_) <;> (refine Nav.imp ?_)
      · refine awp_region cx [] fun K hK => ?_
        simp [push_cast]
        repeat (refine And.intro (by clear hK; intros; first | omega | (simp_all; done) | (simp_all <;> omega)) ?_)
        refine hK _ ?_; clear hK K; refine Nav.imp ?_
        refine awp_region cx [] fun K hK => ?_
        simp [push_cast]
        repeat (refine And.intro (by clear hK; intros; first | omega | (simp_all; done) | (simp_all <;> omega)) ?_)
        refine hK _ ?_; clear hK K; refine Nav.imp ?_
        refine awp_cond (b := decide (p.p < -1) || decide (1 < p.p)) (by simp [push_cast]) (fun hb => ?_) (fun hb => ?_) <;> (refine Nav.imp ?_)
        · rw [hb] at hw2
          have hf : up_ = false := by
            cases up_
            · rfl
            · have := hu.1 rfl 0 (by omega)
              simp only [Pos.at] at this
              rw [this] at hw2; cases hw2
          rw [hf] at hP
          simp at hP
          rw [hP]
          refine awp_region cx [] fun K hK => ?_
          simp [push_cast]
          repeat (refine And.intro (by clear hK; intros; first | omega | (simp_all; done) | (simp_all <;> omega)) ?_)
          refine hK _ ?_; clear hK K; refine Nav.imp ?_
          simp [push_cast]
        · rw [hb] at hw2
          refine awp_region cx [] fun K hK => ?_
          simp [push_cast, w3, w4]
          repeat (refine And.intro (by clear hK; intros; first | omega | (simp_all; done) | (simp_all <;> omega)) ?_)
          refine hK _ ?_; clear hK K; refine Nav.imp ?_
          refine ⟨1, ⟨by omega, fun j hj => ?_⟩, by omega, ?_⟩
          · by_cases e : j < 0
            · exact hall j e
            · have : j = 0 := by omega
              subst this
              simpa [Pos.at] using hw2
          · refine weak_of [(0, some 0), (1, some 1), (2, some 2), (3, some 3), (4, some 4), (5, some 5), (6, some 6)] rfl (by simp [upT, up, upL, push_cast]) (by simp [upH, upR, upL, up, push_cast]) (by simp [namesOk, push_cast]) (by simp [olds])
      · simp at hb
    · have hw2 : oneB p.q = !(decide (p.q < -1) || decide (1 < p.q)) := rfl
      refine Nav.imp ?_
      refine awp_region cx [] fun K hK => ?_
      simp [push_cast]
      repeat (refine And.intro (by clear hK; intros; first | omega | (simp_all; done) | (simp_all <;> omega)) ?_)
      refine hK _ ?_; clear hK K; refine Nav.imp ?_
      refine awp_cond (b := true) (by simp [push_cast]) (fun hb => ?_) (fun hb => ?_) <;> (refine Nav.imp ?_)
      · refine awp_region cx [] fun K hK => ?_
        simp [push_cast]
        repeat (refine And.intro (by clear hK; intros; first | omega | (simp_all; done) | (simp_all <;> omega)) ?_)
        refine hK _ ?_; clear hK K; refine Nav.imp ?_
        refine awp_region cx [] fun K hK => ?_
        simp [push_cast]
        repeat (refine And.intro (by clear hK; intros; first | omega | (simp_all; done) | (simp_all <;> omega)) ?_)
        refine hK _ ?_; clear hK K; refine Nav.imp ?_
        refine awp_cond (b := decide (p.q < -1) || decide (1 < p.q)) (by simp [push_cast]) (fun hb => ?_) (fun hb => ?_) <;> (refine Nav.imp ?_)
        · rw [hb] at hw2
          have hf : up_ = false := by
            cases up_
            · rfl
            · have := hu.1 rfl 1 (by omega)
              simp only [Pos.at] at this
              rw [this] at hw2; cases hw2
          rw [hf] at hP
          simp at hP
          rw [hP]
          refine awp_region cx [] fun K hK => ?_
          simp [push_cast]
          repeat (refine And.intro (by clear hK; intros; first | omega | (simp_all; done) | (simp_all <;> omega)) ?_)
          refine hK _ ?_; clear hK K; refine Nav.imp ?_
          simp [push_cast]
        · rw [hb] at hw2
          refine awp_region cx [] fun K hK => ?_
          simp [push_cast, w3, w4]
          repeat (refine And.intro (by clear hK; intros; first | omega | (simp_all; done) | (simp_all <;> omega)) ?_)
          refine hK _ ?_; clear hK K; refine Nav.imp ?_
          refine ⟨2, ⟨by omega, fun j hj => ?_⟩, by omega, ?_⟩
          · by_cases e : j < 1
            · exact hall j e
            · have : j = 1 := by omega
              subst this
              simpa [Pos.at] using hw2
          · refine weak_of [(0, some 0), (1, some 1), (2, some 2), (3, some 3), (4, some 4), (5, some 5), (6, some 6)] rfl (by simp [upT, up, upL, push_cast]) (by simp [upH, upR, upL, up, push_cast]) (by simp [namesOk, push_cast]) (by simp [olds])
      · simp at hb
    · have hw2 : oneB p.r = !(decide (p.r < -1) || decide (1 < p.r)) := rfl
      refine Nav.imp ?_
      refine awp_region cx [] fun K hK => ?_
      simp [push_cast]
      repeat (refine And.intro (by clear hK; intros; first | omega | (simp_all; done) | (simp_all <;> omega)) ?_)
      refine hK _ ?_; clear hK K; refine Nav.imp ?_
      refine awp_cond (b := true) (by simp [push_cast]) (fun hb => ?_) (fun hb => ?_) <;> (refine Nav.imp ?_)
      · refine awp_region cx [] fun K hK => ?_
        simp [push_cast]
        repeat (refine And.intro (by clear hK; intros; first | omega | (simp_all; done) | (simp_all <;> omega)) ?_)
        refine hK _ ?_; clear hK K; refine Nav.imp ?_
        refine awp_region cx [] fun K hK => ?_
        simp [push_cast]
        repeat (refine And.intro (by clear hK; intros; first | omega | (simp_all; done) | (simp_all <;> omega)) ?_)
        refine hK _ ?_; clear hK K; refine Nav.imp ?_
        refine awp_cond (b := decide (p.r < -1) || decide (1 < p.r)) (by simp [push_cast]) (fun hb => ?_) (fun hb => ?_) <;> (refine Nav.imp ?_)
        · rw [hb] at hw2
          have hf : up_ = false := by
            cases up_
            · rfl
            · have := hu.1 rfl 2 (by omega)
              simp only [Pos.at] at this
              rw [this] at hw2; cases hw2
          rw [hf] at hP
          simp at hP
          rw [hP]
          refine awp_region cx [] fun K hK => ?_
          simp [push_cast]
          repeat (refine And.intro (by clear hK; intros; first | omega | (simp_all; done) | (simp_all <;> omega)) ?_)
          refine hK _ ?_; clear hK K; refine Nav.imp ?_
          simp [push_cast]
        · rw [hb] at hw2
          refine awp_region cx [] fun K hK => ?_
          simp [push_cast, w3, w4]
          repeat (refine And.intro (by clear hK; intros; first | omega | (simp_all; done) | (simp_all <;> omega)) ?_)
          refine hK _ ?_; clear hK K; refine Nav.imp ?_
          refine ⟨3, ⟨by omega, fun j hj => ?_⟩, by omega, ?_⟩
          · by_cases e : j < 2
            · exact hall j e
            · have : j = 2 := by omega
              subst this
              simpa [Pos.at] using hw2
          · refine weak_of [(0, some 0), (1, some 1), (2, some 2), (3, some 3), (4, some 4), (5, some 5), (6, some 6)] rfl (by simp [upT, up, upL, push_cast]) (by simp [upH, upR, upL, up, push_cast]) (by simp [namesOk, push_cast]) (by simp [olds])
      · simp at hb
    · have hw2 : oneB p.s = !(decide (p.s < -1) || decide (1 < p.s)) := rfl
      refine Nav.imp ?_
      refine awp_region cx [] fun K hK => ?_
      simp [push_cast]
      repeat (refine And.intro (by clear hK; intros; first | omega | (simp_all; done) | (simp_all <;> omega)) ?_)
      refine hK _ ?_; clear hK K; refine Nav.imp ?_
      refine awp_cond (b := true) (by simp [push_cast]) (fun hb => ?_) (fun hb => ?_) <;> (refine Nav.imp ?_)
      · refine awp_region cx [] fun K hK => ?_
        simp [push_cast]
        repeat (refine And.intro (by clear hK; intros; first | omega | (simp_all; done) | (simp_all <;> omega)) ?_)
        refine hK _ ?_; clear hK K; refine Nav.imp ?_
        refine awp_region cx [] fun K hK => ?_
        simp [push_cast]
        repeat (refine And.intro (by clear hK; intros; first | omega | (simp_all; done) | (simp_all <;> omega)) ?_)
        refine hK _ ?_; clear hK K; refine Nav.imp ?_
        refine awp_cond (b := decide (p.s < -1) || decide (1 < p.s)) (by simp [push_cast]) (fun hb => ?_) (fun hb => ?_) <;> (refine Nav.imp ?_)
        · rw [hb] at hw2
          have hf : up_ = false := by
            cases up_
            · rfl
            · have := hu.1 rfl 3 (by omega)
              simp only [Pos.at] at this
              rw [this] at hw2; cases hw2
          rw [hf] at hP
          simp at hP
          rw [hP]
          refine awp_region cx [] fun K hK => ?_
          simp [push_cast]
          repeat (refine And.intro (by clear hK; intros; first | omega | (simp_all; done) | (simp_all <;> omega)) ?_)
          refine hK _ ?_; clear hK K; refine Nav.imp ?_
          simp [push_cast]
        · rw [hb] at hw2
          refine awp_region cx [] fun K hK => ?_
          simp [push_cast, w3, w4]
          repeat (refine And.intro (by clear hK; intros; first | omega | (simp_all; done) | (simp_all <;> omega)) ?_)
          refine hK _ ?_; clear hK K; refine Nav.imp ?_
          refine ⟨4, ⟨by omega, fun j hj => ?_⟩, by omega, ?_⟩
          · by_cases e : j < 3
            · exact hall j e
            · have : j = 3 := by omega
              subst this
              simpa [Pos.at] using hw2
          · refine weak_of [(0, some 0), (1, some 1), (2, some 2), (3, some 3), (4, some 4), (5, some 5), (6, some 6)] rfl (by simp [upT, up, upL, push_cast]) (by simp [upH, upR, upL, up, push_cast]) (by simp [namesOk, push_cast]) (by simp [olds])
      · simp at hb
    · have hup := hu.2 hall
      rw [hup, Bool.true_and] at hP
      clear hu hup
      have a0 := hall 0 (by omega)
      have a1 := hall 1 (by omega)
      have a2 := hall 2 (by omega)
      have a3 := hall 3 (by omega)
      simp [oneB, Pos.at] at a0 a1 a2 a3
      refine Nav.imp ?_
      refine awp_region cx [] fun K hK => ?_
      simp [push_cast]
      repeat (refine And.intro (by clear hK; intros; first | omega | (simp_all; done) | (simp_all <;> omega)) ?_)
      refine hK _ ?_; clear hK K; refine Nav.imp ?_
      refine awp_cond (b := false) (by simp [push_cast]) (fun hb => ?_) (fun hb => ?_) <;> (refine Nav.imp ?_)
      · simp at hb
      · cases hr : rightB m s with
        | false =>
          rw [hr] at c2 hP
          simp at hP
          rw [hP]
          refine awp_region cx [(2, .p (.bool false)), (6, .skip)] fun K hK => ?_
          simp [push_cast, c2]
          repeat (refine And.intro (by clear hK; intros; first | omega | (simp_all; done) | (simp_all <;> omega)) ?_)
          refine hK _ ?_; clear hK K; refine Nav.imp ?_
          refine awp_cond (b := true) (by simp [push_cast]) (fun hb => ?_) (fun hb => ?_) <;> (refine Nav.imp ?_)
          · refine awp_region cx [] fun K hK => ?_
            simp [push_cast]
            repeat (refine And.intro (by clear hK; intros; first | omega | (simp_all; done) | (simp_all <;> omega)) ?_)
            refine hK _ ?_; clear hK K; refine Nav.imp ?_
            simp [push_cast]
          · simp at hb
        | true =>
        cases hv : validE b with
        | false =>
          rw [hr] at c2 hP
          rw [hv] at c3 hP
          simp at hP
          rw [hP]
          refine awp_region cx [(2, .p (.bool true)), (6, .p (.bool false))] fun K hK => ?_
          simp [push_cast, c2, c3]
          repeat (refine And.intro (by clear hK; intros; first | omega | (simp_all; done) | (simp_all <;> omega)) ?_)
          refine hK _ ?_; clear hK K; refine Nav.imp ?_
          refine awp_cond (b := true) (by simp [push_cast]) (fun hb => ?_) (fun hb => ?_) <;> (refine Nav.imp ?_)
          · refine awp_region cx [] fun K hK => ?_
            simp [push_cast]
            repeat (refine And.intro (by clear hK; intros; first | omega | (simp_all; done) | (simp_all <;> omega)) ?_)
            refine hK _ ?_; clear hK K; refine Nav.imp ?_
            simp [push_cast]
          · simp at hb
        | true =>
        rw [hr] at c2 hP
        rw [hv] at c3 hP
        simp only [Bool.and_self, Bool.true_and] at hP
        refine awp_region cx [(2, .p (.bool true)), (6, .p (.bool true))] fun K hK => ?_
        simp [push_cast, c2, c3]
        repeat (refine And.intro (by clear hK; intros; first | omega | (simp_all; done) | (simp_all <;> omega)) ?_)
        refine hK _ ?_; clear hK K; refine Nav.imp ?_
        refine awp_cond (b := false) (by simp [push_cast]) (fun hb => ?_) (fun hb => ?_) <;> (refine Nav.imp ?_)
        · simp at hb
        · simp only [validE, soundB, realB, cntsB, Bench.cnts, Bool.and_eq_true, List.all_eq_true, decide_eq_true_eq] at hv
          obtain ⟨hLv, ⟨⟨⟨⟨v0, v1⟩, v2⟩, v3⟩, ⟨⟨u0, u1⟩, u2⟩, u3⟩, hl⟩ := hv
          simp [withB] at v0 v1 v2 v3
          refine awp_region cx [(1, .x ⟨[], [.d (.agg b.row)], [], [], some 2, [(2, ⟨56, 1, dr (b.lays.map regRow)⟩)], .agg (b.av (.hs 2 0 b.lays.length))⟩)] fun K hK => ?_
          simp [push_cast, c1]
          repeat (refine And.intro (by clear hK; intros; first | omega | (simp_all; done) | (simp_all <;> omega)) ?_)
          refine hK _ ?_; clear hK K; refine Nav.imp ?_
          refine awp_region cx [] fun K hK => ?_
          simp [push_cast]
          repeat (refine And.intro (by clear hK; intros; first | omega | (simp_all; done) | (simp_all <;> omega)) ?_)
          refine hK _ ?_; clear hK K; refine Nav.imp ?_
          refine awp_loop (β := Nat) (fun i => ⟨113, [(5, .ptr 1 0 0), (6, .ptr 2 0 0), (7, .ptr 3 0 0), (8, .ptr 4 0 0), (9, .ptr 5 0 0), (12, .ptr 7 0 0), (45, .d (.agg p.row)), (46, .d (.int .i64 i))], [(1, some ⟨26, 30, [m.row.map .d]⟩), (2, some ⟨28, 20, [s.row.map .d]⟩), (3, some ⟨29, 4, [p.row.map .d]⟩), (4, some ⟨43, 22, benchZ⟩), (5, some ⟨43, 22, [b.av (.hs 6 0 b.lays.length)]⟩), (6, some ⟨56, 1, dr (b.lays.map regRow)⟩), (7, some ⟨75, 25, [Bench.wav { b with real := ⟨if 0 < i then b.real.p + p.p else b.real.p, if 1 < i then b.real.q + p.q else b.real.q, if 2 < i then b.real.r + p.r else b.real.r, if 3 < i then b.real.s + p.s else b.real.s⟩ } ⟨0, 0⟩ 0 (.hs 8 0 b.lays.length)]⟩), (8, some ⟨56, 1, dr (b.lays.map regRow)⟩)], 9⟩) (fun i => i ≤ 4) (fun i => 4 - i) 0 ?_ (Nat.zero_le _) ?_
          · refine weak_of [(1, some 1), (2, some 2), (3, some 3), (4, some 4), (5, some 5), (6, some 6), (7, some 20), (8, some 18)] rfl (by simp [upT, up, upL, push_cast]) (by simp [upH, upR, upL, up, push_cast]) (by simp [namesOk, push_cast]) (by simp [olds])
          · clear hi hall
            rintro i hi
            rcases (show i = 0 ∨ i = 1 ∨ i = 2 ∨ i = 3 ∨ i = 4 by omega) with rfl | rfl | rfl | rfl | rfl
            · have e1 := wrap_i64 (n := b.real.p + p.p) (by omega) (by omega)
              simp (config := { decide := true }) only [if_true, if_false]
              refine Nav.imp ?_
              refine awp_region cx [] fun K hK => ?_
              simp [push_cast]
              repeat (refine And.intro (by clear hK; intros; first | omega | (simp_all; done) | (simp_all <;> omega)) ?_)
              refine hK _ ?_; clear hK K; refine Nav.imp ?_
              refine awp_cond (b := true) (by simp [push_cast]) (fun hb => ?_) (fun hb => ?_) <;> (refine Nav.imp ?_)
              · refine awp_region cx [] fun K hK => ?_
                simp [push_cast]
                repeat (refine And.intro (by clear hK; intros; first | omega | (simp_all; done) | (simp_all <;> omega)) ?_)
                refine hK _ ?_; clear hK K; refine Nav.imp ?_
                refine awp_region_draw cx mixed [] fun K hK => ?_
                simp [push_cast, e1]
                repeat (refine And.intro (by clear hK; intros; first | omega | (simp_all; done) | (simp_all <;> omega)) ?_)
                refine hK _ _ (by kernel_rfl) ?_; clear hK K; refine Nav.imp ?_
                refine awp_region cx [] fun K hK => ?_
                simp [push_cast, w3, w4]
                repeat (refine And.intro (by clear hK; intros; first | omega | (simp_all; done) | (simp_all <;> omega)) ?_)
                refine hK _ ?_; clear hK K; refine Nav.imp ?_
                refine ⟨1, by omega, by omega, ?_⟩
                refine weak_of [(1, some 1), (2, some 2), (3, some 3), (4, some 4), (5, some 5), (6, some 6), (7, some 7), (8, some 8)] rfl (by simp [upT, up, upL, push_cast]) (by simp [upH, upR, upL, up, push_cast]) (by simp [namesOk, push_cast]) (by simp [olds])
              · simp at hb
            · have e1 := wrap_i64 (n := b.real.q + p.q) (by omega) (by omega)
              simp (config := { decide := true }) only [if_true, if_false]
              refine Nav.imp ?_
              refine awp_region cx [] fun K hK => ?_
              simp [push_cast]
              repeat (refine And.intro (by clear hK; intros; first | omega | (simp_all; done) | (simp_all <;> omega)) ?_)
              refine hK _ ?_; clear hK K; refine Nav.imp ?_
              refine awp_cond (b := true) (by simp [push_cast]) (fun hb => ?_) (fun hb => ?_) <;> (refine Nav.imp ?_)
              · refine awp_region cx [] fun K hK => ?_
                simp [push_cast]
                repeat (refine And.intro (by clear hK; intros; first | omega | (simp_all; done) | (simp_all <;> omega)) ?_)
                refine hK _ ?_; clear hK K; refine Nav.imp ?_
                refine awp_region_draw cx mixed [] fun K hK => ?_
                simp [push_cast, e1]
                repeat (refine And.intro (by clear hK; intros; first | omega | (simp_all; done) | (simp_all <;> omega)) ?_)
                refine hK _ _ (by kernel_rfl) ?_; clear hK K; refine Nav.imp ?_
                refine awp_region cx [] fun K hK => ?_
                simp [push_cast, w3, w4]
                repeat (refine And.intro (by clear hK; intros; first | omega | (simp_all; done) | (simp_all <;> omega)) ?_)
                refine hK _ ?_; clear hK K; refine Nav.imp ?_
                refine ⟨2, by omega, by omega, ?_⟩
                refine weak_of [(1, some 1), (2, some 2), (3, some 3), (4, some 4), (5, some 5), (6, some 6), (7, some 7), (8, some 8)] rfl (by simp [upT, up, upL, push_cast]) (by simp [upH, upR, upL, up, push_cast]) (by simp [namesOk, push_cast]) (by simp [olds])
              · simp at hb
            · have e1 := wrap_i64 (n := b.real.r + p.r) (by omega) (by omega)
              simp (config := { decide := true }) only [if_true, if_false]
              refine Nav.imp ?_
              refine awp_region cx [] fun K hK => ?_
              simp [push_cast]
              repeat (refine And.intro (by clear hK; intros; first | omega | (simp_all; done) | (simp_all <;> omega)) ?_)
              refine hK _ ?_; clear hK K; refine Nav.imp ?_
              refine awp_cond (b := true) (by simp [push_cast]) (fun hb => ?_) (fun hb => ?_) <;> (refine Nav.imp ?_)
              · refine awp_region cx [] fun K hK => ?_
                simp [push_cast]
                repeat (refine And.intro (by clear hK; intros; first | omega | (simp_all; done) | (simp_all <;> omega)) ?_)
                refine hK _ ?_; clear hK K; refine Nav.imp ?_
                refine awp_region_draw cx mixed [] fun K hK => ?_
                simp [push_cast, e1]
                repeat (refine And.intro (by clear hK; intros; first | omega | (simp_all; done) | (simp_all <;> omega)) ?_)
                refine hK _ _ (by kernel_rfl) ?_; clear hK K; refine Nav.imp ?_
                refine awp_region cx [] fun K hK => ?_
                simp [push_cast, w3, w4]
                repeat (refine And.intro (by clear hK; intros; first | omega | (simp_all; done) | (simp_all <;> omega)) ?_)
                refine hK _ ?_; clear hK K; refine Nav.imp ?_
                refine ⟨3, by omega, by omega, ?_⟩
                refine weak_of [(1, some 1), (2, some 2), (3, some 3), (4, some 4), (5, some 5), (6, some 6), (7, some 7), (8, some 8)] rfl (by simp [upT, up, upL, push_cast]) (by simp [upH, upR, upL, up, push_cast]) (by simp [namesOk, push_cast]) (by simp [olds])
              · simp at hb
            · have e1 := wrap_i64 (n := b.real.s + p.s) (by omega) (by omega)
              simp (config := { decide := true }) only [if_true, if_false]
              refine Nav.imp ?_
              refine awp_region cx [] fun K hK => ?_
              simp [push_cast]
              repeat (refine And.intro (by clear hK; intros; first | omega | (simp_all; done) | (simp_all <;> omega)) ?_)
              refine hK _ ?_; clear hK K; refine Nav.imp ?_
              refine awp_cond (b := true) (by simp [push_cast]) (fun hb => ?_) (fun hb => ?_) <;> (refine Nav.imp ?_)
              · refine awp_region cx [] fun K hK => ?_
                simp [push_cast]
                repeat (refine And.intro (by clear hK; intros; first | omega | (simp_all; done) | (simp_all <;> omega)) ?_)
                refine hK _ ?_; clear hK K; refine Nav.imp ?_
                refine awp_region_draw cx mixed [] fun K hK => ?_
                simp [push_cast, e1]
                repeat (refine And.intro (by clear hK; intros; first | omega | (simp_all; done) | (simp_all <;> omega)) ?_)
                refine hK _ _ (by kernel_rfl) ?_; clear hK K; refine Nav.imp ?_
                refine awp_region cx [] fun K hK => ?_
                simp [push_cast, w3, w4]
                repeat (refine And.intro (by clear hK; intros; first | omega | (simp_all; done) | (simp_all <;> omega)) ?_)
                refine hK _ ?_; clear hK K; refine Nav.imp ?_
                refine ⟨4, by omega, by omega, ?_⟩
                refine weak_of [(1, some 1), (2, some 2), (3, some 3), (4, some 4), (5, some 5), (6, some 6), (7, some 7), (8, some 8)] rfl (by simp [upT, up, upL, push_cast]) (by simp [upH, upR, upL, up, push_cast]) (by simp [namesOk, push_cast]) (by simp [olds])
              · simp at hb
            · simp (config := { decide := true }) only [if_true, if_false]
              refine Nav.imp ?_
              refine awp_region cx [] fun K hK => ?_
              simp [push_cast]
              repeat (refine And.intro (by clear hK; intros; first | omega | (simp_all; done) | (simp_all <;> omega)) ?_)
              refine hK _ ?_; clear hK K; refine Nav.imp ?_
              refine awp_cond (b := false) (by simp [push_cast]) (fun hb => ?_) (fun hb => ?_) <;> (refine Nav.imp ?_)
              · simp at hb
              · have c4 := under_ok m s ⟨b.real.p + p.p, b.real.q + p.q, b.real.r + p.r, b.real.s + p.s⟩
                have hlr := under_layer m s ⟨b.real.p + p.p, b.real.q + p.q, b.real.r + p.r, b.real.s + p.s⟩
                unfold underD at c4
                have hW : pulseW b m s p = hitF (extB { b with real := ⟨b.real.p + p.p, b.real.q + p.q, b.real.r + p.r, b.real.s + p.s⟩ } (underC m s ⟨b.real.p + p.p, b.real.q + p.q, b.real.r + p.r, b.real.s + p.s⟩) (underL m s ⟨b.real.p + p.p, b.real.q + p.q, b.real.r + p.r, b.real.s + p.s⟩) p.s) (underC m s ⟨b.real.p + p.p, b.real.q + p.q, b.real.r + p.r, b.real.s + p.s⟩) (underL m s ⟨b.real.p + p.p, b.real.q + p.q, b.real.r + p.r, b.real.s + p.s⟩) (p.p * p.p + p.q * p.q) := rfl
                generalize underC m s _ = c at *
                generalize underL m s _ = l at *
                have c5 := extrude_px { b with real := ⟨b.real.p + p.p, b.real.q + p.q, b.real.r + p.r, b.real.s + p.s⟩ } c l p.s hLv hl u0 u1 u2
                obtain ⟨x1, x2, x3⟩ := ext_facts (b := { b with real := ⟨b.real.p + p.p, b.real.q + p.q, b.real.r + p.r, b.real.s + p.s⟩ }) (c := c) (l := l) (k := p.s) hLv hl
                generalize extB { b with real := ⟨b.real.p + p.p, b.real.q + p.q, b.real.r + p.r, b.real.s + p.s⟩ } c l p.s = E at *
                have hby : p.p * p.p = (if p.p = 0 then 0 else 1) ∧ p.q * p.q = (if p.q = 0 then 0 else 1) := by
                  constructor
                  · rcases (show p.p = -1 ∨ p.p = 0 ∨ p.p = 1 by omega) with h | h | h <;> simp [h]
                  · rcases (show p.q = -1 ∨ p.q = 0 ∨ p.q = 1 by omega) with h | h | h <;> simp [h]
                have m1 := wrap_i64 (n := p.p * p.p) (by rw [hby.1]; split <;> omega) (by rw [hby.1]; split <;> omega)
                have m2 := wrap_i64 (n := p.q * p.q) (by rw [hby.2]; split <;> omega) (by rw [hby.2]; split <;> omega)
                have m3 := wrap_i64 (n := p.p * p.p + p.q * p.q) (by rw [hby.1, hby.2]; split <;> split <;> omega) (by rw [hby.1, hby.2]; split <;> split <;> omega)
                clear hby
                have c6 := hit_px E c l (p.p * p.p + p.q * p.q) hlr (fun R hR => small_valid (x1 R hR)) x2 (by rw [x3]; exact u3)
                have hHl := hit_lays (b := E) (c := c) (l := l) (k := p.p * p.p + p.q * p.q)
                generalize hitF E c l (p.p * p.p + p.q * p.q) = H at *
                have c7 := sound_ok H (by rw [hHl]; omega)
                rw [hW] at hP
                clear hW hB
                generalize soundB H = sb at *
                refine awp_region_draw cx mixed [(9, .p (.tup [.agg c.row, .int .i64 l]))] fun K hK => ?_
                simp [push_cast, c4, Cell.row]
                repeat (refine And.intro (by clear hK; intros; first | omega | (simp_all; done) | (simp_all <;> omega)) ?_)
                refine hK _ _ (by kernel_rfl) ?_; clear hK K; refine Nav.imp ?_
                refine awp_region cx [] fun K hK => ?_
                simp [push_cast]
                repeat (refine And.intro (by clear hK; intros; first | omega | (simp_all; done) | (simp_all <;> omega)) ?_)
                refine hK _ ?_; clear hK K; refine Nav.imp ?_
                refine awp_region cx [(3, .x ⟨[(0, 7), (1, 8)], [.ptr 0 0 0, .d (.int .i64 p.s)], [(0, ⟨75, 25, [Bench.wav { b with real := ⟨b.real.p + p.p, b.real.q + p.q, b.real.r + p.r, b.real.s + p.s⟩ } c l (.hs 1 0 b.lays.length)]⟩), (1, ⟨56, 1, dr (b.lays.map regRow)⟩)], [(0, 0)], some 1, [(0, ⟨75, 25, [Bench.wav E c l (.hs 1 0 E.lays.length)]⟩), (1, ⟨56, 1, dr (E.lays.map regRow)⟩)], .tup []⟩)] fun K hK => ?_
                simp [push_cast, c5]
                repeat (refine And.intro (by clear hK; intros; first | omega | (simp_all; done) | (simp_all <;> omega)) ?_)
                refine hK _ ?_; clear hK K; refine Nav.imp ?_
                refine awp_region cx [(12, .x ⟨[(0, 7), (1, 38)], [.ptr 0 0 0, .d (.int .i64 (p.p * p.p + p.q * p.q))], [(0, ⟨75, 25, [Bench.wav E c l (.hs 1 0 E.lays.length)]⟩), (1, ⟨56, 1, dr (E.lays.map regRow)⟩)], [(0, 0)], some 1, [(0, ⟨75, 25, [Bench.wav H c l (.hs 1 0 H.lays.length)]⟩), (1, ⟨56, 1, dr (H.lays.map regRow)⟩)], .tup []⟩)] fun K hK => ?_
                simp [push_cast, c6, m1, m2, m3]
                repeat (refine And.intro (by clear hK; intros; first | omega | (simp_all; done) | (simp_all <;> omega)) ?_)
                refine hK _ ?_; clear hK K; refine Nav.imp ?_
                refine awp_freeze 51 (H.lays.map regRow) rfl (by simp [push_cast]) fun K hK => ?_
                simp [push_cast, St.fz, fzT, fzH, fzO, fz, fzL, fzR, fzR_dr, fzR_app, fzR_set, fzL_map]
                refine hK _ ?_; clear hK K; refine Nav.imp ?_
                cases sb with
                | false =>
                  simp at hP
                  rw [hP]
                  refine awp_region cx [(4, .p (.bool false))] fun K hK => ?_
                  simp [push_cast, c7]
                  repeat (refine And.intro (by clear hK; intros; first | omega | (simp_all; done) | (simp_all <;> omega)) ?_)
                  refine hK _ ?_; clear hK K; refine Nav.imp ?_
                  refine awp_cond (b := true) (by simp [push_cast]) (fun hb => ?_) (fun hb => ?_) <;> (refine Nav.imp ?_)
                  · refine awp_region cx [] fun K hK => ?_
                    simp [push_cast]
                    repeat (refine And.intro (by clear hK; intros; first | omega | (simp_all; done) | (simp_all <;> omega)) ?_)
                    refine hK _ ?_; clear hK K; refine Nav.imp ?_
                    simp [push_cast]
                  · simp at hb
                | true =>
                  simp at hP
                  rw [hP]
                  refine awp_region cx [(4, .p (.bool true))] fun K hK => ?_
                  simp [push_cast, c7]
                  repeat (refine And.intro (by clear hK; intros; first | omega | (simp_all; done) | (simp_all <;> omega)) ?_)
                  refine hK _ ?_; clear hK K; refine Nav.imp ?_
                  refine awp_cond (b := false) (by simp [push_cast]) (fun hb => ?_) (fun hb => ?_) <;> (refine Nav.imp ?_)
                  · simp at hb
                  · refine awp_region cx [] fun K hK => ?_
                    simp [push_cast]
                    repeat (refine And.intro (by clear hK; intros; first | omega | (simp_all; done) | (simp_all <;> omega)) ?_)
                    refine hK _ ?_; clear hK K; refine Nav.imp ?_
                    simp [push_cast]
end Go.Proofs.Ytlfbjflfbjkbeaa

namespace Go.Proofs.Ytlfbjflfbjkbeaa
open Go.Abs

theorem run_of {f : Nat} {ds : List D} (h : hasT Try.prog (f + 2) 92 ds) : ∃ c : Run, ds = c.row := by
  obtain ⟨hl, hp⟩ := hasT_struct (n := 2) (ts := [3, 3]) Try.underlying92 (by kernel_rfl) rfl (by kernel_rfl) h
  obtain ⟨d0, r0, e0, h0, hp0⟩ := parts_one (by kernel_rfl) hp (by simp_all <;> omega)
  subst e0
  obtain ⟨d1, r1, e1, h1, hp1⟩ := parts_one (by kernel_rfl) hp0 (by simp_all <;> omega)
  subst e1
  simp only [parts] at hp1
  subst hp1
  obtain ⟨n0, e0, w0⟩ := hasT_int Try.underlying3 h0
  cases e0
  obtain ⟨n1, e1, w1⟩ := hasT_int Try.underlying3 h1
  cases e1
  exact ⟨⟨n0, n1⟩, rfl⟩
theorem runs_of {f : Nat} {d : D} (h : hasT Try.prog (f + 3) 70 [d]) : ∃ l : List Run, d = encRuns l := by
  obtain ⟨rows, he, _, hr⟩ := hasT_slice Try.underlying70 h
  cases he
  obtain ⟨l, rfl⟩ := rows_of (row := Run.row) fun r hr' => run_of (hr r hr')
  exact ⟨l, rfl⟩
theorem regrows_of {f : Nat} {d : D} (h : hasT Try.prog (f + 5) 54 [d]) : ∃ l : List Row, d = encRows l := by
  obtain ⟨rows, he, _, hr⟩ := hasT_slice Try.underlying54 h
  cases he
  obtain ⟨l, rfl⟩ := rows_of (row := Row.row) fun r hr' => by
    obtain ⟨hl, hp⟩ := hasT_struct (n := 2) (ts := [3, 70]) Try.underlying72 (by kernel_rfl) rfl (by kernel_rfl) (hr r hr')
    obtain ⟨d0, r0, e0, h0, hp0⟩ := parts_one (by kernel_rfl) hp (by simp_all <;> omega)
    subst e0
    obtain ⟨d1, r1, e1, h1, hp1⟩ := parts_one (by kernel_rfl) hp0 (by simp_all <;> omega)
    subst e1
    simp only [parts] at hp1
    subst hp1
    obtain ⟨n0, e0, w0⟩ := hasT_int Try.underlying3 h0
    cases e0
    obtain ⟨c, rfl⟩ := runs_of h1
    exact ⟨⟨n0, c⟩, rfl⟩
  exact ⟨l, rfl⟩
theorem region_of {f : Nat} {ds : List D} (h : hasT Try.prog (f + 6) 56 ds) : ∃ l : List Row, ds = regRow l := by
  obtain ⟨hl, hp⟩ := hasT_struct (n := 1) (ts := [54]) Try.underlying56 (by kernel_rfl) rfl (by kernel_rfl) h
  obtain ⟨d0, r0, e0, h0, hp0⟩ := parts_one (by kernel_rfl) hp (by simp_all <;> omega)
  subst e0
  simp only [parts] at hp0
  subst hp0
  obtain ⟨c, rfl⟩ := regrows_of h0
  exact ⟨c, rfl⟩

theorem own : ownKnob Try.prog.godebug = none := by kernel_rfl
theorem laidOut : laidOutB Try.prog = true := by kernel_rfl
def zeroCell : Value := .agg #[.int .i64 0, .int .i64 0]
def zeroReg : Value := .agg #[.slice none 0 0]
end Go.Proofs.Ytlfbjflfbjkbeaa

namespace Go.Proofs.Ytlfbjflfbjkbeaa
open Go.Abs

theorem axis_of {f : Nat} {ds : List D} (h : hasT Try.prog (f + 2) 23 ds) : ∃ c : Ax, ds = c.row := by
  obtain ⟨hl, hp⟩ := hasT_struct (n := 7) (ts := [3, 3, 3, 3, 3, 3, 3]) Try.underlying23 (by kernel_rfl) rfl (by kernel_rfl) h
  obtain ⟨d0, r0, e0, h0, hp0⟩ := parts_one (by kernel_rfl) hp (by simp_all <;> omega)
  subst e0
  obtain ⟨d1, r1, e1, h1, hp1⟩ := parts_one (by kernel_rfl) hp0 (by simp_all <;> omega)
  subst e1
  obtain ⟨d2, r2, e2, h2, hp2⟩ := parts_one (by kernel_rfl) hp1 (by simp_all <;> omega)
  subst e2
  obtain ⟨d3, r3, e3, h3, hp3⟩ := parts_one (by kernel_rfl) hp2 (by simp_all <;> omega)
  subst e3
  obtain ⟨d4, r4, e4, h4, hp4⟩ := parts_one (by kernel_rfl) hp3 (by simp_all <;> omega)
  subst e4
  obtain ⟨d5, r5, e5, h5, hp5⟩ := parts_one (by kernel_rfl) hp4 (by simp_all <;> omega)
  subst e5
  obtain ⟨d6, r6, e6, h6, hp6⟩ := parts_one (by kernel_rfl) hp5 (by simp_all <;> omega)
  subst e6
  simp only [parts] at hp6
  subst hp6
  obtain ⟨n0, e0, w0⟩ := hasT_int Try.underlying3 h0
  cases e0
  obtain ⟨n1, e1, w1⟩ := hasT_int Try.underlying3 h1
  cases e1
  obtain ⟨n2, e2, w2⟩ := hasT_int Try.underlying3 h2
  cases e2
  obtain ⟨n3, e3, w3⟩ := hasT_int Try.underlying3 h3
  cases e3
  obtain ⟨n4, e4, w4⟩ := hasT_int Try.underlying3 h4
  cases e4
  obtain ⟨n5, e5, w5⟩ := hasT_int Try.underlying3 h5
  cases e5
  obtain ⟨n6, e6, w6⟩ := hasT_int Try.underlying3 h6
  cases e6
  exact ⟨⟨n0, n1, n2, n3, n4, n5, n6⟩, rfl⟩
theorem hasT_arr {P : Program} {f : Nat} {t : TypeId} {ds : List D} {n m : Nat} {e : TypeId} (hu : P.underlying t = some (.array n e)) (hm : P.cellsOf e = m) (h : hasT P (f + 1) t ds) : ds.length = n * m ∧ ∀ i < n, hasT P f e ((ds.drop (i * m)).take m) := by
  simp only [hasT, hu, hm] at h; exact h
theorem arg_mach {x : D} (h : hasV Try.prog 26 x) : ∃ m : Mach, x = .agg m.row := by
  simp only [hasV, Try.underlying26] at h
  obtain ⟨cs, rfl, h⟩ := h
  obtain ⟨hl, hp⟩ := hasT_struct (n := 30) (ts := [24, 4, 3]) Try.underlying26 (by kernel_rfl) rfl (by kernel_rfl) h
  simp only [parts, show Try.prog.cellsOf 24 = 28 by kernel_rfl, show Try.prog.cellsOf 4 = 1 by kernel_rfl, show Try.prog.cellsOf 3 = 1 by kernel_rfl] at hp
  obtain ⟨h1, h2, h3, h4⟩ := hp
  obtain ⟨_, ha⟩ := hasT_arr (m := 7) Try.underlying24 (by kernel_rfl) h1
  match cs, hl with
  | [d0, d1, d2, d3, d4, d5, d6, d7, d8, d9, d10, d11, d12, d13, d14, d15, d16, d17, d18, d19, d20, d21, d22, d23, d24, d25, d26, d27, d28, d29], _ =>
    simp only [List.take, List.drop] at h2 h3
    obtain ⟨v, hv⟩ := hasT_bool Try.underlying4 h2
    obtain ⟨w, hw, _⟩ := hasT_int Try.underlying3 h3
    have q0 := ha 0 (by omega)
    have q1 := ha 1 (by omega)
    have q2 := ha 2 (by omega)
    have q3 := ha 3 (by omega)
    simp only [Nat.zero_mul, Nat.one_mul, Nat.reduceMul, List.take, List.drop] at q0 q1 q2 q3
    obtain ⟨x0, e0⟩ := axis_of q0
    obtain ⟨x1, e1⟩ := axis_of q1
    obtain ⟨x2, e2⟩ := axis_of q2
    obtain ⟨x3, e3⟩ := axis_of q3
    simp only [Ax.row, List.cons.injEq, and_true] at e0 e1 e2 e3 hv hw
    refine ⟨⟨x0, x1, x2, x3, v, w⟩, ?_⟩
    simp [Mach.row, e0, e1, e2, e3, hv, hw]
theorem arg_sett {x : D} (h : hasV Try.prog 28 x) : ∃ s : Sett, x = .agg s.row := by
  simp only [hasV, Try.underlying28] at h
  obtain ⟨cs, rfl, h⟩ := h
  obtain ⟨hl, hp⟩ := hasT_struct (n := 20) (ts := [3, 3, 3, 3, 3, 3, 3, 4, 3, 3, 3, 3, 3, 3, 3, 3, 3, 3, 3, 3]) Try.underlying28 (by kernel_rfl) rfl (by kernel_rfl) h
  obtain ⟨d0, r0, e0, h0, hp0⟩ := parts_one (by kernel_rfl) hp (by simp_all <;> omega)
  subst e0
  obtain ⟨d1, r1, e1, h1, hp1⟩ := parts_one (by kernel_rfl) hp0 (by simp_all <;> omega)
  subst e1
  obtain ⟨d2, r2, e2, h2, hp2⟩ := parts_one (by kernel_rfl) hp1 (by simp_all <;> omega)
  subst e2
  obtain ⟨d3, r3, e3, h3, hp3⟩ := parts_one (by kernel_rfl) hp2 (by simp_all <;> omega)
  subst e3
  obtain ⟨d4, r4, e4, h4, hp4⟩ := parts_one (by kernel_rfl) hp3 (by simp_all <;> omega)
  subst e4
  obtain ⟨d5, r5, e5, h5, hp5⟩ := parts_one (by kernel_rfl) hp4 (by simp_all <;> omega)
  subst e5
  obtain ⟨d6, r6, e6, h6, hp6⟩ := parts_one (by kernel_rfl) hp5 (by simp_all <;> omega)
  subst e6
  obtain ⟨d7, r7, e7, h7, hp7⟩ := parts_one (by kernel_rfl) hp6 (by simp_all <;> omega)
  subst e7
  obtain ⟨d8, r8, e8, h8, hp8⟩ := parts_one (by kernel_rfl) hp7 (by simp_all <;> omega)
  subst e8
  obtain ⟨d9, r9, e9, h9, hp9⟩ := parts_one (by kernel_rfl) hp8 (by simp_all <;> omega)
  subst e9
  obtain ⟨d10, r10, e10, h10, hp10⟩ := parts_one (by kernel_rfl) hp9 (by simp_all <;> omega)
  subst e10
  obtain ⟨d11, r11, e11, h11, hp11⟩ := parts_one (by kernel_rfl) hp10 (by simp_all <;> omega)
  subst e11
  obtain ⟨d12, r12, e12, h12, hp12⟩ := parts_one (by kernel_rfl) hp11 (by simp_all <;> omega)
  subst e12
  obtain ⟨d13, r13, e13, h13, hp13⟩ := parts_one (by kernel_rfl) hp12 (by simp_all <;> omega)
  subst e13
  obtain ⟨d14, r14, e14, h14, hp14⟩ := parts_one (by kernel_rfl) hp13 (by simp_all <;> omega)
  subst e14
  obtain ⟨d15, r15, e15, h15, hp15⟩ := parts_one (by kernel_rfl) hp14 (by simp_all <;> omega)
  subst e15
  obtain ⟨d16, r16, e16, h16, hp16⟩ := parts_one (by kernel_rfl) hp15 (by simp_all <;> omega)
  subst e16
  obtain ⟨d17, r17, e17, h17, hp17⟩ := parts_one (by kernel_rfl) hp16 (by simp_all <;> omega)
  subst e17
  obtain ⟨d18, r18, e18, h18, hp18⟩ := parts_one (by kernel_rfl) hp17 (by simp_all <;> omega)
  subst e18
  obtain ⟨d19, r19, e19, h19, hp19⟩ := parts_one (by kernel_rfl) hp18 (by simp_all <;> omega)
  subst e19
  simp only [parts] at hp19
  subst hp19
  obtain ⟨n0, e0, w0⟩ := hasT_int Try.underlying3 h0
  cases e0
  obtain ⟨n1, e1, w1⟩ := hasT_int Try.underlying3 h1
  cases e1
  obtain ⟨n2, e2, w2⟩ := hasT_int Try.underlying3 h2
  cases e2
  obtain ⟨n3, e3, w3⟩ := hasT_int Try.underlying3 h3
  cases e3
  obtain ⟨n4, e4, w4⟩ := hasT_int Try.underlying3 h4
  cases e4
  obtain ⟨n5, e5, w5⟩ := hasT_int Try.underlying3 h5
  cases e5
  obtain ⟨n6, e6, w6⟩ := hasT_int Try.underlying3 h6
  cases e6
  obtain ⟨n7, e7⟩ := hasT_bool Try.underlying4 h7
  cases e7
  obtain ⟨n8, e8, w8⟩ := hasT_int Try.underlying3 h8
  cases e8
  obtain ⟨n9, e9, w9⟩ := hasT_int Try.underlying3 h9
  cases e9
  obtain ⟨n10, e10, w10⟩ := hasT_int Try.underlying3 h10
  cases e10
  obtain ⟨n11, e11, w11⟩ := hasT_int Try.underlying3 h11
  cases e11
  obtain ⟨n12, e12, w12⟩ := hasT_int Try.underlying3 h12
  cases e12
  obtain ⟨n13, e13, w13⟩ := hasT_int Try.underlying3 h13
  cases e13
  obtain ⟨n14, e14, w14⟩ := hasT_int Try.underlying3 h14
  cases e14
  obtain ⟨n15, e15, w15⟩ := hasT_int Try.underlying3 h15
  cases e15
  obtain ⟨n16, e16, w16⟩ := hasT_int Try.underlying3 h16
  cases e16
  obtain ⟨n17, e17, w17⟩ := hasT_int Try.underlying3 h17
  cases e17
  obtain ⟨n18, e18, w18⟩ := hasT_int Try.underlying3 h18
  cases e18
  obtain ⟨n19, e19, w19⟩ := hasT_int Try.underlying3 h19
  cases e19
  exact ⟨⟨n0, n1, n2, n3, n4, n5, n6, n7, n8, n9, n10, n11, n12, n13, n14, n15, n16, n17, n18, n19⟩, rfl⟩
theorem ints4_of {f : Nat} {ds : List D} (h : hasT Try.prog (f + 2) 29 ds) : ∃ x : Pos, ds = x.row := by
  obtain ⟨hl, ha⟩ := hasT_arr (m := 1) Try.underlying29 (by kernel_rfl) h
  match ds, hl with
  | [d0, d1, d2, d3], _ =>
    have q0 := ha 0 (by omega)
    have q1 := ha 1 (by omega)
    have q2 := ha 2 (by omega)
    have q3 := ha 3 (by omega)
    simp only [Nat.zero_mul, Nat.one_mul, Nat.reduceMul, List.take, List.drop] at q0 q1 q2 q3
    obtain ⟨x0, e0, _⟩ := hasT_int Try.underlying3 q0
    obtain ⟨x1, e1, _⟩ := hasT_int Try.underlying3 q1
    obtain ⟨x2, e2, _⟩ := hasT_int Try.underlying3 q2
    obtain ⟨x3, e3, _⟩ := hasT_int Try.underlying3 q3
    simp only [List.cons.injEq, and_true] at e0 e1 e2 e3
    exact ⟨⟨x0, x1, x2, x3⟩, by simp [e0, e1, e2, e3]⟩
theorem arg_pos {x : D} (h : hasV Try.prog 29 x) : ∃ p : Pos, x = .agg p.row := by
  simp only [hasV, Try.underlying29] at h
  obtain ⟨cs, rfl, h⟩ := h
  obtain ⟨s, rfl⟩ := ints4_of (f := 28) h
  exact ⟨s, rfl⟩
def zeroMach : Value := .agg #[.int .i64 0, .int .i64 0, .int .i64 0, .int .i64 0, .int .i64 0, .int .i64 0, .int .i64 0, .int .i64 0, .int .i64 0, .int .i64 0, .int .i64 0, .int .i64 0, .int .i64 0, .int .i64 0, .int .i64 0, .int .i64 0, .int .i64 0, .int .i64 0, .int .i64 0, .int .i64 0, .int .i64 0, .int .i64 0, .int .i64 0, .int .i64 0, .int .i64 0, .int .i64 0, .int .i64 0, .int .i64 0, .bool false, .int .i64 0]
def zeroSett : Value := .agg #[.int .i64 0, .int .i64 0, .int .i64 0, .int .i64 0, .int .i64 0, .int .i64 0, .int .i64 0, .bool false, .int .i64 0, .int .i64 0, .int .i64 0, .int .i64 0, .int .i64 0, .int .i64 0, .int .i64 0, .int .i64 0, .int .i64 0, .int .i64 0, .int .i64 0, .int .i64 0]
def zeroPos : Value := .agg #[.int .i64 0, .int .i64 0, .int .i64 0, .int .i64 0]
end Go.Proofs.Ytlfbjflfbjkbeaa

namespace Go.Proofs.Ytlfbjflfbjkbeaa
open Go.Abs

def axM : Ax := ⟨2, 1, 1000, 50, 10, -9000, 9000⟩
def axZ : Ax := ⟨0, 0, 0, 0, 0, 0, 0⟩
def awM : Mach := ⟨axM, axM, axM, axM, false, 1000⟩
def awS : Sett := ⟨100, 20, 0, 0, 0, 0, 0, false, 0, 0, 0, 0, 0, 0, 0, 0, 0, 0, 0, 0⟩
def awP : Pos := ⟨300, -2, 40, 0⟩
def awB : Bench := ⟨awP, 0, 0, 0, 0, 0, 0, 0, 0, 0, 0, 1, 0, 0, [], 0, false, false, false⟩
theorem machine_ok : PC Try.prog 26 [] (.p (.agg awM.row)) := by
  have w3 : IntKind.i64.wrap 3 = 3 := by decide
  have w4 : IntKind.i64.wrap 4 = 4 := by decide
  refine pc_of_awp cx (fn := Try.f26) (c := _) Try.func26 rfl rfl (Nat.le_of_ble_eq_true rfl) ?_
  rw [Try.ntmps26]; refine Nav.imp ?_
  refine awp_region cx [] fun K hK => ?_
  simp [push_cast]
  repeat (refine And.intro (by clear hK; intros; first | omega | (simp_all; done) | (simp_all <;> omega)) ?_)
  refine hK _ ?_; clear hK K; refine Nav.imp ?_
  refine awp_region cx [] fun K hK => ?_
  simp [push_cast]
  repeat (refine And.intro (by clear hK; intros; first | omega | (simp_all; done) | (simp_all <;> omega)) ?_)
  refine hK _ ?_; clear hK K; refine Nav.imp ?_
  refine awp_region cx [] fun K hK => ?_
  simp [push_cast]
  repeat (refine And.intro (by clear hK; intros; first | omega | (simp_all; done) | (simp_all <;> omega)) ?_)
  refine hK _ ?_; clear hK K; refine Nav.imp ?_
  refine awp_loop (β := Nat) (fun i => ⟨13, [(0, .ptr 0 0 0), (1, .ptr 1 0 0), (2, .d (.int .i64 i))], [(0, some ⟨26, 30, [(Mach.row ⟨axZ, axZ, axZ, axZ, false, 0⟩).map .d]⟩), (1, some ⟨26, 30, [(Mach.row ⟨if 0 < i then axM else axZ, if 1 < i then axM else axZ, if 2 < i then axM else axZ, if 3 < i then axM else axZ, false, 1000⟩).map .d]⟩)], 2⟩) (fun i => i ≤ 4) (fun i => 4 - i) 0 ?_ (Nat.zero_le _) ?_
  · refine weak_of [(0, some 0), (1, some 2)] rfl (by simp [upT, up, upL, push_cast, axZ]) (by simp [upH, upR, upL, up, push_cast, axZ]) (by simp [namesOk, push_cast]) (by simp [olds])
  · rintro i hi
    rcases (show i = 0 ∨ i = 1 ∨ i = 2 ∨ i = 3 ∨ i = 4 by omega) with rfl | rfl | rfl | rfl | rfl
    · simp (config := { decide := true }) only [if_true, if_false]
      simp only [axM, axZ]
      refine Nav.imp ?_
      refine awp_region cx [] fun K hK => ?_
      simp [push_cast]
      repeat (refine And.intro (by clear hK; intros; first | omega | (simp_all; done) | (simp_all <;> omega)) ?_)
      refine hK _ ?_; clear hK K; refine Nav.imp ?_
      refine awp_cond (b := true) (by simp [push_cast]) (fun hb => ?_) (fun hb => ?_) <;> (refine Nav.imp ?_)
      · refine awp_region cx [] fun K hK => ?_
        simp [push_cast]
        repeat (refine And.intro (by clear hK; intros; first | omega | (simp_all; done) | (simp_all <;> omega)) ?_)
        refine hK _ ?_; clear hK K; refine Nav.imp ?_
        refine awp_region cx [] fun K hK => ?_
        simp [push_cast, w3, w4]
        repeat (refine And.intro (by clear hK; intros; first | omega | (simp_all; done) | (simp_all <;> omega)) ?_)
        refine hK _ ?_; clear hK K; refine Nav.imp ?_
        refine ⟨1, by omega, by omega, ?_⟩
        refine weak_of [(0, some 0), (1, some 1)] rfl (by simp [upT, up, upL, push_cast, axM, axZ]) (by simp [upH, upR, upL, up, push_cast, axM, axZ]) (by simp [namesOk, push_cast]) (by simp [olds])
      · simp at hb
    · simp (config := { decide := true }) only [if_true, if_false]
      simp only [axM, axZ]
      refine Nav.imp ?_
      refine awp_region cx [] fun K hK => ?_
      simp [push_cast]
      repeat (refine And.intro (by clear hK; intros; first | omega | (simp_all; done) | (simp_all <;> omega)) ?_)
      refine hK _ ?_; clear hK K; refine Nav.imp ?_
      refine awp_cond (b := true) (by simp [push_cast]) (fun hb => ?_) (fun hb => ?_) <;> (refine Nav.imp ?_)
      · refine awp_region cx [] fun K hK => ?_
        simp [push_cast]
        repeat (refine And.intro (by clear hK; intros; first | omega | (simp_all; done) | (simp_all <;> omega)) ?_)
        refine hK _ ?_; clear hK K; refine Nav.imp ?_
        refine awp_region cx [] fun K hK => ?_
        simp [push_cast, w3, w4]
        repeat (refine And.intro (by clear hK; intros; first | omega | (simp_all; done) | (simp_all <;> omega)) ?_)
        refine hK _ ?_; clear hK K; refine Nav.imp ?_
        refine ⟨2, by omega, by omega, ?_⟩
        refine weak_of [(0, some 0), (1, some 1)] rfl (by simp [upT, up, upL, push_cast, axM, axZ]) (by simp [upH, upR, upL, up, push_cast, axM, axZ]) (by simp [namesOk, push_cast]) (by simp [olds])
      · simp at hb
    · simp (config := { decide := true }) only [if_true, if_false]
      simp only [axM, axZ]
      refine Nav.imp ?_
      refine awp_region cx [] fun K hK => ?_
      simp [push_cast]
      repeat (refine And.intro (by clear hK; intros; first | omega | (simp_all; done) | (simp_all <;> omega)) ?_)
      refine hK _ ?_; clear hK K; refine Nav.imp ?_
      refine awp_cond (b := true) (by simp [push_cast]) (fun hb => ?_) (fun hb => ?_) <;> (refine Nav.imp ?_)
      · refine awp_region cx [] fun K hK => ?_
        simp [push_cast]
        repeat (refine And.intro (by clear hK; intros; first | omega | (simp_all; done) | (simp_all <;> omega)) ?_)
        refine hK _ ?_; clear hK K; refine Nav.imp ?_
        refine awp_region cx [] fun K hK => ?_
        simp [push_cast, w3, w4]
        repeat (refine And.intro (by clear hK; intros; first | omega | (simp_all; done) | (simp_all <;> omega)) ?_)
        refine hK _ ?_; clear hK K; refine Nav.imp ?_
        refine ⟨3, by omega, by omega, ?_⟩
        refine weak_of [(0, some 0), (1, some 1)] rfl (by simp [upT, up, upL, push_cast, axM, axZ]) (by simp [upH, upR, upL, up, push_cast, axM, axZ]) (by simp [namesOk, push_cast]) (by simp [olds])
      · simp at hb
    · simp (config := { decide := true }) only [if_true, if_false]
      simp only [axM, axZ]
      refine Nav.imp ?_
      refine awp_region cx [] fun K hK => ?_
      simp [push_cast]
      repeat (refine And.intro (by clear hK; intros; first | omega | (simp_all; done) | (simp_all <;> omega)) ?_)
      refine hK _ ?_; clear hK K; refine Nav.imp ?_
      refine awp_cond (b := true) (by simp [push_cast]) (fun hb => ?_) (fun hb => ?_) <;> (refine Nav.imp ?_)
      · refine awp_region cx [] fun K hK => ?_
        simp [push_cast]
        repeat (refine And.intro (by clear hK; intros; first | omega | (simp_all; done) | (simp_all <;> omega)) ?_)
        refine hK _ ?_; clear hK K; refine Nav.imp ?_
        refine awp_region cx [] fun K hK => ?_
        simp [push_cast, w3, w4]
        repeat (refine And.intro (by clear hK; intros; first | omega | (simp_all; done) | (simp_all <;> omega)) ?_)
        refine hK _ ?_; clear hK K; refine Nav.imp ?_
        refine ⟨4, by omega, by omega, ?_⟩
        refine weak_of [(0, some 0), (1, some 1)] rfl (by simp [upT, up, upL, push_cast, axM, axZ]) (by simp [upH, upR, upL, up, push_cast, axM, axZ]) (by simp [namesOk, push_cast]) (by simp [olds])
      · simp at hb
    · simp (config := { decide := true }) only [if_true, if_false]
      simp only [axM, axZ]
      refine Nav.imp ?_
      refine awp_region cx [] fun K hK => ?_
      simp [push_cast]
      repeat (refine And.intro (by clear hK; intros; first | omega | (simp_all; done) | (simp_all <;> omega)) ?_)
      refine hK _ ?_; clear hK K; refine Nav.imp ?_
      refine awp_cond (b := false) (by simp [push_cast]) (fun hb => ?_) (fun hb => ?_) <;> (refine Nav.imp ?_)
      · simp at hb
      · refine awp_region cx [] fun K hK => ?_
        simp [push_cast]
        repeat (refine And.intro (by clear hK; intros; first | omega | (simp_all; done) | (simp_all <;> omega)) ?_)
        refine hK _ ?_; clear hK K; refine Nav.imp ?_
        simp [push_cast, awM, axM]
theorem aw_under : underD awM awS awP = .tup [.agg [.int .i64 1, .int .i64 (-1)], .int .i64 0] := by kernel_rfl
theorem aw_pulse : pulseB awB awM awS ⟨0, 0, 0, 1⟩ = { awB with real := ⟨300, -2, 40, 1⟩, filament := 0, lays := [[⟨-1, [⟨1, 2⟩]⟩]] } := by kernel_rfl
theorem aw_con : conB [⟨-1, [⟨1, 2⟩]⟩] ⟨1, -1⟩ = true := by kernel_rfl
theorem awake55_ok : PC Try.prog 9 [] (.p (.bool true)) := by
  have c0 := machine_ok
  have c1 := under_ok awM awS awP
  rw [aw_under] at c1
  simp only [Sett.row, Pos.row, awS, awP] at c1
  have c2 := pulse_ok awB awM awS ⟨0, 0, 0, 1⟩ ⟨by simp [awB], by simp [awB]⟩
  rw [aw_pulse] at c2
  simp only [Bench.row, Pos.row, Sett.row, awS, awP, awB, encLays, List.map_nil] at c2
  have c3 := contains18_ok [⟨-1, [⟨1, 2⟩]⟩] ⟨1, -1⟩ (small_valid (by kernel_rfl))
  rw [aw_con] at c3
  refine pc_of_awp cx (fn := Try.f9) (c := _) Try.func9 rfl rfl (Nat.le_of_ble_eq_true rfl) ?_
  rw [Try.ntmps9]; refine Nav.imp ?_
  refine awp_region cx [] fun K hK => ?_
  simp [push_cast]
  repeat (refine And.intro (by clear hK; intros; first | omega | (simp_all; done) | (simp_all <;> omega)) ?_)
  refine hK _ ?_; clear hK K; refine Nav.imp ?_
  refine awp_region cx [] fun K hK => ?_
  simp [push_cast]
  repeat (refine And.intro (by clear hK; intros; first | omega | (simp_all; done) | (simp_all <;> omega)) ?_)
  refine hK _ ?_; clear hK K; refine Nav.imp ?_
  refine awp_region_draw cx mixed [(0, .p (.agg awM.row)), (3, .p (.tup [.agg [.int .i64 1, .int .i64 (-1)], .int .i64 0]))] fun K hK => ?_
  simp [push_cast, c0, c1]
  repeat (refine And.intro (by clear hK; intros; first | omega | (simp_all; done) | (simp_all <;> omega)) ?_)
  refine hK _ _ (by kernel_rfl) ?_; clear hK K; refine Nav.imp ?_
  refine awp_region_draw cx mixed [(2, .p (.agg awM.row)), (5, .p (.agg (Bench.row { awB with real := ⟨300, -2, 40, 1⟩, filament := 0, lays := [[⟨-1, [⟨1, 2⟩]⟩]] })))] fun K hK => ?_
  simp [push_cast, c0, c2, awS, awP, awB]
  repeat (refine And.intro (by clear hK; intros; first | omega | (simp_all; done) | (simp_all <;> omega)) ?_)
  refine hK _ _ (by kernel_rfl) ?_; clear hK K; refine Nav.imp ?_
  refine awp_region_draw cx mixed [(19, .p (.bool true))] fun K hK => ?_
  simp [push_cast, c3, Row.row, Run.row, Cell.row]
  repeat (refine And.intro (by clear hK; intros; first | omega | (simp_all; done) | (simp_all <;> omega)) ?_)
  refine hK _ _ (by kernel_rfl) ?_; clear hK K; refine Nav.imp ?_
  simp [push_cast]
end Go.Proofs.Ytlfbjflfbjkbeaa

namespace Go.Proofs.Ytlfbjflfbjkbeaa
open Go.Abs

def cutW (w : Row) : Row := ⟨w.y, w.runs.take 4⟩
def fewR (R : List Row) : List Row := (R.take 8).map cutW
def fewL (L : List (List Row)) : List (List Row) := (L.take 6).map fewR
def fewB (b : Bench) : Bench := { b with lays := fewL b.lays }
theorem few_facts (L : List (List Row)) : (fewL L).length ≤ 6 ∧ ∀ R ∈ fewL L, R.length ≤ 8 ∧ ∀ w ∈ R, w.runs.length ≤ 4 := by
  refine ⟨by simp [fewL]; omega, fun R hR => ?_⟩
  obtain ⟨S, _, rfl⟩ := List.mem_map.1 hR
  refine ⟨by simp [fewR]; omega, fun w hw => ?_⟩
  obtain ⟨v, _, rfl⟩ := List.mem_map.1 hw
  simp [cutW]; omega
theorem few_small (b : Bench) : smallL (fewB b).lays := by
  obtain ⟨h1, h2⟩ := few_facts b.lays
  refine ⟨by simp only [fewB]; omega, fun R hR => ?_⟩
  obtain ⟨h3, h4⟩ := h2 R hR
  exact ⟨by omega, fun w hw => by have := h4 w hw; omega⟩
theorem map_take_get {α β : Type} (f : α → β) {l : List α} {k : Nat} {x : α} (h : l[k]? = some x) : (l.take (k + 1)).map f = (l.take k).map f ++ [f x] := by
  rw [take_get h, List.map_append]; rfl
set_option maxHeartbeats 4000000 in
theorem few_ok (b : Bench) : PC Try.prog 10 [.agg b.row] (.p (.agg (fewB b).row)) := by
  have hB : (fewB b).row = Bench.row { b with lays := fewL b.lays } := rfl
  rw [hB]
  generalize hF : fewL b.lays = F at *
  refine pc_of_awp cx (fn := Try.f10) (c := _) Try.func10 rfl rfl (Nat.le_of_ble_eq_true rfl) ?_
  rw [Try.ntmps10]; refine Nav.imp ?_
  refine awp_region cx [] fun K hK => ?_
  simp [push_cast]
  repeat (refine And.intro (by clear hK; intros; first | omega | (simp_all; done) | (simp_all <;> omega)) ?_)
  refine hK _ ?_; clear hK K; refine Nav.imp ?_
  refine awp_region cx [] fun K hK => ?_
  simp [push_cast]
  repeat (refine And.intro (by clear hK; intros; first | omega | (simp_all; done) | (simp_all <;> omega)) ?_)
  refine hK _ ?_; clear hK K; refine Nav.imp ?_
  refine awp_region cx [] fun K hK => ?_
  simp [push_cast]
  repeat (refine And.intro (by clear hK; intros; first | omega | (simp_all; done) | (simp_all <;> omega)) ?_)
  refine hK _ ?_; clear hK K; refine Nav.imp ?_
  refine awp_loop (β := Nat × List (List Row)) (fun z => ⟨64, [(1, .ptr 0 0 0), (2, .ptr 1 0 0), (3, .hs 2 0 z.2.length), (4, .d (.int .i64 z.1))], [(0, some ⟨43, 22, [b.row.map .d]⟩), (1, some ⟨43, 22, benchZ⟩), (2, some ⟨56, 1, dr (z.2.map regRow)⟩)], 3⟩) (fun z => z.1 ≤ b.lays.length ∧ z.1 ≤ 6 ∧ z.2 = (b.lays.take z.1).map fewR) (fun z => 6 - z.1) (0, []) ?_ ⟨Nat.zero_le _, by omega, by simp⟩ ?_
  · refine weak_of [(0, some 0), (1, some 1), (2, none)] rfl (by simp [upT, up, upL, push_cast]) (by simp [upH, upR, upL, up, push_cast]) (by simp [namesOk, push_cast]) (by simp [olds])
  · rintro ⟨i, G⟩ ⟨hi, hi6, hG⟩
    simp only at hi hi6 hG
    refine Nav.imp ?_
    refine awp_region cx [] fun K hK => ?_
    simp [push_cast]
    repeat (refine And.intro (by clear hK; intros; first | omega | (simp_all; done) | (simp_all <;> omega)) ?_)
    refine hK _ ?_; clear hK K; refine Nav.imp ?_
    refine awp_cond (b := decide (i < b.lays.length) && decide ((i : Int) < 6)) (by simp [push_cast]) (fun hb => ?_) (fun hb => ?_) <;> (refine Nav.imp ?_)
    · obtain ⟨hlt, hl6⟩ : i < b.lays.length ∧ i < 6 := by simp at hb; omega
      obtain ⟨R, hR⟩ := getq hlt
      have e0 := wrap_i64 (n := (i : Int) + 1) (by omega) (by omega)
      have hGl : G.length ≤ 6 := by rw [hG]; simp; omega
      have h24 : (G.length + 1) * 24 ≤ 140737488355328 := by omega
      have hGn := map_take_get fewR hR
      rw [← hG] at hGn
      refine awp_region cx [] fun K hK => ?_
      simp [push_cast]
      repeat (refine And.intro (by clear hK; intros; first | omega | (simp_all; done) | (simp_all <;> omega)) ?_)
      refine hK _ ?_; clear hK K; refine Nav.imp ?_
      refine awp_region cx [] fun K hK => ?_
      simp [push_cast]
      repeat (refine And.intro (by clear hK; intros; first | omega | (simp_all; done) | (simp_all <;> omega)) ?_)
      refine hK _ ?_; clear hK K; refine Nav.imp ?_
      refine awp_loop (β := Nat × List Row) (fun z => ⟨64, [(1, .ptr 0 0 0), (2, .ptr 1 0 0), (3, .hs 2 0 G.length), (4, .d (.int .i64 i)), (5, .ptr 3 0 0), (6, .d (.int .i64 z.1))], [(0, some ⟨43, 22, [b.row.map .d]⟩), (1, some ⟨43, 22, benchZ⟩), (2, some ⟨56, 1, dr (G.map regRow)⟩), (3, some ⟨56, 1, [[.hs 4 0 z.2.length]]⟩), (4, some ⟨72, 2, dr (z.2.map Row.row)⟩)], 5⟩) (fun z => z.1 ≤ R.length ∧ z.1 ≤ 8 ∧ z.2 = (R.take z.1).map cutW) (fun z => 8 - z.1) (0, []) ?_ ⟨Nat.zero_le _, by omega, by simp⟩ ?_
      · refine weak_of [(0, some 0), (1, some 1), (2, some 2), (3, some 12), (4, none)] rfl (by simp [upT, up, upL, push_cast]) (by simp [upH, upR, upL, up, push_cast]) (by simp [namesOk, push_cast]) (by simp [olds])
      · rintro ⟨k, X⟩ ⟨hk, hk8, hX⟩
        simp only at hk hk8 hX
        refine Nav.imp ?_
        refine awp_region cx [] fun K hK => ?_
        simp [push_cast, hR]
        repeat (refine And.intro (by clear hK; intros; first | omega | (simp_all; done) | (simp_all <;> omega)) ?_)
        refine hK _ ?_; clear hK K; refine Nav.imp ?_
        refine awp_cond (b := decide (k < R.length) && decide ((k : Int) < 8)) (by simp [push_cast]) (fun hb => ?_) (fun hb => ?_) <;> (refine Nav.imp ?_)
        · obtain ⟨hlk, hl8⟩ : k < R.length ∧ k < 8 := by simp at hb; omega
          obtain ⟨w, hw⟩ := getq hlk
          have e1 := wrap_i64 (n := (k : Int) + 1) (by omega) (by omega)
          have hXl : X.length ≤ 8 := by rw [hX]; simp; omega
          have h32 : (X.length + 1) * 32 ≤ 140737488355328 := by omega
          have hnx := map_take_get cutW hw
          rw [← hX] at hnx
          refine awp_region cx [] fun K hK => ?_
          simp [push_cast, hR, hw, Row.row]
          repeat (refine And.intro (by clear hK; intros; first | omega | (simp_all; done) | (simp_all <;> omega)) ?_)
          refine hK _ ?_; clear hK K; refine Nav.imp ?_
          refine awp_region cx [] fun K hK => ?_
          simp [push_cast]
          repeat (refine And.intro (by clear hK; intros; first | omega | (simp_all; done) | (simp_all <;> omega)) ?_)
          refine hK _ ?_; clear hK K; refine Nav.imp ?_
          by_cases q : (4 : Int) < w.runs.length
          · have hc : cutW w = ⟨w.y, w.runs.take 4⟩ := rfl
            rw [hc] at hnx
            have q4 : 4 ≤ w.runs.length := by omega
            have hm : List.take 4 (w.runs.map Run.row) = (w.runs.take 4).map Run.row := (List.map_take ..).symm
            generalize w.runs.take 4 = U at *
            refine awp_cond (b := true) (by simp [push_cast, q]) (fun hb => ?_) (fun hb => ?_) <;> (refine Nav.imp ?_)
            · refine awp_region cx [] fun K hK => ?_
              simp [push_cast, q, q4, hm]
              repeat (refine And.intro (by clear hK; intros; first | omega | (simp_all; done) | (simp_all <;> omega)) ?_)
              refine hK _ ?_; clear hK K; refine Nav.imp ?_
              refine awp_region cx [] fun K hK => ?_
              simp [push_cast, h32, Row.row]
              repeat (refine And.intro (by clear hK; intros; first | omega | (simp_all; done) | (simp_all <;> omega)) ?_)
              refine hK _ ?_; clear hK K; refine Nav.imp ?_
              refine awp_region cx [] fun K hK => ?_
              simp [push_cast, e1]
              repeat (refine And.intro (by clear hK; intros; first | omega | (simp_all; done) | (simp_all <;> omega)) ?_)
              refine hK _ ?_; clear hK K; refine Nav.imp ?_
              refine ⟨(k + 1, X ++ [⟨w.y, U⟩]), ⟨hlk, by simp only; omega, hnx.symm⟩, by simp only; omega, ?_⟩
              refine weak_of [(0, some 0), (1, some 1), (2, some 2), (3, some 3), (4, some 42)] rfl (by simp [upT, up, upL, push_cast, Row.row]) (by simp [upH, upR, upL, up, push_cast, Row.row]) (by simp [namesOk, push_cast]) (by simp [olds])
            · simp at hb
          · have q' : ((w.runs.length : Int) ≤ 4) := by omega
            refine awp_cond (b := false) (by simp [push_cast, q']) (fun hb => ?_) (fun hb => ?_) <;> (refine Nav.imp ?_)
            · simp at hb
            · have ht : w.runs.take 4 = w.runs := List.take_of_length_le (by omega)
              have hc : cutW w = w := by simp only [cutW, ht]
              rw [hc] at hnx
              refine awp_region cx [] fun K hK => ?_
              simp [push_cast, h32, Row.row]
              repeat (refine And.intro (by clear hK; intros; first | omega | (simp_all; done) | (simp_all <;> omega)) ?_)
              refine hK _ ?_; clear hK K; refine Nav.imp ?_
              refine awp_region cx [] fun K hK => ?_
              simp [push_cast, e1]
              repeat (refine And.intro (by clear hK; intros; first | omega | (simp_all; done) | (simp_all <;> omega)) ?_)
              refine hK _ ?_; clear hK K; refine Nav.imp ?_
              refine ⟨(k + 1, X ++ [w]), ⟨hlk, by simp only; omega, hnx.symm⟩, by simp only; omega, ?_⟩
              refine weak_of [(0, some 0), (1, some 1), (2, some 2), (3, some 3), (4, some 37)] rfl (by simp [upT, up, upL, push_cast, Row.row]) (by simp [upH, upR, upL, up, push_cast, Row.row]) (by simp [namesOk, push_cast]) (by simp [olds])
        · have hex : X = fewR R := by
            rw [hX]
            unfold fewR
            by_cases q : k = 8
            · subst q; rfl
            · have : k = R.length := by
                simp at hb; omega
              subst this
              rw [List.take_length, List.take_of_length_le (by omega)]
          refine awp_freeze 4 (X.map Row.row) rfl (by simp [push_cast]) fun K hK => ?_
          simp [push_cast, St.fz, fzT, fzH, fzO, fz, fzL, fzR, fzR_dr, fzR_app, fzR_set, fzL_map]
          refine hK _ ?_; clear hK K; refine Nav.imp ?_
          refine awp_region cx [] fun K hK => ?_
          simp [push_cast, h24]
          repeat (refine And.intro (by clear hK; intros; first | omega | (simp_all; done) | (simp_all <;> omega)) ?_)
          refine hK _ ?_; clear hK K; refine Nav.imp ?_
          refine awp_region cx [] fun K hK => ?_
          simp [push_cast, e0]
          repeat (refine And.intro (by clear hK; intros; first | omega | (simp_all; done) | (simp_all <;> omega)) ?_)
          refine hK _ ?_; clear hK K; refine Nav.imp ?_
          refine ⟨(i + 1, G ++ [X]), ⟨hlt, by simp only; omega, by rw [hGn, hex]⟩, by simp only; omega, ?_⟩
          refine weak_of [(0, some 0), (1, some 1), (2, some 21)] rfl (by simp [upT, up, upL, push_cast]) (by simp [upH, upR, upL, up, push_cast]) (by simp [namesOk, push_cast]) (by simp [olds])
    · have hex : G = F := by
        rw [← hF, hG]; unfold fewL
        by_cases q : i = 6
        · subst q; rfl
        · have : i = b.lays.length := by
            simp at hb; omega
          subst this
          rw [List.take_length, List.take_of_length_le (by omega)]
      subst hex
      refine awp_region cx [] fun K hK => ?_
      simp [push_cast]
      repeat (refine And.intro (by clear hK; intros; first | omega | (simp_all; done) | (simp_all <;> omega)) ?_)
      refine hK _ ?_; clear hK K; refine Nav.imp ?_
      refine awp_region cx [] fun K hK => ?_
      simp [push_cast]
      repeat (refine And.intro (by clear hK; intros; first | omega | (simp_all; done) | (simp_all <;> omega)) ?_)
      refine hK _ ?_; clear hK K; refine Nav.imp ?_
      simp [push_cast]
end Go.Proofs.Ytlfbjflfbjkbeaa

namespace Go.Proofs.Ytlfbjflfbjkbeaa
open Go.Abs

theorem filt_len (p : Cell → Bool) : ∀ l : List Cell, (l.filter p).length + (l.filter fun c => !p c).length = l.length
  | [] => rfl
  | a :: l => by
    have := filt_len p l
    cases h : p a <;> simp [h] <;> omega
theorem opR_count {a b : List Row} (ha : validR a = true) (hb : validR b = true) : (regCells (opR fU a b)).length + (regCells (opR fI a b)).length = (regCells a).length + (regCells b).length := by
  obtain ⟨vU, mU⟩ := opR_facts (f := fU) rfl ha hb
  obtain ⟨vI, mI⟩ := opR_facts (f := fI) rfl ha hb
  have na := nodup_of_ltY (cells_pw ha)
  have nb := nodup_of_ltY (cells_pw hb)
  have nU := nodup_of_ltY (cells_pw vU)
  have nI := nodup_of_ltY (cells_pw vI)
  generalize regCells (opR fU a b) = U at *
  generalize regCells (opR fI a b) = I at *
  generalize regCells a = A at *
  generalize regCells b = B at *
  have h1 : U.Perm (A ++ B.filter fun c => !decide (c ∈ A)) := by
    refine (List.perm_ext_iff_of_nodup nU ?_).2 fun c => ?_
    · rw [List.nodup_append]
      refine ⟨na, nb.filter _, fun x hx y hy => ?_⟩
      rintro rfl
      simp at hy
      exact hy.2 hx
    · have := mU c
      rw [Bool.eq_iff_iff] at this
      simp [fU] at this
      simp [this]
      by_cases hc : c ∈ A <;> simp [hc]
  have h2 : I.Perm (B.filter fun c => decide (c ∈ A)) := by
    refine (List.perm_ext_iff_of_nodup nI (nb.filter _)).2 fun c => ?_
    have := mI c
    rw [Bool.eq_iff_iff] at this
    simp [fI] at this
    simp [this, And.comm]
  have h3 : (B.filter fun c => decide (c ∈ A)).length + (B.filter fun c => !decide (c ∈ A)).length = B.length := by
    exact filt_len (fun c => decide (c ∈ A)) B
  have e1 := h1.length_eq
  have e2 := h2.length_eq
  rw [List.length_append] at e1
  omega
end Go.Proofs.Ytlfbjflfbjkbeaa

namespace Go.Proofs.Ytlfbjflfbjkbeaa
open Go.Abs

theorem pulse_cases (b : Bench) (m : Mach) (s : Sett) (p : Pos) : pulseB b m s p = b ∨ (unitP p = true ∧ rightB m s = true ∧ validE b = true ∧ soundB (pulseW b m s p) = true ∧ pulseB b m s p = pulseW b m s p) := by
  unfold pulseB
  split
  · rename_i h
    simp only [Bool.and_eq_true] at h
    exact .inr ⟨h.1.1, h.1.2.1, h.1.2.2, h.2, rfl⟩
  · exact .inl rfl
theorem valid_facts {b : Bench} (h : validE b = true) : (∀ R ∈ b.lays, validR R = true) ∧ b.lays.length ≤ 256 ∧ (0 ≤ b.hits ∧ b.hits ≤ 1099511627776) ∧ (0 ≤ b.filament ∧ b.filament ≤ 1099511627776) ∧ (0 ≤ b.drawn ∧ b.drawn ≤ 1099511627776) ∧ (0 ≤ b.dry ∧ b.dry ≤ 1099511627776) ∧ (-1099511627776 ≤ b.real.s ∧ b.real.s ≤ 1099511627776) := by
  have hc : ∀ n : Int, cntB n = true ↔ 0 ≤ n ∧ n ≤ 1099511627776 := fun n => by simp [cntB]
  have hw : ∀ n : Int, withB n 1099511627776 = true ↔ -1099511627776 ≤ n ∧ n ≤ 1099511627776 := fun n => by simp [withB]
  simp only [validE, soundB, realB, cntsB, Bench.cnts, Bool.and_eq_true, hc, hw, List.all_eq_true, decide_eq_true_eq] at h
  obtain ⟨h1, h2⟩ := h
  exact ⟨h1, by omega, by omega, by omega, by omega, by omega, by omega⟩
theorem W_lays (b : Bench) (m : Mach) (s : Sett) (p : Pos) : (pulseW b m s p).lays = (extB { b with real := stepP b.real p } (underC m s (stepP b.real p)) (underL m s (stepP b.real p)) p.s).lays := hit_lays
theorem W_valid {b : Bench} (m : Mach) (s : Sett) (p : Pos) (h : validE b = true) : (∀ R ∈ (pulseW b m s p).lays, validR R = true) ∧ (pulseW b m s p).lays.length ≤ 256 := by
  obtain ⟨h1, h2, _⟩ := valid_facts h
  obtain ⟨k1, k2, _⟩ := ext_facts (b := { b with real := stepP b.real p }) (c := underC m s (stepP b.real p)) (l := underL m s (stepP b.real p)) (k := p.s) h1 h2
  rw [W_lays]
  exact ⟨k1, k2⟩
theorem pulse_small {b : Bench} (m : Mach) (s : Sett) (p : Pos) (h : smallL b.lays) : smallL (pulseB b m s p).lays := by
  rcases pulse_cases b m s p with e | ⟨_, _, hv, _, e⟩
  · rw [e]; exact h
  · obtain ⟨k1, k2⟩ := W_valid m s p hv
    rw [e]
    exact ⟨by omega, fun R hR => small_valid (k1 R hR)⟩
theorem pulse_valid {b : Bench} (m : Mach) (s : Sett) (p : Pos) (h : validE b = true) : validE (pulseB b m s p) = true := by
  rcases pulse_cases b m s p with e | ⟨_, _, hv, hs, e⟩
  · rw [e]; exact h
  · obtain ⟨k1, k2⟩ := W_valid m s p hv
    rw [e, validE, hs, Bool.and_true, List.all_eq_true]
    exact k1
theorem pulse_still (b : Bench) (m : Mach) (s : Sett) (p : Pos) (h0 : p.s = 0) : { pulseB b m s p with hits := b.hits, real := b.real } = b ∧ ((pulseB b m s p).hits = b.hits ∨ ((pulseB b m s p).hits = b.hits + 1 ∧ 0 ≤ b.hits ∧ b.hits ≤ 1099511627776)) := by
  rcases pulse_cases b m s p with e | ⟨_, _, hv, hs, e⟩
  · rw [e]; exact ⟨rfl, .inl rfl⟩
  · obtain ⟨_, _, hh, _⟩ := valid_facts hv
    rw [e]
    unfold pulseW extB
    rw [h0, if_neg (by omega), if_pos rfl]
    unfold hitF
    split
    · exact ⟨rfl, .inl rfl⟩
    · split
      · exact ⟨rfl, .inr ⟨rfl, hh⟩⟩
      · exact ⟨rfl, .inl rfl⟩
theorem pulse_hits (b : Bench) (m : Mach) (s : Sett) (p : Pos) (h0 : p.p = 0) (h1 : p.q = 0) : (pulseB b m s p).hits = b.hits := by
  rcases pulse_cases b m s p with e | ⟨_, _, hv, hs, e⟩
  · rw [e]
  · obtain ⟨a1, a2, _⟩ := valid_facts hv
    obtain ⟨_, _, k3⟩ := ext_facts (b := { b with real := stepP b.real p }) (c := underC m s (stepP b.real p)) (l := underL m s (stepP b.real p)) (k := p.s) a1 a2
    rw [e]
    unfold pulseW hitF
    rw [h0, h1, if_pos (by decide)]
    exact k3
def balB (b : Bench) : Int := b.real.s + b.drawn + b.filament - b.dry
theorem pulse_bal (b : Bench) (m : Mach) (s : Sett) (p : Pos) : balB (pulseB b m s p) = balB b := by
  rcases pulse_cases b m s p with e | ⟨hu, _, hv, hs, e⟩
  · rw [e]
  · rw [e]
    simp [unitP, oneB] at hu
    have key : ∀ c l, balB (extB { b with real := stepP b.real p } c l p.s) = balB b := fun c l => by
      unfold extB
      split
      · simp only [balB, stepP]; omega
      split
      · simp only [balB, stepP]; omega
      split
      · simp only [balB, stepP]; omega
      split
      · simp only [balB, stepP]; omega
      · simp only [balB, stepP]; omega
    have key2 : ∀ (x : Bench) c l k, balB (hitF x c l k) = balB x := fun x c l k => by
      unfold hitF
      split
      · rfl
      split <;> rfl
    unfold pulseW
    rw [key2, key]
def cellsN (L : List (List Row)) : Nat := (L.map countR).sum
theorem cellsN_set {L : List (List Row)} {n : Nat} {Q U : List Row} (h : L[n]? = some Q) : cellsN (L.set n U) + countR Q = cellsN L + countR U := by
  induction L generalizing n with
  | nil => simp at h
  | cons R L ih =>
    cases n with
    | zero =>
      simp at h; subst h
      simp [cellsN]; omega
    | succ n =>
      simp at h
      have := ih h
      simp [cellsN] at this ⊢; omega
theorem cellsN_app (L M : List (List Row)) : cellsN (L ++ M) = cellsN L + cellsN M := by simp [cellsN]
theorem cellsN_empty (k : Nat) : cellsN (List.replicate k []) = 0 := by
  have : countR [] = 0 := by decide
  simp [cellsN, this]
theorem count_val {R : List Row} (hv : validR R = true) : countR R = (regCells R).length := by unfold countR; rw [if_pos hv]
theorem within_self {R : List Row} (h : validR R = true) : withinB R R = true := by
  obtain ⟨hv, hm⟩ := opR_facts (f := fD) rfl h h
  have : opR fD R R = [] := by
    refine valid_empty hv fun c hc => ?_
    have := hm c
    simp [hc, fD] at this
  simp [withinB, h, this]
theorem within_union {a b : List Row} (ha : validR a = true) (hb : validR b = true) : withinB a (opR fU a b) = true := by
  obtain ⟨vU, mU⟩ := opR_facts (f := fU) rfl ha hb
  obtain ⟨hv, hm⟩ := opR_facts (f := fD) rfl ha vU
  have : opR fD a (opR fU a b) = [] := by
    refine valid_empty hv fun c hc => ?_
    have h1 := hm c
    have h2 := mU c
    rw [h2] at h1
    simp [hc, fD, fU] at h1
    exact h1.2.1 h1.1
  simp [withinB, ha, vU, this]
theorem layL_facts {L : List (List Row)} {n : Nat} {c : Cell} (hL : ∀ R ∈ L, validR R = true) (hg : onG c = true) :
    L.length ≤ (layL L n c).length ∧ n < (layL L n c).length ∧ (∀ (k : Nat) R, L[k]? = some R → ∃ S, (layL L n c)[k]? = some S ∧ withinB R S = true) ∧ (cellsN (layL L n c) = cellsN L ∨ cellsN (layL L n c) = cellsN L + 1) ∧ ∃ U, (layL L n c)[n]? = some U ∧ conB U c = true := by
  obtain ⟨oV, oM, oL⟩ := of_set (l := [c]) (by simp) (by simp [hg])
  have hlen := @layL_len L n c
  have hF : layL L n c = (L ++ List.replicate (n + 1 - L.length) []).set n (opR fU ((L ++ List.replicate (n + 1 - L.length) []).getD n []) (ofR [c])) := rfl
  generalize layL L n c = F at *
  have hc0 : cellsN (L ++ List.replicate (n + 1 - L.length) []) = cellsN L := by rw [cellsN_app, cellsN_empty]; omega
  have hMv : ∀ R ∈ L ++ List.replicate (n + 1 - L.length) [], validR R = true := fun R hR => by
    rcases List.mem_append.1 hR with h | h
    · exact hL R h
    · rw [(List.mem_replicate.1 h).2]; rfl
  have hMk : ∀ (k : Nat) R, L[k]? = some R → (L ++ List.replicate (n + 1 - L.length) [])[k]? = some R := fun k R h => by
    rw [List.getElem?_append_left (List.getElem?_eq_some_iff.1 h).1]; exact h
  have hMl : n < (L ++ List.replicate (n + 1 - L.length) []).length := by simp; omega
  generalize L ++ List.replicate (n + 1 - L.length) [] = M at *
  obtain ⟨Q, hQ⟩ := getq hMl
  rw [List.getD_eq_getElem?_getD, hQ] at hF
  simp only [Option.getD_some] at hF
  have hQv := hMv Q (List.mem_of_getElem? hQ)
  obtain ⟨vU, mU⟩ := opR_facts (f := fU) rfl hQv oV
  have hcnt := opR_count hQv oV
  have hI : (regCells (opR fI Q (ofR [c]))).length ≤ 1 := by
    obtain ⟨vI, mI⟩ := opR_facts (f := fI) rfl hQv oV
    have nI := nodup_of_ltY (cells_pw vI)
    have all : ∀ x ∈ regCells (opR fI Q (ofR [c])), x = c := fun x hx => by
      have := mI x
      rw [decide_eq_true hx] at this
      have h2 : x ∈ regCells (ofR [c]) := by
        cases hd : decide (x ∈ regCells (ofR [c]))
        · rw [hd] at this; simp [fI] at this
        · simpa using hd
      simpa using (oM x).1 h2
    generalize regCells (opR fI Q (ofR [c])) = I at *
    match I, nI, all with
    | [], _, _ => simp
    | [x], _, _ => simp
    | x :: y :: r, nI, all =>
      have h1 := all x (by simp)
      have h2 := all y (by simp)
      subst h1; subst h2
      simp at nI
  have hset := cellsN_set (U := opR fU Q (ofR [c])) hQ
  rw [count_val hQv, count_val vU, ← hF, hc0] at hset
  rw [oL] at hcnt
  simp only [List.length_cons, List.length_nil] at hcnt
  have hUn : (F)[n]? = some (opR fU Q (ofR [c])) := by rw [hF]; simp [hMl]
  have hW := within_union hQv oV
  have hcon : conB (opR fU Q (ofR [c])) c = true := by
    rw [conB_mem vU, mU c]
    have : c ∈ regCells (ofR [c]) := (oM c).2 (by simp)
    simp [fU, this]
  generalize opR fU Q (ofR [c]) = U at *
  refine ⟨by rw [hlen]; split <;> omega, by rw [hlen]; split <;> omega, fun k R h => ?_, by omega, U, hUn, hcon⟩
  have hk := hMk k R h
  by_cases e : k = n
  · subst e
    rw [hQ] at hk; cases hk
    exact ⟨U, hUn, hW⟩
  · exact ⟨R, by rw [hF, List.getElem?_set_ne (fun h => e h.symm)]; exact hk, within_self (hL R (List.mem_of_getElem? h))⟩
theorem pulse_mat {b : Bench} (m : Mach) (s : Sett) (p : Pos) (hv : validE b = true) :
    b.lays.length ≤ (pulseB b m s p).lays.length ∧ (∀ (k : Nat) R, b.lays[k]? = some R → ∃ S, (pulseB b m s p).lays[k]? = some S ∧ withinB R S = true) ∧
      (cellsN (pulseB b m s p).lays = cellsN b.lays ∨ (cellsN (pulseB b m s p).lays = cellsN b.lays + 1 ∧ p.s = 1 ∧ ∃ n : Nat, underL m s (pulseB b m s p).real = n ∧ n < (pulseB b m s p).lays.length ∧ ∃ U, (pulseB b m s p).lays[n]? = some U ∧ conB U (underC m s (pulseB b m s p).real) = true)) := by
  obtain ⟨h1, h2, _⟩ := valid_facts hv
  have same : ∀ A : Bench, A.lays = b.lays → b.lays.length ≤ A.lays.length ∧ (∀ (k : Nat) R, b.lays[k]? = some R → ∃ S, A.lays[k]? = some S ∧ withinB R S = true) ∧ (cellsN A.lays = cellsN b.lays ∨ (cellsN A.lays = cellsN b.lays + 1 ∧ p.s = 1 ∧ ∃ n : Nat, underL m s A.real = n ∧ n < A.lays.length ∧ ∃ U, A.lays[n]? = some U ∧ conB U (underC m s A.real) = true)) := fun A e => by
    rw [e]
    exact ⟨Nat.le_refl _, fun k R h => ⟨R, h, within_self (h1 R (List.mem_of_getElem? h))⟩, .inl rfl⟩
  rcases pulse_cases b m s p with e | ⟨hu, _, _, hs, e⟩
  · exact same _ (by rw [e])
  · rw [e]
    have hreal : (pulseW b m s p).real = stepP b.real p := by
      unfold pulseW
      have k1 : ∀ (x : Bench) c l k, (hitF x c l k).real = x.real := fun x c l k => by
        unfold hitF
        split
        · rfl
        split <;> rfl
      have k2 : ∀ (x : Bench) c l k, (extB x c l k).real = x.real := fun x c l k => by
        unfold extB
        split
        · rfl
        split
        · rfl
        split
        · rfl
        split <;> rfl
      rw [k1, k2]
    have hW := W_lays b m s p
    rw [hreal]
    simp [unitP, oneB] at hu
    unfold extB at hW
    split at hW
    · exact hreal ▸ same _ hW
    split at hW
    · exact hreal ▸ same _ hW
    split at hW
    · exact hreal ▸ same _ hW
    split at hW
    · simp only [layF] at hW
      split at hW
      · rename_i hok
        simp [layOk] at hok
        obtain ⟨f1, f2, f3, f4, U, f5, f6⟩ := layL_facts (n := (underL m s (stepP b.real p)).toNat) h1 hok.2
        rw [hW]
        refine ⟨f1, f3, ?_⟩
        rcases f4 with f4 | f4
        · exact .inl f4
        · exact .inr ⟨f4, by omega, (underL m s (stepP b.real p)).toNat, by omega, f2, U, f5, f6⟩
      · exact hreal ▸ same _ hW
    · exact hreal ▸ same _ hW
end Go.Proofs.Ytlfbjflfbjkbeaa

namespace Go.Proofs.Ytlfbjflfbjkbeaa
open Go.Abs

theorem runs55_ok (l : List Run) (hl : l.length ≤ 1000000) : PC Try.prog 33 [encRuns l, encRuns l] (.p (.bool true)) := by
  refine pc_of_awp cx (fn := Try.f33) (c := _) Try.func33 rfl rfl (Nat.le_of_ble_eq_true rfl) ?_
  rw [Try.ntmps33]; refine Nav.imp ?_
  refine awp_region cx [] fun K hK => ?_
  simp [push_cast]
  repeat (refine And.intro (by clear hK; intros; first | omega | (simp_all; done) | (simp_all <;> omega)) ?_)
  refine hK _ ?_; clear hK K; refine Nav.imp ?_
  refine awp_region cx [] fun K hK => ?_
  simp [push_cast]
  repeat (refine And.intro (by clear hK; intros; first | omega | (simp_all; done) | (simp_all <;> omega)) ?_)
  refine hK _ ?_; clear hK K; refine Nav.imp ?_
  refine awp_cond (b := false) (by simp [push_cast]) (fun hb => ?_) (fun hb => ?_) <;> (refine Nav.imp ?_)
  · simp at hb
  · refine awp_region cx [] fun K hK => ?_
    simp [push_cast]
    repeat (refine And.intro (by clear hK; intros; first | omega | (simp_all; done) | (simp_all <;> omega)) ?_)
    refine hK _ ?_; clear hK K; refine Nav.imp ?_
    refine awp_loop (β := Nat) (fun i => ⟨26, [(0, .d (encRuns l)), (1, .d (encRuns l)), (5, .d (.int .i64 i))], [], 0⟩) (fun i => i ≤ l.length) (fun i => l.length - i) 0 ?_ (Nat.zero_le _) ?_
    · refine weak_of [] rfl (by simp [upT, up, upL, push_cast]) (by simp [upH, upR, upL, up, push_cast]) (by simp [namesOk, push_cast]) (by simp [olds])
    · rintro i hi
      refine Nav.imp ?_
      refine awp_region cx [] fun K hK => ?_
      simp [push_cast]
      repeat (refine And.intro (by clear hK; intros; first | omega | (simp_all; done) | (simp_all <;> omega)) ?_)
      refine hK _ ?_; clear hK K; refine Nav.imp ?_
      refine awp_cond (b := decide (i < l.length)) (by simp [push_cast]) (fun hb => ?_) (fun hb => ?_) <;> (refine Nav.imp ?_)
      · have hlt : i < l.length := by simpa using hb
        obtain ⟨r, hr⟩ := getq hlt
        have e0 := wrap_i64 (n := (i : Int) + 1) (by omega) (by omega)
        refine awp_region_draw cx mixed [] fun K hK => ?_
        simp [push_cast, hr, Run.row]
        repeat (refine And.intro (by clear hK; intros; first | omega | (simp_all; done) | (simp_all <;> omega)) ?_)
        refine hK _ _ (by kernel_rfl) ?_; clear hK K; refine Nav.imp ?_
        refine awp_cond (b := false) (by simp [push_cast]) (fun hb => ?_) (fun hb => ?_) <;> (refine Nav.imp ?_)
        · simp at hb
        · refine awp_region cx [] fun K hK => ?_
          simp [push_cast, e0]
          repeat (refine And.intro (by clear hK; intros; first | omega | (simp_all; done) | (simp_all <;> omega)) ?_)
          refine hK _ ?_; clear hK K; refine Nav.imp ?_
          refine ⟨i + 1, hlt, by omega, ?_⟩
          refine weak_of [] rfl (by simp [upT, up, upL, push_cast]) (by simp [upH, upR, upL, up, push_cast]) (by simp [namesOk, push_cast]) (by simp [olds])
      · refine awp_region cx [] fun K hK => ?_
        simp [push_cast]
        repeat (refine And.intro (by clear hK; intros; first | omega | (simp_all; done) | (simp_all <;> omega)) ?_)
        refine hK _ ?_; clear hK K; refine Nav.imp ?_
        simp [push_cast]
set_option maxHeartbeats 4000000 in
theorem rsame55_ok (b : Bench) (h0 : b.lays = []) : PC Try.prog 34 [.agg b.row, .agg b.row] (.p (.bool true)) := by
  refine pc_of_awp cx (fn := Try.f34) (c := _) Try.func34 rfl rfl (Nat.le_of_ble_eq_true rfl) ?_
  rw [Try.ntmps34]; refine Nav.imp ?_
  refine awp_region cx [] fun K hK => ?_
  simp [push_cast]
  repeat (refine And.intro (by clear hK; intros; first | omega | (simp_all; done) | (simp_all <;> omega)) ?_)
  refine hK _ ?_; clear hK K; refine Nav.imp ?_
  refine awp_region cx [] fun K hK => ?_
  simp [push_cast, h0]
  repeat (refine And.intro (by clear hK; intros; first | omega | (simp_all; done) | (simp_all <;> omega)) ?_)
  refine hK _ ?_; clear hK K; refine Nav.imp ?_
  refine awp_cond (b := false) (by simp [push_cast]) (fun hb => ?_) (fun hb => ?_) <;> (refine Nav.imp ?_)
  · simp at hb
  · refine awp_region cx [] fun K hK => ?_
    simp [push_cast]
    repeat (refine And.intro (by clear hK; intros; first | omega | (simp_all; done) | (simp_all <;> omega)) ?_)
    refine hK _ ?_; clear hK K; refine Nav.imp ?_
    refine awp_loop (β := Unit) (fun _ => ⟨95, [(2, .ptr 0 0 0), (3, .ptr 1 0 0), (5, .d (.int .i64 0))], [(0, some ⟨43, 22, [b.row.map .d]⟩), (1, some ⟨43, 22, [b.row.map .d]⟩)], 2⟩) (fun _ => True) (fun _ => 0) () ?_ trivial ?_
    · refine weak_of [(0, some 0), (1, some 1)] rfl (by simp [upT, up, upL, push_cast, h0]) (by simp [upH, upR, upL, up, push_cast, h0]) (by simp [namesOk, push_cast]) (by simp [olds])
    · rintro _ _
      refine Nav.imp ?_
      refine awp_region cx [] fun K hK => ?_
      simp [push_cast, h0]
      repeat (refine And.intro (by clear hK; intros; first | omega | (simp_all; done) | (simp_all <;> omega)) ?_)
      refine hK _ ?_; clear hK K; refine Nav.imp ?_
      refine awp_cond (b := false) (by simp [push_cast]) (fun hb => ?_) (fun hb => ?_) <;> (refine Nav.imp ?_)
      · simp at hb
      · refine awp_region cx [] fun K hK => ?_
        simp [push_cast]
        repeat (refine And.intro (by clear hK; intros; first | omega | (simp_all; done) | (simp_all <;> omega)) ?_)
        refine hK _ ?_; clear hK K; refine Nav.imp ?_
        simp [push_cast]
set_option maxHeartbeats 4000000 in
theorem same55_ok (b : Bench) (hL : smallL b.lays) : PC Try.prog 12 [.agg b.row, .agg b.row] (.p (.bool true)) := by
  obtain ⟨hlen, hsm⟩ := hL
  have c1 := rsame55_ok { b with lays := [] } rfl
  refine pc_of_awp cx (fn := Try.f12) (c := _) Try.func12 rfl rfl (Nat.le_of_ble_eq_true rfl) ?_
  rw [Try.ntmps12]; refine Nav.imp ?_
  refine awp_region cx [] fun K hK => ?_
  simp [push_cast]
  repeat (refine And.intro (by clear hK; intros; first | omega | (simp_all; done) | (simp_all <;> omega)) ?_)
  refine hK _ ?_; clear hK K; refine Nav.imp ?_
  refine awp_region cx [] fun K hK => ?_
  simp [push_cast]
  repeat (refine And.intro (by clear hK; intros; first | omega | (simp_all; done) | (simp_all <;> omega)) ?_)
  refine hK _ ?_; clear hK K; refine Nav.imp ?_
  refine awp_cond (b := false) (by simp [push_cast]) (fun hb => ?_) (fun hb => ?_) <;> (refine Nav.imp ?_)
  · simp at hb
  · refine awp_region cx [] fun K hK => ?_
    simp [push_cast]
    repeat (refine And.intro (by clear hK; intros; first | omega | (simp_all; done) | (simp_all <;> omega)) ?_)
    refine hK _ ?_; clear hK K; refine Nav.imp ?_
    refine awp_loop (β := Nat) (fun i => ⟨76, [(2, .ptr 0 0 0), (3, .ptr 1 0 0), (5, .d (.int .i64 i))], [(0, some ⟨43, 22, [b.row.map .d]⟩), (1, some ⟨43, 22, [b.row.map .d]⟩)], 2⟩) (fun i => i ≤ b.lays.length) (fun i => b.lays.length - i) 0 ?_ (Nat.zero_le _) ?_
    · refine weak_of [(0, some 0), (1, some 1)] rfl (by simp [upT, up, upL, push_cast]) (by simp [upH, upR, upL, up, push_cast]) (by simp [namesOk, push_cast]) (by simp [olds])
    · rintro i hi
      refine Nav.imp ?_
      refine awp_region cx [] fun K hK => ?_
      simp [push_cast]
      repeat (refine And.intro (by clear hK; intros; first | omega | (simp_all; done) | (simp_all <;> omega)) ?_)
      refine hK _ ?_; clear hK K; refine Nav.imp ?_
      refine awp_cond (b := decide (i < b.lays.length)) (by simp [push_cast]) (fun hb => ?_) (fun hb => ?_) <;> (refine Nav.imp ?_)
      · have hlt : i < b.lays.length := by simpa using hb
        obtain ⟨R, hR⟩ := getq hlt
        obtain ⟨s1, s2⟩ := hsm R (List.mem_of_getElem? hR)
        have e0 := wrap_i64 (n := (i : Int) + 1) (by omega) (by omega)
        refine awp_region cx [] fun K hK => ?_
        simp [push_cast, hR]
        repeat (refine And.intro (by clear hK; intros; first | omega | (simp_all; done) | (simp_all <;> omega)) ?_)
        refine hK _ ?_; clear hK K; refine Nav.imp ?_
        refine awp_region cx [] fun K hK => ?_
        simp [push_cast, hR]
        repeat (refine And.intro (by clear hK; intros; first | omega | (simp_all; done) | (simp_all <;> omega)) ?_)
        refine hK _ ?_; clear hK K; refine Nav.imp ?_
        refine awp_region cx [] fun K hK => ?_
        simp [push_cast]
        repeat (refine And.intro (by clear hK; intros; first | omega | (simp_all; done) | (simp_all <;> omega)) ?_)
        refine hK _ ?_; clear hK K; refine Nav.imp ?_
        refine awp_cond (b := false) (by simp [push_cast]) (fun hb => ?_) (fun hb => ?_) <;> (refine Nav.imp ?_)
        · simp at hb
        · refine awp_region cx [] fun K hK => ?_
          simp [push_cast]
          repeat (refine And.intro (by clear hK; intros; first | omega | (simp_all; done) | (simp_all <;> omega)) ?_)
          refine hK _ ?_; clear hK K; refine Nav.imp ?_
          refine awp_loop (β := Nat) (fun k => ⟨76, [(2, .ptr 0 0 0), (3, .ptr 1 0 0), (5, .d (.int .i64 i)), (6, .d (encRows R)), (7, .d (encRows R)), (8, .d (.int .i64 k))], [(0, some ⟨43, 22, [b.row.map .d]⟩), (1, some ⟨43, 22, [b.row.map .d]⟩)], 2⟩) (fun k => k ≤ R.length) (fun k => R.length - k) 0 ?_ (Nat.zero_le _) ?_
          · refine weak_of [(0, some 0), (1, some 1)] rfl (by simp [upT, up, upL, push_cast]) (by simp [upH, upR, upL, up, push_cast]) (by simp [namesOk, push_cast]) (by simp [olds])
          · rintro k hk
            refine Nav.imp ?_
            refine awp_region cx [] fun K hK => ?_
            simp [push_cast]
            repeat (refine And.intro (by clear hK; intros; first | omega | (simp_all; done) | (simp_all <;> omega)) ?_)
            refine hK _ ?_; clear hK K; refine Nav.imp ?_
            refine awp_cond (b := decide (k < R.length)) (by simp [push_cast]) (fun hb => ?_) (fun hb => ?_) <;> (refine Nav.imp ?_)
            · have hlk : k < R.length := by simpa using hb
              obtain ⟨w, hw⟩ := getq hlk
              have e1 := wrap_i64 (n := (k : Int) + 1) (by omega) (by omega)
              have c2 := runs55_ok w.runs (s2 w (List.mem_of_getElem? hw))
              refine awp_region_draw cx mixed [(22, .p (.bool true))] fun K hK => ?_
              simp [push_cast, hw, c2, Row.row]
              repeat (refine And.intro (by clear hK; intros; first | omega | (simp_all; done) | (simp_all <;> omega)) ?_)
              refine hK _ _ (by kernel_rfl) ?_; clear hK K; refine Nav.imp ?_
              refine awp_cond (b := false) (by simp [push_cast]) (fun hb => ?_) (fun hb => ?_) <;> (refine Nav.imp ?_)
              · simp at hb
              · refine awp_region cx [] fun K hK => ?_
                simp [push_cast, e1]
                repeat (refine And.intro (by clear hK; intros; first | omega | (simp_all; done) | (simp_all <;> omega)) ?_)
                refine hK _ ?_; clear hK K; refine Nav.imp ?_
                refine ⟨k + 1, hlk, by omega, ?_⟩
                refine weak_of [(0, some 0), (1, some 1)] rfl (by simp [upT, up, upL, push_cast]) (by simp [upH, upR, upL, up, push_cast]) (by simp [namesOk, push_cast]) (by simp [olds])
            · refine awp_region cx [] fun K hK => ?_
              simp [push_cast, e0]
              repeat (refine And.intro (by clear hK; intros; first | omega | (simp_all; done) | (simp_all <;> omega)) ?_)
              refine hK _ ?_; clear hK K; refine Nav.imp ?_
              refine ⟨i + 1, hlt, by omega, ?_⟩
              refine weak_of [(0, some 0), (1, some 1)] rfl (by simp [upT, up, upL, push_cast]) (by simp [upH, upR, upL, up, push_cast]) (by simp [namesOk, push_cast]) (by simp [olds])
      · refine awp_region cx [] fun K hK => ?_
        simp [push_cast]
        repeat (refine And.intro (by clear hK; intros; first | omega | (simp_all; done) | (simp_all <;> omega)) ?_)
        refine hK _ ?_; clear hK K; refine Nav.imp ?_
        refine awp_region cx [] fun K hK => ?_
        simp [push_cast]
        repeat (refine And.intro (by clear hK; intros; first | omega | (simp_all; done) | (simp_all <;> omega)) ?_)
        refine hK _ ?_; clear hK K; refine Nav.imp ?_
        simp only [Bench.row, encLays, List.map_nil] at c1
        refine awp_region cx [(2, .p (.bool true))] fun K hK => ?_
        simp [push_cast, c1]
        repeat (refine And.intro (by clear hK; intros; first | omega | (simp_all; done) | (simp_all <;> omega)) ?_)
        refine hK _ ?_; clear hK K; refine Nav.imp ?_
        simp [push_cast]
end Go.Proofs.Ytlfbjflfbjkbeaa

namespace Go.Proofs.Ytlfbjflfbjkbeaa
open Go.Abs

theorem ints2_of {f : Nat} {ds : List D} (h : hasT Try.prog (f + 2) 36 ds) : ∃ a b : Int, ds = [.int .i64 a, .int .i64 b] := by
  obtain ⟨hl, ha⟩ := hasT_arr (m := 1) Try.underlying36 (by kernel_rfl) h
  match ds, hl with
  | [d0, d1], _ =>
    have q0 := ha 0 (by omega)
    have q1 := ha 1 (by omega)
    simp only [Nat.zero_mul, Nat.one_mul, Nat.reduceMul, List.take, List.drop] at q0 q1
    obtain ⟨x0, e0, _⟩ := hasT_int Try.underlying3 q0
    obtain ⟨x1, e1, _⟩ := hasT_int Try.underlying3 q1
    simp only [List.cons.injEq, and_true] at e0 e1
    exact ⟨x0, x1, by simp [e0, e1]⟩
theorem htr_of {f : Nat} {ds : List D} (h : hasT Try.prog (f + 2) 38 ds) : ∃ a b c d : Int, ds = [.int .i64 a, .int .i64 b, .int .i64 c, .int .i64 d] := by
  obtain ⟨hl, hp⟩ := hasT_struct (n := 4) (ts := [3, 3, 3, 3]) Try.underlying38 (by kernel_rfl) rfl (by kernel_rfl) h
  obtain ⟨d0, r0, e0, h0, hp0⟩ := parts_one (by kernel_rfl) hp (by simp_all <;> omega)
  subst e0
  obtain ⟨d1, r1, e1, h1, hp1⟩ := parts_one (by kernel_rfl) hp0 (by simp_all <;> omega)
  subst e1
  obtain ⟨d2, r2, e2, h2, hp2⟩ := parts_one (by kernel_rfl) hp1 (by simp_all <;> omega)
  subst e2
  obtain ⟨d3, r3, e3, h3, hp3⟩ := parts_one (by kernel_rfl) hp2 (by simp_all <;> omega)
  subst e3
  simp only [parts] at hp3
  subst hp3
  obtain ⟨n0, e0, w0⟩ := hasT_int Try.underlying3 h0
  cases e0
  obtain ⟨n1, e1, w1⟩ := hasT_int Try.underlying3 h1
  cases e1
  obtain ⟨n2, e2, w2⟩ := hasT_int Try.underlying3 h2
  cases e2
  obtain ⟨n3, e3, w3⟩ := hasT_int Try.underlying3 h3
  cases e3
  exact ⟨n0, n1, n2, n3, rfl⟩
theorem arg_bench {x : D} (h : hasV Try.prog 43 x) : ∃ b : Bench, x = .agg b.row := by
  simp only [hasV, Try.underlying43] at h
  obtain ⟨cs, rfl, h⟩ := h
  obtain ⟨hl, hp⟩ := hasT_struct (n := 22) (ts := [29, 36, 39, 3, 3, 3, 40, 3, 4, 41]) Try.underlying43 (by kernel_rfl) rfl (by kernel_rfl) h
  simp only [parts, show Try.prog.cellsOf 29 = 4 by kernel_rfl, show Try.prog.cellsOf 36 = 2 by kernel_rfl, show Try.prog.cellsOf 39 = 8 by kernel_rfl, show Try.prog.cellsOf 40 = 1 by kernel_rfl, show Try.prog.cellsOf 4 = 1 by kernel_rfl, show Try.prog.cellsOf 41 = 2 by kernel_rfl, show Try.prog.cellsOf 3 = 1 by kernel_rfl] at hp
  obtain ⟨q0, q1, q2, q3, q4, q5, q6, q7, q8, q9, _⟩ := hp
  match cs, hl with
  | [d0, d1, d2, d3, d4, d5, d6, d7, d8, d9, d10, d11, d12, d13, d14, d15, d16, d17, d18, d19, d20, d21], _ =>
    simp only [List.take, List.drop] at q0 q1 q2 q3 q4 q5 q6 q7 q8 q9
    obtain ⟨r, hr⟩ := ints4_of (f := 27) q0
    obtain ⟨t0, t1, ht⟩ := ints2_of (f := 27) q1
    obtain ⟨_, ha⟩ := hasT_arr (m := 4) Try.underlying39 (by kernel_rfl) q2
    have w0 := ha 0 (by omega)
    have w1 := ha 1 (by omega)
    simp only [Nat.zero_mul, Nat.one_mul, List.take, List.drop] at w0 w1
    obtain ⟨pw0, ls0, ms0, am0, hh0⟩ := htr_of (f := 26) w0
    obtain ⟨pw1, ls1, ms1, am1, hh1⟩ := htr_of (f := 26) w1
    obtain ⟨fl, hf, _⟩ := hasT_int Try.underlying3 q3
    obtain ⟨dw, hd, _⟩ := hasT_int Try.underlying3 q4
    obtain ⟨dy, hy, _⟩ := hasT_int Try.underlying3 q5
    obtain ⟨rows, he, _, hrr⟩ := hasT_slice Try.underlying40 q6
    obtain ⟨L, hL⟩ := rows_of (row := regRow) fun r hr' => region_of (f := 22) (hrr r hr')
    obtain ⟨ht_, hh, _⟩ := hasT_int Try.underlying3 q7
    obtain ⟨dr_, hdr⟩ := hasT_bool Try.underlying4 q8
    obtain ⟨_, hb⟩ := hasT_arr (m := 1) Try.underlying41 (by kernel_rfl) q9
    have z0 := hb 0 (by omega)
    have z1 := hb 1 (by omega)
    simp only [Nat.zero_mul, Nat.one_mul, List.take, List.drop] at z0 z1
    obtain ⟨k0, hk0⟩ := hasT_bool Try.underlying4 z0
    obtain ⟨k1, hk1⟩ := hasT_bool Try.underlying4 z1
    subst hL
    simp only [Pos.row, List.cons.injEq, and_true] at hr ht hh0 hh1 hf hd hy he hh hdr hk0 hk1
    refine ⟨⟨r, t0, t1, pw0, ls0, ms0, am0, pw1, ls1, ms1, am1, fl, dw, dy, L, ht_, dr_, k0, k1⟩, ?_⟩
    simp [Bench.row, hr, ht, hh0, hh1, hf, hd, hy, he, hh, hdr, hk0, hk1]
def zeroBench : Value := .agg #[.int .i64 0, .int .i64 0, .int .i64 0, .int .i64 0, .int .i64 0, .int .i64 0, .int .i64 0, .int .i64 0, .int .i64 0, .int .i64 0, .int .i64 0, .int .i64 0, .int .i64 0, .int .i64 0, .int .i64 0, .int .i64 0, .int .i64 0, .slice none 0 0, .int .i64 0, .bool false, .bool false, .bool false]
def zeroInt2 : Value := .agg #[.int .i64 0, .int .i64 0]
theorem arg_poss {x : D} (h : hasV Try.prog 51 x) : ∃ l : List Pos, x = .sl (l.map Pos.row) := by
  simp only [hasV, Try.underlying51] at h
  obtain ⟨rows, he, _, hr⟩ := hasT_slice (f := 29) Try.underlying51 h
  cases he
  obtain ⟨l, rfl⟩ := rows_of (row := Pos.row) fun r hr' => ints4_of (f := 27) (hr r hr')
  exact ⟨l, rfl⟩
end Go.Proofs.Ytlfbjflfbjkbeaa

namespace Go.Proofs.Ytlfbjflfbjkbeaa
open Go.Abs

structure Htr where
  pw : Int
  ls : Int
  ms : Int
  am : Int
abbrev Htr.row (h : Htr) : List D := [.int .i64 h.pw, .int .i64 h.ls, .int .i64 h.ms, .int .i64 h.am]
def htB (h : Htr) : Bool := !(decide (h.pw < 0) || decide (1048576 < h.pw) || decide (h.ls < 1) || decide (65536 < h.ls) || decide (h.ms < h.ls) || decide (1048576 < h.ms)) && (decide (-400000 ≤ h.am) && decide (h.am ≤ 400000))
theorem ht_facts {h : Htr} (hv : htB h = true) : 0 ≤ h.pw ∧ h.pw ≤ 1048576 ∧ 1 ≤ h.ls ∧ h.ls ≤ 65536 ∧ h.ls ≤ h.ms ∧ h.ms ≤ 1048576 ∧ -400000 ≤ h.am ∧ h.am ≤ 400000 := by
  simp [htB] at hv; omega
theorem ht_iff {h : Htr} : htB h = (decide (0 ≤ h.pw) && decide (h.pw ≤ 1048576) && decide (1 ≤ h.ls) && decide (h.ls ≤ 65536) && decide (h.ls ≤ h.ms) && decide (h.ms ≤ 1048576) && decide (-400000 ≤ h.am) && decide (h.am ≤ 400000)) := by
  rw [Bool.eq_iff_iff]; simp [htB]; omega
theorem tvalid_ok (h : Htr) : PC Try.prog 35 [.agg h.row] (.p (.bool (htB h))) := by
  have hd := htB.eq_1 h
  generalize htB h = v at *
  refine pc_of_awp cx (fn := Try.f35) (c := _) Try.func35 rfl rfl (Nat.le_of_ble_eq_true rfl) ?_
  rw [Try.ntmps35]; refine Nav.imp ?_
  refine awp_region cx [] fun K hK => ?_
  simp [push_cast]
  repeat (refine And.intro (by clear hK; intros; first | omega | (simp_all; done) | (simp_all <;> omega)) ?_)
  refine hK _ ?_; clear hK K; refine Nav.imp ?_
  refine awp_region cx [] fun K hK => ?_
  simp [push_cast]
  repeat (refine And.intro (by clear hK; intros; first | omega | (simp_all; done) | (simp_all <;> omega)) ?_)
  refine hK _ ?_; clear hK K; refine Nav.imp ?_
  refine awp_cond (by simp [push_cast] <;> exact rfl) (fun hb => ?_) (fun hb => ?_) <;> (refine Nav.imp ?_)
  · rw [hb] at hd
    simp at hd
    subst hd
    refine awp_region cx [] fun K hK => ?_
    simp [push_cast]
    repeat (refine And.intro (by clear hK; intros; first | omega | (simp_all; done) | (simp_all <;> omega)) ?_)
    refine hK _ ?_; clear hK K; refine Nav.imp ?_
    simp [push_cast]
  · rw [hb] at hd
    simp at hd
    subst hd
    refine awp_region cx [] fun K hK => ?_
    simp [push_cast]
    repeat (refine And.intro (by clear hK; intros; first | omega | (simp_all; done) | (simp_all <;> omega)) ?_)
    refine hK _ ?_; clear hK K; refine Nav.imp ?_
    simp [push_cast]
theorem rvalid48_ok (h : Htr) : PC Try.prog 14 [.agg h.row] (.p (.bool (htB h))) := by
  have hd := @ht_iff h
  generalize htB h = v at *
  subst hd
  refine pc_of_awp cx (fn := Try.f14) (c := _) Try.func14 rfl rfl (Nat.le_of_ble_eq_true rfl) ?_
  rw [Try.ntmps14]; refine Nav.imp ?_
  refine awp_region cx [] fun K hK => ?_
  simp [push_cast]
  repeat (refine And.intro (by clear hK; intros; first | omega | (simp_all; done) | (simp_all <;> omega)) ?_)
  refine hK _ ?_; clear hK K; refine Nav.imp ?_
  refine awp_region cx [] fun K hK => ?_
  simp [push_cast]
  repeat (refine And.intro (by clear hK; intros; first | omega | (simp_all; done) | (simp_all <;> omega)) ?_)
  refine hK _ ?_; clear hK K; refine Nav.imp ?_
  simp [push_cast, Bool.and_assoc]
def clampI (n lo hi : Int) : Int := max lo (min n hi)
theorem clamp_ok (n lo hi : Int) : PC Try.prog 57 [.int .i64 n, .int .i64 lo, .int .i64 hi] (.p (.int .i64 (clampI n lo hi))) := by
  refine pc_of_awp cx (fn := Try.f57) (c := _) Try.func57 rfl rfl (Nat.le_of_ble_eq_true rfl) ?_
  rw [Try.ntmps57]; refine Nav.imp ?_
  refine awp_region cx [] fun K hK => ?_
  simp [push_cast]
  repeat (refine And.intro (by clear hK; intros; first | omega | (simp_all; done) | (simp_all <;> omega)) ?_)
  refine hK _ ?_; clear hK K; refine Nav.imp ?_
  refine awp_region cx [] fun K hK => ?_
  simp [push_cast]
  repeat (refine And.intro (by clear hK; intros; first | omega | (simp_all; done) | (simp_all <;> omega)) ?_)
  refine hK _ ?_; clear hK K; refine Nav.imp ?_
  simp [push_cast, clampI]

def stepI (h : Htr) (t d : Int) : Int := if htB h then clampI t (-1073741824) 1073741824 + (clampI d 0 255 * h.pw - h.ls * (clampI t (-1073741824) 1073741824 - h.am)) / h.ms else 0
theorem step_num {h : Htr} (hv : htB h = true) {t d : Int} (ht : -1073741824 ≤ t ∧ t ≤ 1073741824) (hd : 0 ≤ d ∧ d ≤ 255) :
    (0 ≤ d * h.pw ∧ d * h.pw ≤ 267386880) ∧ (-70411632967680 ≤ h.ls * (t - h.am) ∧ h.ls * (t - h.am) ≤ 70411632967680) := by
  obtain ⟨h1, h2, h3, h4, h5, h6, h7, h8⟩ := ht_facts hv
  refine ⟨⟨Int.mul_nonneg hd.1 h1, ?_⟩, ?_, ?_⟩
  · exact Int.le_trans (Int.mul_le_mul hd.2 h2 h1 (by omega)) (by decide)
  · have a : h.ls * (t - h.am) ≥ 65536 * (-1074141824) + 0 ∨ 0 ≤ h.ls * (t - h.am) := by
      by_cases q : 0 ≤ t - h.am
      · exact .inr (Int.mul_nonneg (by omega) q)
      · left
        have e1 : h.ls * (h.am - t) ≤ 65536 * 1074141824 := Int.mul_le_mul h4 (by omega) (by omega) (by omega)
        have e2 : h.ls * (t - h.am) = -(h.ls * (h.am - t)) := by rw [← Int.mul_neg]; congr 1; omega
        omega
    omega
  · by_cases q : 0 ≤ t - h.am
    · have e1 : h.ls * (t - h.am) ≤ 65536 * 1074141824 := Int.mul_le_mul h4 (by omega) q (by omega)
      omega
    · have := Int.mul_nonpos_of_nonneg_of_nonpos (a := h.ls) (b := t - h.am) (by omega) (by omega)
      omega
theorem div_num {a m : Int} {k : Int} (hm : 1 ≤ m) (hk : 0 ≤ k) (ha : -k ≤ a ∧ a ≤ k) : -k ≤ a / m ∧ a / m ≤ k := by
  constructor
  · have := Int.le_ediv_of_mul_le (c := m) (a := -k) (b := a) (by omega) (by
      have : k ≤ k * m := by have := Int.mul_le_mul_of_nonneg_left hm hk; simpa using this
      have e : -k * m = -(k * m) := Int.neg_mul ..
      omega)
    exact this
  · have := Int.ediv_le_of_le_mul (c := m) (a := a) (b := k) (by omega) (by
      have : k ≤ k * m := by have := Int.mul_le_mul_of_nonneg_left hm hk; simpa using this
      omega)
    exact this
theorem step_ok (h : Htr) (t d : Int) : PC Try.prog 36 [.agg h.row, .int .i64 t, .int .i64 d] (.p (.int .i64 (stepI h t d))) := by
  have c1 := tvalid_ok h
  have c2 := clamp_ok t (-1073741824) 1073741824
  have c3 := clamp_ok d 0 255
  have hs : stepI h t d = if htB h then clampI t (-1073741824) 1073741824 + (clampI d 0 255 * h.pw - h.ls * (clampI t (-1073741824) 1073741824 - h.am)) / h.ms else 0 := rfl
  have ht : -1073741824 ≤ clampI t (-1073741824) 1073741824 ∧ clampI t (-1073741824) 1073741824 ≤ 1073741824 := by unfold clampI; omega
  have hd : 0 ≤ clampI d 0 255 ∧ clampI d 0 255 ≤ 255 := by unfold clampI; omega
  generalize clampI t (-1073741824) 1073741824 = u at *
  generalize clampI d 0 255 = e at *
  generalize stepI h t d = r at *
  cases hv : htB h with
  | false =>
    rw [hv] at c1 hs
    simp at hs
    subst hs
    refine pc_of_awp cx (fn := Try.f36) (c := _) Try.func36 rfl rfl (Nat.le_of_ble_eq_true rfl) ?_
    rw [Try.ntmps36]; refine Nav.imp ?_
    refine awp_region cx [] fun K hK => ?_
    simp [push_cast]
    repeat (refine And.intro (by clear hK; intros; first | omega | (simp_all; done) | (simp_all <;> omega)) ?_)
    refine hK _ ?_; clear hK K; refine Nav.imp ?_
    refine awp_region cx [(1, .p (.bool false))] fun K hK => ?_
    simp [push_cast, c1]
    repeat (refine And.intro (by clear hK; intros; first | omega | (simp_all; done) | (simp_all <;> omega)) ?_)
    refine hK _ ?_; clear hK K; refine Nav.imp ?_
    refine awp_cond (b := true) (by simp [push_cast]) (fun hb => ?_) (fun hb => ?_) <;> (refine Nav.imp ?_)
    · refine awp_region cx [] fun K hK => ?_
      simp [push_cast]
      repeat (refine And.intro (by clear hK; intros; first | omega | (simp_all; done) | (simp_all <;> omega)) ?_)
      refine hK _ ?_; clear hK K; refine Nav.imp ?_
      simp [push_cast]
    · simp at hb
  | true =>
    rw [hv] at c1 hs
    simp at hs
    obtain ⟨⟨p1, p2⟩, q1, q2⟩ := step_num hv ht hd
    obtain ⟨h1, h2, h3, h4, h5, h6, h7, h8⟩ := ht_facts hv
    have c4 := nfloor_ok (e * h.pw - h.ls * (u - h.am)) h.ms (by omega) (by omega) (by omega)
    unfold flD at c4
    obtain ⟨z1, z2⟩ := div_num (a := e * h.pw - h.ls * (u - h.am)) (m := h.ms) (k := 70412000000000) (by omega) (by omega) (by omega)
    have w1 := wrap_i64 (n := e * h.pw) (by omega) (by omega)
    have w2 := wrap_i64 (n := u - h.am) (by omega) (by omega)
    have w3 := wrap_i64 (n := h.ls * (u - h.am)) (by omega) (by omega)
    have w4 := wrap_i64 (n := e * h.pw - h.ls * (u - h.am)) (by omega) (by omega)
    generalize (e * h.pw - h.ls * (u - h.am)) / h.ms = z at *
    have w5 := wrap_i64 (n := u + z) (by omega) (by omega)
    subst hs
    refine pc_of_awp cx (fn := Try.f36) (c := _) Try.func36 rfl rfl (Nat.le_of_ble_eq_true rfl) ?_
    rw [Try.ntmps36]; refine Nav.imp ?_
    refine awp_region cx [] fun K hK => ?_
    simp [push_cast]
    repeat (refine And.intro (by clear hK; intros; first | omega | (simp_all; done) | (simp_all <;> omega)) ?_)
    refine hK _ ?_; clear hK K; refine Nav.imp ?_
    refine awp_region cx [(1, .p (.bool true))] fun K hK => ?_
    simp [push_cast, c1]
    repeat (refine And.intro (by clear hK; intros; first | omega | (simp_all; done) | (simp_all <;> omega)) ?_)
    refine hK _ ?_; clear hK K; refine Nav.imp ?_
    refine awp_cond (b := false) (by simp [push_cast]) (fun hb => ?_) (fun hb => ?_) <;> (refine Nav.imp ?_)
    · simp at hb
    · refine awp_region cx [(1, .p (.int .i64 u))] fun K hK => ?_
      simp [push_cast, c2]
      repeat (refine And.intro (by clear hK; intros; first | omega | (simp_all; done) | (simp_all <;> omega)) ?_)
      refine hK _ ?_; clear hK K; refine Nav.imp ?_
      refine awp_region cx [(1, .p (.int .i64 e))] fun K hK => ?_
      simp [push_cast, c3]
      repeat (refine And.intro (by clear hK; intros; first | omega | (simp_all; done) | (simp_all <;> omega)) ?_)
      refine hK _ ?_; clear hK K; refine Nav.imp ?_
      refine awp_region cx [(14, .p (.tup [.int .i64 z, .int .i64 0]))] fun K hK => ?_
      simp [push_cast, c4, w1, w2, w3, w4]
      repeat (refine And.intro (by clear hK; intros; first | omega | (simp_all; done) | (simp_all <;> omega)) ?_)
      refine hK _ ?_; clear hK K; refine Nav.imp ?_
      refine awp_region cx [] fun K hK => ?_
      simp [push_cast, w5]
      repeat (refine And.intro (by clear hK; intros; first | omega | (simp_all; done) | (simp_all <;> omega)) ?_)
      refine hK _ ?_; clear hK K; refine Nav.imp ?_
      simp [push_cast]
end Go.Proofs.Ytlfbjflfbjkbeaa

namespace Go.Proofs.Ytlfbjflfbjkbeaa
open Go.Abs

def Bench.h0 (b : Bench) : Htr := ⟨b.pw0, b.ls0, b.ms0, b.am0⟩
def Bench.h1 (b : Bench) : Htr := ⟨b.pw1, b.ls1, b.ms1, b.am1⟩
def heatT (h : Htr) (t d : Int) : Int := if htB h && decide (-1073741824 ≤ t) && decide (t ≤ 1073741824) then stepI h t d else t
def heatB (b : Bench) (d0 d1 : Int) : Bench := { b with t0 := heatT b.h0 b.t0 d0, t1 := heatT b.h1 b.t1 d1 }
def readD (b : Bench) : D := .agg [.int .i64 (if b.k0 then 0 else b.t0), .int .i64 (if b.k1 then 0 else b.t1)]


end Go.Proofs.Ytlfbjflfbjkbeaa
