/- A part of a proof about a statement of cyanotypelaw22: a step that the closing text imports. Each theorem states its own conditions. -/
import Derived.Test.YtfbamgphngmglaaGreatDoorTabP
set_option linter.unusedSimpArgs false
set_option linter.unusedVariables false
namespace Go.Proofs.YtfbamgphngmglaaGreatDoor
open Go Go.Abs
set_option maxRecDepth 100000
def extT (f : Nat) : Option ExtK := cond (Nat.beq f 63) (some .same) (cond (Nat.beq f 82) (some .count) (cond (Nat.beq f 85) (some .index) (cond (Nat.beq f 102) (some (.rawBytes 5)) none)))
def eqTT (t : Nat) : Bool := Nat.beq t 23 || Nat.beq t 269
def eqII (t : Nat) : Bool := Nat.beq t 149
def liveT (f r : Nat) : Option (List Nat) := cond (Nat.beq f 6) (some [0, 1, 4, 5]) none
noncomputable def E0 : Env := { T := TTr.get, ext := extT, glob := GTr.get, con := fun _ => none, eqT := eqTT, eqI := eqII, fns := fnsOf Tryz.prog, live := liveT }
theorem x63 : ExtOK Tryz.prog 63 .same := ext_same (fn := Tryz.f63) (by kernel_rfl) (by kernel_rfl) (by kernel_rfl) (by kernel_rfl) (by kernel_rfl)
theorem x82 : ExtOK Tryz.prog 82 .count := ext_count (fn := Tryz.f82) (by kernel_rfl) (by kernel_rfl) (by kernel_rfl) (by kernel_rfl) (by kernel_rfl)
theorem x85 : ExtOK Tryz.prog 85 .index := ext_index (fn := Tryz.f85) (by kernel_rfl) (by kernel_rfl) (by kernel_rfl) (by kernel_rfl) (by kernel_rfl)
theorem x102 : ExtOK Tryz.prog 102 (.rawBytes 5) := ext_raw (fn := Tryz.f102) (r := 27) (ps := #[3]) (by kernel_rfl) (by kernel_rfl) (by kernel_rfl) (by kernel_rfl) (by kernel_rfl) (by kernel_rfl)
theorem extOK : ∀ f k, extT f = some k → ExtOK Tryz.prog f k := by
  intro f k h
  unfold extT at h
  cases h1 : Nat.beq f 63 with
  | true => rw [h1] at h; cases h; rw [Nat.eq_of_beq_eq_true h1]; exact x63
  | false =>
    rw [h1] at h
    cases h2 : Nat.beq f 82 with
    | true => rw [h2] at h; cases h; rw [Nat.eq_of_beq_eq_true h2]; exact x82
    | false =>
      rw [h2] at h
      cases h3 : Nat.beq f 85 with
      | true => rw [h3] at h; cases h; rw [Nat.eq_of_beq_eq_true h3]; exact x85
      | false =>
        rw [h3] at h
        cases h4 : Nat.beq f 102 with
        | true => rw [h4] at h; cases h; rw [Nat.eq_of_beq_eq_true h4]; exact x102
        | false => rw [h4] at h; cases h
theorem under3 : Tryz.prog.underlying 3 = some (.int .i64) := by kernel_rfl
theorem flat23 : FlatI Tryz.prog (Tryz.prog.fieldsOf 23).toList 0 := by
  have h : (Tryz.prog.fieldsOf 23).toList = [(Tryz.prog.fieldsOf 23)[0]!, (Tryz.prog.fieldsOf 23)[1]!, (Tryz.prog.fieldsOf 23)[2]!, (Tryz.prog.fieldsOf 23)[3]!, (Tryz.prog.fieldsOf 23)[4]!, (Tryz.prog.fieldsOf 23)[5]!] := by kernel_rfl
  rw [h]
  exact ⟨by kernel_rfl, by kernel_rfl, ⟨.i64, by kernel_rfl⟩, by kernel_rfl, by kernel_rfl, ⟨.i64, by kernel_rfl⟩, by kernel_rfl, by kernel_rfl, ⟨.i64, by kernel_rfl⟩, by kernel_rfl, by kernel_rfl, ⟨.i64, by kernel_rfl⟩,
    by kernel_rfl, by kernel_rfl, ⟨.i64, by kernel_rfl⟩, by kernel_rfl, by kernel_rfl, ⟨.i64, by kernel_rfl⟩, trivial⟩
theorem flat269 : FlatI Tryz.prog (Tryz.prog.fieldsOf 269).toList 0 := by
  have h : (Tryz.prog.fieldsOf 269).toList = [(Tryz.prog.fieldsOf 269)[0]!, (Tryz.prog.fieldsOf 269)[1]!] := by kernel_rfl
  rw [h]
  exact ⟨by kernel_rfl, by kernel_rfl, ⟨.i64, by kernel_rfl⟩, by kernel_rfl, by kernel_rfl, ⟨.i64, by kernel_rfl⟩, trivial⟩
theorem eqOK : EqOK Tryz.prog TTr.get eqTT := by
  intro t d ht hd
  unfold eqTT at ht
  rw [Bool.or_eq_true] at ht
  rcases ht with ht | ht
  · have := Nat.eq_of_beq_eq_true ht
    subst this
    exact eq_struct (d := T23) (by kernel_rfl) (by kernel_rfl) (by kernel_rfl) (by kernel_rfl) flat23 (by kernel_rfl) d hd
  · have := Nat.eq_of_beq_eq_true ht
    subst this
    exact eq_struct (d := T269) (by kernel_rfl) (by kernel_rfl) (by kernel_rfl) (by kernel_rfl) flat269 (by kernel_rfl) d hd
theorem intOK : IntOK Tryz.prog eqII := by
  intro t ht
  have := Nat.eq_of_beq_eq_true ht
  subst this
  exact ⟨(Tryz.prog.info? 149).get (by kernel_rfl), .i64, by kernel_rfl, by kernel_rfl, by kernel_rfl⟩
theorem envOK : EnvOK Tryz.prog E0 where
  T := ttok
  ext := extOK
  eq := eqOK
  eqI := intOK
  mixed := by kernel_rfl
theorem evalOK (k n : Nat) : InlOK Tryz.prog E0 (evalN E0 k n) := evalN_sound envOK (conOK_none fun _ => rfl) (fnsOf_ok rfl) k n
end Go.Proofs.YtfbamgphngmglaaGreatDoor
