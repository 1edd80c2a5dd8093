/- ShelfNil is proved: for every place and number, and whether the shelf is none or a zero one, the law answers true; no conditions. -/
import Derived.Test.YtcagogdllnlihaaGreatRows
import Derived.Test.YtcagogdllnlihaaGreatRShelfNil
import Derived.Test.YtcagogdllnlihaaGreatAmW
import Derived.WalkKit
import Derived.ProofKit
import Derived.OpenShut
import Derived.Lib.SmallJoins
set_option linter.all false
namespace Go.Am
open Go.Proofs
attribute [local irreducible] func
theorem shelfNil_calls (a b n : Int) (z : Bool) (w : World) : Calls Tryz.prog 6 #[.agg #[.int .i64 a, .int .i64 b], .int .i64 n, .bool z] w fun e w' => e = .returned (.bool true) ∧ Go.RowKit.Grown w w' ∧ Kept w w' := by
  have h : okB isTrue (func Tryz.prog ext1 ann 200 6 [.agg ⟨[.int .i64 a, .int .i64 b]⟩, .int .i64 n, .bool z] (start w)) = true := by
    rw [run_func tab_ok]
    cases z
    · exact shelfNil_runF a b n w
    · exact shelfNil_runT a b n w
  have hp : [Value.agg ⟨[.int .i64 a, .int .i64 b]⟩, .int .i64 n, .bool z].all constOk = true := by simp [constOk, plainB]
  exact walk_true2 fol namesP ext1_ok (A := ann) (n := 200) hp (okB_sat h)
end Go.Am
namespace Go.Proofs.YtcagogdllnlihaaGreat.shelfNil
open Go.Joins Go.ChangeShapes Go.WideShapes Go.ChangeAt Go.RowKit

theorem own : ownKnob Tryz.prog.godebug = none := by kernel_rfl
theorem laidOut : laidOutB Tryz.prog = true := by kernel_rfl

set_option maxRecDepth 100000 in
theorem lifted (os : Os) (started : os.Started) (H : Type) (enc : TypeId × Value → H) :
    ReturnsInHanded {} Tryz.checked os 6 .any (Rows.shelfNilSpec.pre6 enc Tryz.prog Tryz.f6 Rows.shelfNilRow.domain false) (Rows.shelfNilSpec.post enc Tryz.prog Tryz.f6 false true false false) := by
  refine returnsInHanded_of_change (C := Tryz.checked) own started (by kernel_rfl) Tryz.func6
    (ChangeSpec.witness6 (enc := enc) (C := Tryz.checked) false ⟨#[], #[.agg #[.int .i64 0, .int .i64 0], .int .i64 0, .bool false], []⟩ 8 (by kernel_rfl) (by kernel_rfl) (by kernel_rfl) (by kernel_rfl)) ?_
  intro W base args ds gs before hval0 hW hcnd _
  have hval : ∀ (j : Nat) t v, Tryz.f6.params[j]? = some t → args[j]? = some v → Value.okWide Tryz.prog W .any base t v := hval0
  have hW' := hW
  obtain ⟨p, q, hA0, hV, rfl, hfz, hnd⟩ := hW
  have hA : DataW.TrodAll enc Tryz.prog W 0 (fun _ => true) true Tryz.f6.params.toList args.toList ds p := hA0
  rw [Tryz.params6] at hA hval
  obtain ⟨v0, vs0, d0, ds0, p0, q0, hargs, rfl, rfl, h0, r0⟩ := trodAll_cons hA
  obtain ⟨v1, vs1, d1, ds1, p1, q1, rfl, rfl, rfl, h1, r1⟩ := trodAll_cons r0
  obtain ⟨v2, vs2, d2, ds2, p2, q2, rfl, rfl, rfl, h2, r2⟩ := trodAll_cons r1
  obtain ⟨rfl, rfl, rfl⟩ := trodAll_nil r2
  obtain rfl : args = #[v0, v1, v2] := by cases args; simp_all
  obtain ⟨rfl, rfl⟩ := trodVars_none hV
  have k0 := h0
  have k1 := h1
  have k2 := h2
  obtain ⟨u0, u1, y0, y1, n, e0, _, _, t0, t1⟩ := open_agg2 Tryz.underlying55 (by kernel_rfl) (by kernel_rfl) (hval 0 55 v0 rfl rfl) h0
  obtain ⟨a, ea, _, _⟩ := DataW.trod_int Tryz.underlying3 t0
  obtain ⟨b, eb, _, _⟩ := DataW.trod_int Tryz.underlying3 t1
  cases ea
  cases eb
  subst e0
  obtain ⟨a1, rfl, _, _, _⟩ := open_int Tryz.underlying3 (hval 1 3 v1 rfl rfl) h1
  obtain ⟨a2, rfl, _, _⟩ := open_bool Tryz.underlying4 (hval 2 4 v2 rfl rfl) h2
  clear hA0 hval0
  refine (Go.Am.shelfNil_calls a b a1 a2 W).mono fun e W' ⟨he, hg, hk⟩ => ?_
  subst he
  exact ⟨_, rfl, _, _, _, [], _, [], hW', trodAll_mk1 (shut_bool Tryz.underlying4 _),
    (trodAll_cons_mk (Go.Am.stays laidOut (by kernel_rfl) (of_decide_eq_true (by kernel_rfl)) k0 hk) (trodAll_cons_mk (Go.Am.stays laidOut (by kernel_rfl) (of_decide_eq_true (by kernel_rfl)) k1 hk) (trodAll_cons_mk (Go.Am.stays laidOut (by kernel_rfl) (of_decide_eq_true (by kernel_rfl)) k2 hk) trodAll_mk0))),
    rfl, hg.frame _, fun h => by cases h⟩

theorem over : Rows.shelfNilRow.holds Tryz.pinned (OpenSpec.ofChange Rows.shelfNilSpec) :=
  OpenClaim.holds_of_wide 6 Tryz.f6 rfl rfl rfl rfl rfl rfl rfl ⟨rfl, rfl, rfl, rfl, rfl⟩ rfl rfl rfl rfl rfl (by kernel_rfl) Tryz.func6 (by kernel_rfl)
    (of_decide_eq_true (by kernel_rfl)) (by unfold Func.isWrapper; first | (rw [if_pos (by decide +kernel)]; kernel_rfl) | (rw [if_neg (by decide +kernel)]; exact ⟨rfl, rfl⟩))
    (fun os started H enc _ => lifted os started H enc)

theorem proved : Rows.ShelfNilSaid := over
#print axioms proved
end Go.Proofs.YtcagogdllnlihaaGreat.shelfNil
