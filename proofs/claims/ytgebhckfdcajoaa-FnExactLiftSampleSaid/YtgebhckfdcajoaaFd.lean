/- PRINTED BY gen.py (own program): what the proofs need of each function: its body, its loops' live slots, its results' shapes. -/
import Derived.Test.YtgebhckfdcajoaaTab
namespace Go.Proofs.Ytgebhckfdcajoaa.Ev
open Go
/-- laws.FnExactNewSchool -/
def n_l_FnExactNewSchool : Nat := 3
noncomputable def b_l_FnExactNewSchool : Code := (Try.f3.body).getD .skip
def k_l_FnExactNewSchool : Nat → List Nat := fun n => lookN n []
theorem p_l_FnExactNewSchool {args : List AV} {r : Pk} (b : Bool) (h1 : args.all AV.isD = true) (h2 : Nat.ble args.length 63 = true) (h3 : evFun (env b) orc k_l_FnExactNewSchool [.bool] [.tmp 2] 63 b_l_FnExactNewSchool args [] fun r' _ => r' = r) : orc.pc 3 args r :=
  pureC_of (envOk b) (orcOk b) Try.func3 (by rfl) rfl (by rfl) (by rfl) h1 (Nat.le_of_ble_eq_true h2) h3
/-- laws.FnExactStepPerceptron -/
def n_l_FnExactStepPerceptron : Nat := 4
noncomputable def b_l_FnExactStepPerceptron : Code := (Try.f4.body).getD .skip
def k_l_FnExactStepPerceptron : Nat → List Nat := fun n => lookN n []
theorem p_l_FnExactStepPerceptron {args : List AV} {r : Pk} (b : Bool) (h1 : args.all AV.isD = true) (h2 : Nat.ble args.length 143 = true) (h3 : evFun (env b) orc k_l_FnExactStepPerceptron [.bool] [.tmp 6] 143 b_l_FnExactStepPerceptron args [] fun r' _ => r' = r) : orc.pc 4 args r :=
  pureC_of (envOk b) (orcOk b) Try.func4 (by rfl) rfl (by rfl) (by rfl) h1 (Nat.le_of_ble_eq_true h2) h3
/-- laws.FnExactIsSchool -/
def n_l_FnExactIsSchool : Nat := 6
noncomputable def b_l_FnExactIsSchool : Code := (Try.f6.body).getD .skip
def k_l_FnExactIsSchool : Nat → List Nat := fun n => lookN n []
theorem p_l_FnExactIsSchool {args : List AV} {r : Pk} (b : Bool) (h1 : args.all AV.isD = true) (h2 : Nat.ble args.length 27 = true) (h3 : evFun (env b) orc k_l_FnExactIsSchool [.bool] [.tmp 2] 27 b_l_FnExactIsSchool args [] fun r' _ => r' = r) : orc.pc 6 args r :=
  pureC_of (envOk b) (orcOk b) Try.func6 (by rfl) rfl (by rfl) (by rfl) h1 (Nat.le_of_ble_eq_true h2) h3
/-- laws.FnExactLiftSample -/
def n_l_FnExactLiftSample : Nat := 7
noncomputable def b_l_FnExactLiftSample : Code := (Try.f7.body).getD .skip
def k_l_FnExactLiftSample : Nat → List Nat := fun n => lookN n []
theorem p_l_FnExactLiftSample {args : List AV} {r : Pk} (b : Bool) (h1 : args.all AV.isD = true) (h2 : Nat.ble args.length 96 = true) (h3 : evFun (env b) orc k_l_FnExactLiftSample [.bool] [.tmp 2] 96 b_l_FnExactLiftSample args [] fun r' _ => r' = r) : orc.pc 7 args r :=
  pureC_of (envOk b) (orcOk b) Try.func7 (by rfl) rfl (by rfl) (by rfl) h1 (Nat.le_of_ble_eq_true h2) h3
/-- laws.FnExactJoinSamples -/
def n_l_FnExactJoinSamples : Nat := 8
noncomputable def b_l_FnExactJoinSamples : Code := (Try.f8.body).getD .skip
def k_l_FnExactJoinSamples : Nat → List Nat := fun n => lookN n []
theorem p_l_FnExactJoinSamples {args : List AV} {r : Pk} (b : Bool) (h1 : args.all AV.isD = true) (h2 : Nat.ble args.length 119 = true) (h3 : evFun (env b) orc k_l_FnExactJoinSamples [.bool] [.tmp 4] 119 b_l_FnExactJoinSamples args [] fun r' _ => r' = r) : orc.pc 8 args r :=
  pureC_of (envOk b) (orcOk b) Try.func8 (by rfl) rfl (by rfl) (by rfl) h1 (Nat.le_of_ble_eq_true h2) h3
/-- laws.FnExactTurnLabels -/
def n_l_FnExactTurnLabels : Nat := 9
noncomputable def b_l_FnExactTurnLabels : Code := (Try.f9.body).getD .skip
def k_l_FnExactTurnLabels : Nat → List Nat := fun n => lookN n []
theorem p_l_FnExactTurnLabels {args : List AV} {r : Pk} (b : Bool) (h1 : args.all AV.isD = true) (h2 : Nat.ble args.length 96 = true) (h3 : evFun (env b) orc k_l_FnExactTurnLabels [.bool] [.tmp 2] 96 b_l_FnExactTurnLabels args [] fun r' _ => r' = r) : orc.pc 9 args r :=
  pureC_of (envOk b) (orcOk b) Try.func9 (by rfl) rfl (by rfl) (by rfl) h1 (Nat.le_of_ble_eq_true h2) h3
/-- laws.FnExactMoveSample -/
def n_l_FnExactMoveSample : Nat := 11
noncomputable def b_l_FnExactMoveSample : Code := (Try.f11.body).getD .skip
def k_l_FnExactMoveSample : Nat → List Nat := fun n => lookN n []
theorem p_l_FnExactMoveSample {args : List AV} {r : Pk} (b : Bool) (h1 : args.all AV.isD = true) (h2 : Nat.ble args.length 117 = true) (h3 : evFun (env b) orc k_l_FnExactMoveSample [.bool] [.tmp 4] 117 b_l_FnExactMoveSample args [] fun r' _ => r' = r) : orc.pc 11 args r :=
  pureC_of (envOk b) (orcOk b) Try.func11 (by rfl) rfl (by rfl) (by rfl) h1 (Nat.le_of_ble_eq_true h2) h3
/-- laws.FnExactFollowingSays -/
def n_l_FnExactFollowingSays : Nat := 12
noncomputable def b_l_FnExactFollowingSays : Code := (Try.f12.body).getD .skip
def k_l_FnExactFollowingSays : Nat → List Nat := fun n => lookN n []
theorem p_l_FnExactFollowingSays {args : List AV} {r : Pk} (b : Bool) (h1 : args.all AV.isD = true) (h2 : Nat.ble args.length 96 = true) (h3 : evFun (env b) orc k_l_FnExactFollowingSays [.bool] [.tmp 2] 96 b_l_FnExactFollowingSays args [] fun r' _ => r' = r) : orc.pc 12 args r :=
  pureC_of (envOk b) (orcOk b) Try.func12 (by rfl) rfl (by rfl) (by rfl) h1 (Nat.le_of_ble_eq_true h2) h3
/-- laws.FnExactKernelMistakes -/
def n_l_FnExactKernelMistakes : Nat := 14
noncomputable def b_l_FnExactKernelMistakes : Code := (Try.f14.body).getD .skip
def k_l_FnExactKernelMistakes : Nat → List Nat := fun n => lookN n []
theorem p_l_FnExactKernelMistakes {args : List AV} {r : Pk} (b : Bool) (h1 : args.all AV.isD = true) (h2 : Nat.ble args.length 122 = true) (h3 : evFun (env b) orc k_l_FnExactKernelMistakes [.bool] [.tmp 6] 122 b_l_FnExactKernelMistakes args [] fun r' _ => r' = r) : orc.pc 14 args r :=
  pureC_of (envOk b) (orcOk b) Try.func14 (by rfl) rfl (by rfl) (by rfl) h1 (Nat.le_of_ble_eq_true h2) h3
/-- spec.NewSchool -/
def n_s_NewSchool : Nat := 15
noncomputable def b_s_NewSchool : Code := (Try.f15.body).getD .skip
def k_s_NewSchool : Nat → List Nat := fun n => lookN n []
theorem p_s_NewSchool {args : List AV} {r : Pk} (b : Bool) (h1 : args.all AV.isD = true) (h2 : Nat.ble args.length 13 = true) (h3 : evFun (env b) orc k_s_NewSchool [.pair (.pair (.sl (.sl (.int .i64))) (.pair (.sl (.int .i64)) (.unit))) (.pair (.pair (.sl (.int .i64)) (.pair (.int .i64) (.unit))) (.pair (.int .i64) (.pair (.int .i64) (.unit)))), .bool] [.cell 2 29, .tmp 3] 13 b_s_NewSchool args [] fun r' _ => r' = r) : orc.pc 15 args r :=
  pureC_of (envOk b) (orcOk b) Try.func15 (by rfl) rfl (by rfl) (by rfl) h1 (Nat.le_of_ble_eq_true h2) h3
/-- impl.NewSchool -/
def n_i_NewSchool : Nat := 16
noncomputable def b_i_NewSchool : Code := (Try.f16.body).getD .skip
def k_i_NewSchool : Nat → List Nat := fun n => lookN n []
theorem p_i_NewSchool {args : List AV} {r : Pk} (b : Bool) (h1 : args.all AV.isD = true) (h2 : Nat.ble args.length 12 = true) (h3 : evFun (env b) orc k_i_NewSchool [.pair (.pair (.sl (.sl (.int .i64))) (.pair (.sl (.int .i64)) (.unit))) (.pair (.pair (.sl (.int .i64)) (.pair (.int .i64) (.unit))) (.pair (.int .i64) (.pair (.int .i64) (.unit)))), .bool] [.cell 2 29, .tmp 3] 12 b_i_NewSchool args [] fun r' _ => r' = r) : orc.pc 16 args r :=
  pureC_of (envOk b) (orcOk b) Try.func16 (by rfl) rfl (by rfl) (by rfl) h1 (Nat.le_of_ble_eq_true h2) h3
/-- laws.eqSchool -/
def n_l_eqSchool : Nat := 17
noncomputable def b_l_eqSchool : Code := (Try.f17.body).getD .skip
def k_l_eqSchool : Nat → List Nat := fun n => lookN n []
theorem p_l_eqSchool {args : List AV} {r : Pk} (b : Bool) (h1 : args.all AV.isD = true) (h2 : Nat.ble args.length 27 = true) (h3 : evFun (env b) orc k_l_eqSchool [.bool] [.tmp 4] 27 b_l_eqSchool args [] fun r' _ => r' = r) : orc.pc 17 args r :=
  pureC_of (envOk b) (orcOk b) Try.func17 (by rfl) rfl (by rfl) (by rfl) h1 (Nat.le_of_ble_eq_true h2) h3
/-- laws.markSchool -/
def n_l_markSchool : Nat := 18
noncomputable def b_l_markSchool : Code := (Try.f18.body).getD .skip
def k_l_markSchool : Nat → List Nat := fun n => lookN n []
theorem p_l_markSchool {vs : List AV} {st : St} {r : AV} {st2 : St} (b : Bool) (hst : 0 < st.length) (h1 : vs.all (fun v => !v.isBad) = true) (h2 : Nat.ble vs.length 14 = true) (h3 : evInl (env b) orc k_l_markSchool [.int .i64] [.tmp 4] 14 b_l_markSchool (vs.map AV.inner) st fun r' st' => r' = r ∧ st' = st2) : orc.ic 18 vs st r st2 :=
  inlC_of (envOk b) (orcOk b) Try.func18 (by rfl) rfl (by rfl) (by rfl) hst h1 (Nat.le_of_ble_eq_true h2) h3
/-- laws.heldSchool -/
def n_l_heldSchool : Nat := 19
noncomputable def b_l_heldSchool : Code := (Try.f19.body).getD .skip
def k_l_heldSchool : Nat → List Nat := fun n => lookN n []
theorem p_l_heldSchool {args : List AV} {r : Pk} (b : Bool) (h1 : args.all AV.isD = true) (h2 : Nat.ble args.length 18 = true) (h3 : evFun (env b) orc k_l_heldSchool [.int .i64] [.tmp 4] 18 b_l_heldSchool args [] fun r' _ => r' = r) : orc.pc 19 args r :=
  pureC_of (envOk b) (orcOk b) Try.func19 (by rfl) rfl (by rfl) (by rfl) h1 (Nat.le_of_ble_eq_true h2) h3
/-- laws.szPlane -/
def n_l_szPlane : Nat := 20
noncomputable def b_l_szPlane : Code := (Try.f20.body).getD .skip
def k_l_szPlane : Nat → List Nat := fun n => lookN n []
theorem p_l_szPlane {args : List AV} {r : Pk} (b : Bool) (h1 : args.all AV.isD = true) (h2 : Nat.ble args.length 12 = true) (h3 : evFun (env b) orc k_l_szPlane [.int .i64] [.tmp 4] 12 b_l_szPlane args [] fun r' _ => r' = r) : orc.pc 20 args r :=
  pureC_of (envOk b) (orcOk b) Try.func20 (by rfl) rfl (by rfl) (by rfl) h1 (Nat.le_of_ble_eq_true h2) h3
/-- spec.StepPerceptron -/
def n_s_StepPerceptron : Nat := 21
noncomputable def b_s_StepPerceptron : Code := (Try.f21.body).getD .skip
def k_s_StepPerceptron : Nat → List Nat := fun n => lookN n []
theorem p_s_StepPerceptron {args : List AV} {r : Pk} (b : Bool) (h1 : args.all AV.isD = true) (h2 : Nat.ble args.length 45 = true) (h3 : evFun (env b) orc k_s_StepPerceptron [.pair (.sl (.int .i64)) (.pair (.int .i64) (.unit)), .bool, .bool] [.cell 6 27, .tmp 7, .tmp 8] 45 b_s_StepPerceptron args [] fun r' _ => r' = r) : orc.pc 21 args r :=
  pureC_of (envOk b) (orcOk b) Try.func21 (by rfl) rfl (by rfl) (by rfl) h1 (Nat.le_of_ble_eq_true h2) h3
/-- laws.toPlane -/
def n_l_toPlane : Nat := 22
noncomputable def b_l_toPlane : Code := (Try.f22.body).getD .skip
def k_l_toPlane : Nat → List Nat := fun n => lookN n []
theorem p_l_toPlane {args : List AV} {r : Pk} (b : Bool) (h1 : args.all AV.isD = true) (h2 : Nat.ble args.length 12 = true) (h3 : evFun (env b) orc k_l_toPlane [.pair (.sl (.int .i64)) (.pair (.int .i64) (.unit))] [.cell 2 27] 12 b_l_toPlane args [] fun r' _ => r' = r) : orc.pc 22 args r :=
  pureC_of (envOk b) (orcOk b) Try.func22 (by rfl) rfl (by rfl) (by rfl) h1 (Nat.le_of_ble_eq_true h2) h3
/-- laws.toIntS -/
def n_l_toIntS : Nat := 23
noncomputable def b_l_toIntS : Code := (Try.f23.body).getD .skip
def k_l_toIntS : Nat → List Nat := fun n => lookN n [(3, [0, 2, 3, 4])]
theorem p_l_toIntS {args : List AV} {r : Pk} (b : Bool) (h1 : args.all AV.isD = true) (h2 : Nat.ble args.length 22 = true) (h3 : evFun (env b) orc k_l_toIntS [.sl (.int .i64)] [.tmp 2] 22 b_l_toIntS args [] fun r' _ => r' = r) : orc.pc 23 args r :=
  pureC_of (envOk b) (orcOk b) Try.func23 (by rfl) rfl (by rfl) (by rfl) h1 (Nat.le_of_ble_eq_true h2) h3
/-- impl.StepPerceptron -/
def n_i_StepPerceptron : Nat := 24
noncomputable def b_i_StepPerceptron : Code := (Try.f24.body).getD .skip
def k_i_StepPerceptron : Nat → List Nat := fun n => lookN n []
theorem p_i_StepPerceptron {args : List AV} {r : Pk} (b : Bool) (h1 : args.all AV.isD = true) (h2 : Nat.ble args.length 39 = true) (h3 : evFun (env b) orc k_i_StepPerceptron [.pair (.sl (.int .i64)) (.pair (.int .i64) (.unit)), .bool, .bool] [.cell 6 27, .tmp 7, .tmp 8] 39 b_i_StepPerceptron args [] fun r' _ => r' = r) : orc.pc 24 args r :=
  pureC_of (envOk b) (orcOk b) Try.func24 (by rfl) rfl (by rfl) (by rfl) h1 (Nat.le_of_ble_eq_true h2) h3
/-- laws.eqPlane -/
def n_l_eqPlane : Nat := 25
noncomputable def b_l_eqPlane : Code := (Try.f25.body).getD .skip
def k_l_eqPlane : Nat → List Nat := fun n => lookN n []
theorem p_l_eqPlane {args : List AV} {r : Pk} (b : Bool) (h1 : args.all AV.isD = true) (h2 : Nat.ble args.length 16 = true) (h3 : evFun (env b) orc k_l_eqPlane [.bool] [.tmp 4] 16 b_l_eqPlane args [] fun r' _ => r' = r) : orc.pc 25 args r :=
  pureC_of (envOk b) (orcOk b) Try.func25 (by rfl) rfl (by rfl) (by rfl) h1 (Nat.le_of_ble_eq_true h2) h3
/-- laws.eqIntS -/
def n_l_eqIntS : Nat := 26
noncomputable def b_l_eqIntS : Code := (Try.f26.body).getD .skip
def k_l_eqIntS : Nat → List Nat := fun n => lookN n [(4, [0, 1, 5])]
theorem p_l_eqIntS {args : List AV} {r : Pk} (b : Bool) (h1 : args.all AV.isD = true) (h2 : Nat.ble args.length 26 = true) (h3 : evFun (env b) orc k_l_eqIntS [.bool] [.tmp 4] 26 b_l_eqIntS args [] fun r' _ => r' = r) : orc.pc 26 args r :=
  pureC_of (envOk b) (orcOk b) Try.func26 (by rfl) rfl (by rfl) (by rfl) h1 (Nat.le_of_ble_eq_true h2) h3
/-- laws.markPlane -/
def n_l_markPlane : Nat := 27
noncomputable def b_l_markPlane : Code := (Try.f27.body).getD .skip
def k_l_markPlane : Nat → List Nat := fun n => lookN n []
theorem p_l_markPlane {vs : List AV} {st : St} {r : AV} {st2 : St} (b : Bool) (hst : 0 < st.length) (h1 : vs.all (fun v => !v.isBad) = true) (h2 : Nat.ble vs.length 10 = true) (h3 : evInl (env b) orc k_l_markPlane [.int .i64] [.tmp 4] 10 b_l_markPlane (vs.map AV.inner) st fun r' st' => r' = r ∧ st' = st2) : orc.ic 27 vs st r st2 :=
  inlC_of (envOk b) (orcOk b) Try.func27 (by rfl) rfl (by rfl) (by rfl) hst h1 (Nat.le_of_ble_eq_true h2) h3
/-- laws.markIntS -/
def n_l_markIntS : Nat := 28
noncomputable def b_l_markIntS : Code := (Try.f28.body).getD .skip
def k_l_markIntS : Nat → List Nat := fun n => lookN n [(2, [0, 1, 4, 5])]
theorem p_l_markIntS {vs : List AV} {st : St} {r : AV} {st2 : St} (b : Bool) (hst : 0 < st.length) (h1 : vs.all (fun v => !v.isBad) = true) (h2 : Nat.ble vs.length 19 = true) (h3 : evInl (env b) orc k_l_markIntS [.int .i64] [.tmp 4] 19 b_l_markIntS (vs.map AV.inner) st fun r' st' => r' = r ∧ st' = st2) : orc.ic 28 vs st r st2 :=
  inlC_of (envOk b) (orcOk b) Try.func28 (by rfl) rfl (by rfl) (by rfl) hst h1 (Nat.le_of_ble_eq_true h2) h3
/-- laws.heldPlane -/
def n_l_heldPlane : Nat := 29
noncomputable def b_l_heldPlane : Code := (Try.f29.body).getD .skip
def k_l_heldPlane : Nat → List Nat := fun n => lookN n []
theorem p_l_heldPlane {args : List AV} {r : Pk} (b : Bool) (h1 : args.all AV.isD = true) (h2 : Nat.ble args.length 12 = true) (h3 : evFun (env b) orc k_l_heldPlane [.int .i64] [.tmp 4] 12 b_l_heldPlane args [] fun r' _ => r' = r) : orc.pc 29 args r :=
  pureC_of (envOk b) (orcOk b) Try.func29 (by rfl) rfl (by rfl) (by rfl) h1 (Nat.le_of_ble_eq_true h2) h3
/-- laws.szSchool -/
def n_l_szSchool : Nat := 34
noncomputable def b_l_szSchool : Code := (Try.f34.body).getD .skip
def k_l_szSchool : Nat → List Nat := fun n => lookN n []
theorem p_l_szSchool {args : List AV} {r : Pk} (b : Bool) (h1 : args.all AV.isD = true) (h2 : Nat.ble args.length 18 = true) (h3 : evFun (env b) orc k_l_szSchool [.int .i64] [.tmp 4] 18 b_l_szSchool args [] fun r' _ => r' = r) : orc.pc 34 args r :=
  pureC_of (envOk b) (orcOk b) Try.func34 (by rfl) rfl (by rfl) (by rfl) h1 (Nat.le_of_ble_eq_true h2) h3
/-- spec.IsSchool -/
def n_s_IsSchool : Nat := 35
noncomputable def b_s_IsSchool : Code := (Try.f35.body).getD .skip
def k_s_IsSchool : Nat → List Nat := fun n => lookN n []
theorem p_s_IsSchool {args : List AV} {r : Pk} (b : Bool) (h1 : args.all AV.isD = true) (h2 : Nat.ble args.length 5 = true) (h3 : evFun (env b) orc k_s_IsSchool [.bool] [.tmp 2] 5 b_s_IsSchool args [] fun r' _ => r' = r) : orc.pc 35 args r :=
  pureC_of (envOk b) (orcOk b) Try.func35 (by rfl) rfl (by rfl) (by rfl) h1 (Nat.le_of_ble_eq_true h2) h3
/-- laws.toSchool -/
def n_l_toSchool : Nat := 36
noncomputable def b_l_toSchool : Code := (Try.f36.body).getD .skip
def k_l_toSchool : Nat → List Nat := fun n => lookN n []
theorem p_l_toSchool {args : List AV} {r : Pk} (b : Bool) (h1 : args.all AV.isD = true) (h2 : Nat.ble args.length 19 = true) (h3 : evFun (env b) orc k_l_toSchool [.pair (.pair (.sl (.sl (.int .i64))) (.pair (.sl (.int .i64)) (.unit))) (.pair (.pair (.sl (.int .i64)) (.pair (.int .i64) (.unit))) (.pair (.int .i64) (.pair (.int .i64) (.unit))))] [.cell 2 29] 19 b_l_toSchool args [] fun r' _ => r' = r) : orc.pc 36 args r :=
  pureC_of (envOk b) (orcOk b) Try.func36 (by rfl) rfl (by rfl) (by rfl) h1 (Nat.le_of_ble_eq_true h2) h3
/-- impl.IsSchool -/
def n_i_IsSchool : Nat := 37
noncomputable def b_i_IsSchool : Code := (Try.f37.body).getD .skip
def k_i_IsSchool : Nat → List Nat := fun n => lookN n []
theorem p_i_IsSchool {args : List AV} {r : Pk} (b : Bool) (h1 : args.all AV.isD = true) (h2 : Nat.ble args.length 18 = true) (h3 : evFun (env b) orc k_i_IsSchool [.bool] [.tmp 2] 18 b_i_IsSchool args [] fun r' _ => r' = r) : orc.pc 37 args r :=
  pureC_of (envOk b) (orcOk b) Try.func37 (by rfl) rfl (by rfl) (by rfl) h1 (Nat.le_of_ble_eq_true h2) h3
/-- laws.szSample -/
def n_l_szSample : Nat := 38
noncomputable def b_l_szSample : Code := (Try.f38.body).getD .skip
def k_l_szSample : Nat → List Nat := fun n => lookN n []
theorem p_l_szSample {args : List AV} {r : Pk} (b : Bool) (h1 : args.all AV.isD = true) (h2 : Nat.ble args.length 18 = true) (h3 : evFun (env b) orc k_l_szSample [.int .i64] [.tmp 4] 18 b_l_szSample args [] fun r' _ => r' = r) : orc.pc 38 args r :=
  pureC_of (envOk b) (orcOk b) Try.func38 (by rfl) rfl (by rfl) (by rfl) h1 (Nat.le_of_ble_eq_true h2) h3
/-- spec.LiftSample -/
def n_s_LiftSample : Nat := 39
noncomputable def b_s_LiftSample : Code := (Try.f39.body).getD .skip
def k_s_LiftSample : Nat → List Nat := fun n => lookN n [(5, [0, 1, 2, 3, 4, 5])]
theorem p_s_LiftSample {args : List AV} {r : Pk} (b : Bool) (h1 : args.all AV.isD = true) (h2 : Nat.ble args.length 50 = true) (h3 : evFun (env b) orc k_s_LiftSample [.pair (.sl (.sl (.int .i64))) (.pair (.sl (.int .i64)) (.unit)), .bool] [.cell 2 25, .tmp 3] 50 b_s_LiftSample args [] fun r' _ => r' = r) : orc.pc 39 args r :=
  pureC_of (envOk b) (orcOk b) Try.func39 (by rfl) rfl (by rfl) (by rfl) h1 (Nat.le_of_ble_eq_true h2) h3
/-- laws.toSample -/
def n_l_toSample : Nat := 40
noncomputable def b_l_toSample : Code := (Try.f40.body).getD .skip
def k_l_toSample : Nat → List Nat := fun n => lookN n []
theorem p_l_toSample {args : List AV} {r : Pk} (b : Bool) (h1 : args.all AV.isD = true) (h2 : Nat.ble args.length 13 = true) (h3 : evFun (env b) orc k_l_toSample [.pair (.sl (.sl (.int .i64))) (.pair (.sl (.int .i64)) (.unit))] [.cell 2 25] 13 b_l_toSample args [] fun r' _ => r' = r) : orc.pc 40 args r :=
  pureC_of (envOk b) (orcOk b) Try.func40 (by rfl) rfl (by rfl) (by rfl) h1 (Nat.le_of_ble_eq_true h2) h3
/-- impl.LiftSample -/
def n_i_LiftSample : Nat := 41
noncomputable def b_i_LiftSample : Code := (Try.f41.body).getD .skip
def k_i_LiftSample : Nat → List Nat := fun n => lookN n [(5, [0, 1, 2, 3, 4, 28, 29, 30]), (1000006, [6, 2034])]
theorem p_i_LiftSample {args : List AV} {r : Pk} (b : Bool) (h1 : args.all AV.isD = true) (h2 : Nat.ble args.length 44 = true) (h3 : evFun (env b) orc k_i_LiftSample [.pair (.sl (.sl (.int .i64))) (.pair (.sl (.int .i64)) (.unit)), .bool] [.cell 2 25, .tmp 3] 44 b_i_LiftSample args [] fun r' _ => r' = r) : orc.pc 41 args r :=
  pureC_of (envOk b) (orcOk b) Try.func41 (by rfl) rfl (by rfl) (by rfl) h1 (Nat.le_of_ble_eq_true h2) h3
/-- laws.eqSample -/
def n_l_eqSample : Nat := 42
noncomputable def b_l_eqSample : Code := (Try.f42.body).getD .skip
def k_l_eqSample : Nat → List Nat := fun n => lookN n []
theorem p_l_eqSample {args : List AV} {r : Pk} (b : Bool) (h1 : args.all AV.isD = true) (h2 : Nat.ble args.length 17 = true) (h3 : evFun (env b) orc k_l_eqSample [.bool] [.tmp 4] 17 b_l_eqSample args [] fun r' _ => r' = r) : orc.pc 42 args r :=
  pureC_of (envOk b) (orcOk b) Try.func42 (by rfl) rfl (by rfl) (by rfl) h1 (Nat.le_of_ble_eq_true h2) h3
/-- laws.markSample -/
def n_l_markSample : Nat := 43
noncomputable def b_l_markSample : Code := (Try.f43.body).getD .skip
def k_l_markSample : Nat → List Nat := fun n => lookN n []
theorem p_l_markSample {vs : List AV} {st : St} {r : AV} {st2 : St} (b : Bool) (hst : 0 < st.length) (h1 : vs.all (fun v => !v.isBad) = true) (h2 : Nat.ble vs.length 14 = true) (h3 : evInl (env b) orc k_l_markSample [.int .i64] [.tmp 4] 14 b_l_markSample (vs.map AV.inner) st fun r' st' => r' = r ∧ st' = st2) : orc.ic 43 vs st r st2 :=
  inlC_of (envOk b) (orcOk b) Try.func43 (by rfl) rfl (by rfl) (by rfl) hst h1 (Nat.le_of_ble_eq_true h2) h3
/-- laws.heldSample -/
def n_l_heldSample : Nat := 44
noncomputable def b_l_heldSample : Code := (Try.f44.body).getD .skip
def k_l_heldSample : Nat → List Nat := fun n => lookN n []
theorem p_l_heldSample {args : List AV} {r : Pk} (b : Bool) (h1 : args.all AV.isD = true) (h2 : Nat.ble args.length 18 = true) (h3 : evFun (env b) orc k_l_heldSample [.int .i64] [.tmp 4] 18 b_l_heldSample args [] fun r' _ => r' = r) : orc.pc 44 args r :=
  pureC_of (envOk b) (orcOk b) Try.func44 (by rfl) rfl (by rfl) (by rfl) h1 (Nat.le_of_ble_eq_true h2) h3
/-- spec.JoinSamples -/
def n_s_JoinSamples : Nat := 45
noncomputable def b_s_JoinSamples : Code := (Try.f45.body).getD .skip
def k_s_JoinSamples : Nat → List Nat := fun n => lookN n []
theorem p_s_JoinSamples {args : List AV} {r : Pk} (b : Bool) (h1 : args.all AV.isD = true) (h2 : Nat.ble args.length 32 = true) (h3 : evFun (env b) orc k_s_JoinSamples [.pair (.sl (.sl (.int .i64))) (.pair (.sl (.int .i64)) (.unit)), .bool] [.cell 4 25, .tmp 5] 32 b_s_JoinSamples args [] fun r' _ => r' = r) : orc.pc 45 args r :=
  pureC_of (envOk b) (orcOk b) Try.func45 (by rfl) rfl (by rfl) (by rfl) h1 (Nat.le_of_ble_eq_true h2) h3
/-- impl.JoinSamples -/
def n_i_JoinSamples : Nat := 46
noncomputable def b_i_JoinSamples : Code := (Try.f46.body).getD .skip
def k_i_JoinSamples : Nat → List Nat := fun n => lookN n []
theorem p_i_JoinSamples {args : List AV} {r : Pk} (b : Bool) (h1 : args.all AV.isD = true) (h2 : Nat.ble args.length 38 = true) (h3 : evFun (env b) orc k_i_JoinSamples [.pair (.sl (.sl (.int .i64))) (.pair (.sl (.int .i64)) (.unit)), .bool] [.cell 4 25, .tmp 5] 38 b_i_JoinSamples args [] fun r' _ => r' = r) : orc.pc 46 args r :=
  pureC_of (envOk b) (orcOk b) Try.func46 (by rfl) rfl (by rfl) (by rfl) h1 (Nat.le_of_ble_eq_true h2) h3
/-- spec.TurnLabels -/
def n_s_TurnLabels : Nat := 47
noncomputable def b_s_TurnLabels : Code := (Try.f47.body).getD .skip
def k_s_TurnLabels : Nat → List Nat := fun n => lookN n []
theorem p_s_TurnLabels {args : List AV} {r : Pk} (b : Bool) (h1 : args.all AV.isD = true) (h2 : Nat.ble args.length 15 = true) (h3 : evFun (env b) orc k_s_TurnLabels [.pair (.sl (.sl (.int .i64))) (.pair (.sl (.int .i64)) (.unit)), .bool] [.cell 2 25, .tmp 3] 15 b_s_TurnLabels args [] fun r' _ => r' = r) : orc.pc 47 args r :=
  pureC_of (envOk b) (orcOk b) Try.func47 (by rfl) rfl (by rfl) (by rfl) h1 (Nat.le_of_ble_eq_true h2) h3
/-- impl.TurnLabels -/
def n_i_TurnLabels : Nat := 48
noncomputable def b_i_TurnLabels : Code := (Try.f48.body).getD .skip
def k_i_TurnLabels : Nat → List Nat := fun n => lookN n [(5, [0, 1, 2, 3, 4, 14, 15])]
theorem p_i_TurnLabels {args : List AV} {r : Pk} (b : Bool) (h1 : args.all AV.isD = true) (h2 : Nat.ble args.length 27 = true) (h3 : evFun (env b) orc k_i_TurnLabels [.pair (.sl (.sl (.int .i64))) (.pair (.sl (.int .i64)) (.unit)), .bool] [.cell 2 25, .tmp 3] 27 b_i_TurnLabels args [] fun r' _ => r' = r) : orc.pc 48 args r :=
  pureC_of (envOk b) (orcOk b) Try.func48 (by rfl) rfl (by rfl) (by rfl) h1 (Nat.le_of_ble_eq_true h2) h3
/-- spec.MoveSample -/
def n_s_MoveSample : Nat := 62
noncomputable def b_s_MoveSample : Code := (Try.f62.body).getD .skip
def k_s_MoveSample : Nat → List Nat := fun n => lookN n [(5, [0, 1, 2, 4, 5, 6, 7])]
theorem p_s_MoveSample {args : List AV} {r : Pk} (b : Bool) (h1 : args.all AV.isD = true) (h2 : Nat.ble args.length 61 = true) (h3 : evFun (env b) orc k_s_MoveSample [.pair (.sl (.sl (.int .i64))) (.pair (.sl (.int .i64)) (.unit)), .bool] [.cell 4 25, .tmp 5] 61 b_s_MoveSample args [] fun r' _ => r' = r) : orc.pc 62 args r :=
  pureC_of (envOk b) (orcOk b) Try.func62 (by rfl) rfl (by rfl) (by rfl) h1 (Nat.le_of_ble_eq_true h2) h3
/-- impl.MoveSample -/
def n_i_MoveSample : Nat := 63
noncomputable def b_i_MoveSample : Code := (Try.f63.body).getD .skip
def k_i_MoveSample : Nat → List Nat := fun n => lookN n [(8, [0, 1, 2, 4, 5, 6, 8, 39, 40, 41, 45, 46, 47]), (5, [0, 1, 2, 4, 5, 6, 39, 40, 41])]
theorem p_i_MoveSample {args : List AV} {r : Pk} (b : Bool) (h1 : args.all AV.isD = true) (h2 : Nat.ble args.length 66 = true) (h3 : evFun (env b) orc k_i_MoveSample [.pair (.sl (.sl (.int .i64))) (.pair (.sl (.int .i64)) (.unit)), .bool] [.cell 4 25, .tmp 5] 66 b_i_MoveSample args [] fun r' _ => r' = r) : orc.pc 63 args r :=
  pureC_of (envOk b) (orcOk b) Try.func63 (by rfl) rfl (by rfl) (by rfl) h1 (Nat.le_of_ble_eq_true h2) h3
/-- laws.szPanel -/
def n_l_szPanel : Nat := 64
noncomputable def b_l_szPanel : Code := (Try.f64.body).getD .skip
def k_l_szPanel : Nat → List Nat := fun n => lookN n []
theorem p_l_szPanel {args : List AV} {r : Pk} (b : Bool) (h1 : args.all AV.isD = true) (h2 : Nat.ble args.length 18 = true) (h3 : evFun (env b) orc k_l_szPanel [.int .i64] [.tmp 4] 18 b_l_szPanel args [] fun r' _ => r' = r) : orc.pc 64 args r :=
  pureC_of (envOk b) (orcOk b) Try.func64 (by rfl) rfl (by rfl) (by rfl) h1 (Nat.le_of_ble_eq_true h2) h3
/-- spec.FollowingSays -/
def n_s_FollowingSays : Nat := 65
noncomputable def b_s_FollowingSays : Code := (Try.f65.body).getD .skip
def k_s_FollowingSays : Nat → List Nat := fun n => lookN n [(5, [0, 1, 2, 3, 4, 5])]
theorem p_s_FollowingSays {args : List AV} {r : Pk} (b : Bool) (h1 : args.all AV.isD = true) (h2 : Nat.ble args.length 34 = true) (h3 : evFun (env b) orc k_s_FollowingSays [.sl (.int .i64), .bool] [.tmp 2, .tmp 3] 34 b_s_FollowingSays args [] fun r' _ => r' = r) : orc.pc 65 args r :=
  pureC_of (envOk b) (orcOk b) Try.func65 (by rfl) rfl (by rfl) (by rfl) h1 (Nat.le_of_ble_eq_true h2) h3
/-- laws.toPanel -/
def n_l_toPanel : Nat := 66
noncomputable def b_l_toPanel : Code := (Try.f66.body).getD .skip
def k_l_toPanel : Nat → List Nat := fun n => lookN n []
theorem p_l_toPanel {args : List AV} {r : Pk} (b : Bool) (h1 : args.all AV.isD = true) (h2 : Nat.ble args.length 13 = true) (h3 : evFun (env b) orc k_l_toPanel [.pair (.sl (.sl (.int .i64))) (.pair (.sl (.int .i64)) (.unit))] [.cell 2 90] 13 b_l_toPanel args [] fun r' _ => r' = r) : orc.pc 66 args r :=
  pureC_of (envOk b) (orcOk b) Try.func66 (by rfl) rfl (by rfl) (by rfl) h1 (Nat.le_of_ble_eq_true h2) h3
/-- impl.FollowingSays -/
def n_i_FollowingSays : Nat := 67
noncomputable def b_i_FollowingSays : Code := (Try.f67.body).getD .skip
def k_i_FollowingSays : Nat → List Nat := fun n => lookN n []
theorem p_i_FollowingSays {args : List AV} {r : Pk} (b : Bool) (h1 : args.all AV.isD = true) (h2 : Nat.ble args.length 10 = true) (h3 : evFun (env b) orc k_i_FollowingSays [.sl (.int .i64), .bool] [.tmp 2, .tmp 3] 10 b_i_FollowingSays args [] fun r' _ => r' = r) : orc.pc 67 args r :=
  pureC_of (envOk b) (orcOk b) Try.func67 (by rfl) rfl (by rfl) (by rfl) h1 (Nat.le_of_ble_eq_true h2) h3
/-- laws.eqPanel -/
def n_l_eqPanel : Nat := 68
noncomputable def b_l_eqPanel : Code := (Try.f68.body).getD .skip
def k_l_eqPanel : Nat → List Nat := fun n => lookN n []
theorem p_l_eqPanel {args : List AV} {r : Pk} (b : Bool) (h1 : args.all AV.isD = true) (h2 : Nat.ble args.length 17 = true) (h3 : evFun (env b) orc k_l_eqPanel [.bool] [.tmp 4] 17 b_l_eqPanel args [] fun r' _ => r' = r) : orc.pc 68 args r :=
  pureC_of (envOk b) (orcOk b) Try.func68 (by rfl) rfl (by rfl) (by rfl) h1 (Nat.le_of_ble_eq_true h2) h3
/-- laws.markPanel -/
def n_l_markPanel : Nat := 69
noncomputable def b_l_markPanel : Code := (Try.f69.body).getD .skip
def k_l_markPanel : Nat → List Nat := fun n => lookN n []
theorem p_l_markPanel {vs : List AV} {st : St} {r : AV} {st2 : St} (b : Bool) (hst : 0 < st.length) (h1 : vs.all (fun v => !v.isBad) = true) (h2 : Nat.ble vs.length 14 = true) (h3 : evInl (env b) orc k_l_markPanel [.int .i64] [.tmp 4] 14 b_l_markPanel (vs.map AV.inner) st fun r' st' => r' = r ∧ st' = st2) : orc.ic 69 vs st r st2 :=
  inlC_of (envOk b) (orcOk b) Try.func69 (by rfl) rfl (by rfl) (by rfl) hst h1 (Nat.le_of_ble_eq_true h2) h3
/-- laws.heldIntS -/
def n_l_heldIntS : Nat := 70
noncomputable def b_l_heldIntS : Code := (Try.f70.body).getD .skip
def k_l_heldIntS : Nat → List Nat := fun n => lookN n [(2, [0, 1, 5])]
theorem p_l_heldIntS {args : List AV} {r : Pk} (b : Bool) (h1 : args.all AV.isD = true) (h2 : Nat.ble args.length 21 = true) (h3 : evFun (env b) orc k_l_heldIntS [.int .i64] [.tmp 4] 21 b_l_heldIntS args [] fun r' _ => r' = r) : orc.pc 70 args r :=
  pureC_of (envOk b) (orcOk b) Try.func70 (by rfl) rfl (by rfl) (by rfl) h1 (Nat.le_of_ble_eq_true h2) h3
/-- spec.KernelMistakes -/
def n_s_KernelMistakes : Nat := 73
noncomputable def b_s_KernelMistakes : Code := (Try.f73.body).getD .skip
def k_s_KernelMistakes : Nat → List Nat := fun n => lookN n [(5, [0, 1, 2, 3, 6, 7, 8, 9])]
theorem p_s_KernelMistakes {args : List AV} {r : Pk} (b : Bool) (h1 : args.all AV.isD = true) (h2 : Nat.ble args.length 33 = true) (h3 : evFun (env b) orc k_s_KernelMistakes [.sl (.int .i64), .bool] [.tmp 6, .tmp 7] 33 b_s_KernelMistakes args [] fun r' _ => r' = r) : orc.pc 73 args r :=
  pureC_of (envOk b) (orcOk b) Try.func73 (by rfl) rfl (by rfl) (by rfl) h1 (Nat.le_of_ble_eq_true h2) h3
/-- impl.KernelMistakes -/
def n_i_KernelMistakes : Nat := 74
noncomputable def b_i_KernelMistakes : Code := (Try.f74.body).getD .skip
def k_i_KernelMistakes : Nat → List Nat := fun n => lookN n []
theorem p_i_KernelMistakes {args : List AV} {r : Pk} (b : Bool) (h1 : args.all AV.isD = true) (h2 : Nat.ble args.length 16 = true) (h3 : evFun (env b) orc k_i_KernelMistakes [.sl (.int .i64), .bool] [.tmp 6, .tmp 7] 16 b_i_KernelMistakes args [] fun r' _ => r' = r) : orc.pc 74 args r :=
  pureC_of (envOk b) (orcOk b) Try.func74 (by rfl) rfl (by rfl) (by rfl) h1 (Nat.le_of_ble_eq_true h2) h3
/-- spec.l1In -/
def n_s_l1In : Nat := 75
noncomputable def b_s_l1In : Code := (Try.f75.body).getD .skip
def k_s_l1In : Nat → List Nat := fun n => lookN n []
theorem p_s_l1In {args : List AV} {r : Pk} (b : Bool) (h1 : args.all AV.isD = true) (h2 : Nat.ble args.length 15 = true) (h3 : evFun (env b) orc k_s_l1In [.bool] [.tmp 6] 15 b_s_l1In args [] fun r' _ => r' = r) : orc.pc 75 args r :=
  pureC_of (envOk b) (orcOk b) Try.func75 (by rfl) rfl (by rfl) (by rfl) h1 (Nat.le_of_ble_eq_true h2) h3
/-- spec.l12Own -/
def n_s_l12Own : Nat := 76
noncomputable def b_s_l12Own : Code := (Try.f76.body).getD .skip
def k_s_l12Own : Nat → List Nat := fun n => lookN n [(4, [0, 1, 2, 3, 4])]
theorem p_s_l12Own {args : List AV} {r : Pk} (b : Bool) (h1 : args.all AV.isD = true) (h2 : Nat.ble args.length 42 = true) (h3 : evFun (env b) orc k_s_l12Own [.pair (.pair (.sl (.sl (.int .i64))) (.pair (.sl (.int .i64)) (.unit))) (.pair (.pair (.sl (.int .i64)) (.pair (.int .i64) (.unit))) (.pair (.int .i64) (.pair (.int .i64) (.unit))))] [.cell 2 29] 42 b_s_l12Own args [] fun r' _ => r' = r) : orc.pc 76 args r :=
  pureC_of (envOk b) (orcOk b) Try.func76 (by rfl) rfl (by rfl) (by rfl) h1 (Nat.le_of_ble_eq_true h2) h3
/-- impl.within -/
def n_i_within : Nat := 77
noncomputable def b_i_within : Code := (Try.f77.body).getD .skip
def k_i_within : Nat → List Nat := fun n => lookN n []
theorem p_i_within {args : List AV} {r : Pk} (b : Bool) (h1 : args.all AV.isD = true) (h2 : Nat.ble args.length 15 = true) (h3 : evFun (env b) orc k_i_within [.bool] [.tmp 6] 15 b_i_within args [] fun r' _ => r' = r) : orc.pc 77 args r :=
  pureC_of (envOk b) (orcOk b) Try.func77 (by rfl) rfl (by rfl) (by rfl) h1 (Nat.le_of_ble_eq_true h2) h3
/-- laws.szIntS -/
def n_l_szIntS : Nat := 78
noncomputable def b_l_szIntS : Code := (Try.f78.body).getD .skip
def k_l_szIntS : Nat → List Nat := fun n => lookN n []
theorem p_l_szIntS {args : List AV} {r : Pk} (b : Bool) (h1 : args.all AV.isD = true) (h2 : Nat.ble args.length 12 = true) (h3 : evFun (env b) orc k_l_szIntS [.int .i64] [.tmp 4] 12 b_l_szIntS args [] fun r' _ => r' = r) : orc.pc 78 args r :=
  pureC_of (envOk b) (orcOk b) Try.func78 (by rfl) rfl (by rfl) (by rfl) h1 (Nat.le_of_ble_eq_true h2) h3
/-- spec.l2Plane -/
def n_s_l2Plane : Nat := 79
noncomputable def b_s_l2Plane : Code := (Try.f79.body).getD .skip
def k_s_l2Plane : Nat → List Nat := fun n => lookN n []
theorem p_s_l2Plane {args : List AV} {r : Pk} (b : Bool) (h1 : args.all AV.isD = true) (h2 : Nat.ble args.length 17 = true) (h3 : evFun (env b) orc k_s_l2Plane [.bool] [.tmp 2] 17 b_s_l2Plane args [] fun r' _ => r' = r) : orc.pc 79 args r :=
  pureC_of (envOk b) (orcOk b) Try.func79 (by rfl) rfl (by rfl) (by rfl) h1 (Nat.le_of_ble_eq_true h2) h3
/-- spec.l2One -/
def n_s_l2One : Nat := 80
noncomputable def b_s_l2One : Code := (Try.f80.body).getD .skip
def k_s_l2One : Nat → List Nat := fun n => lookN n []
theorem p_s_l2One {args : List AV} {r : Pk} (b : Bool) (h1 : args.all AV.isD = true) (h2 : Nat.ble args.length 19 = true) (h3 : evFun (env b) orc k_s_l2One [.bool] [.tmp 4] 19 b_s_l2One args [] fun r' _ => r' = r) : orc.pc 80 args r :=
  pureC_of (envOk b) (orcOk b) Try.func80 (by rfl) rfl (by rfl) (by rfl) h1 (Nat.le_of_ble_eq_true h2) h3
/-- spec.l1Has -/
def n_s_l1Has : Nat := 81
noncomputable def b_s_l1Has : Code := (Try.f81.body).getD .skip
def k_s_l1Has : Nat → List Nat := fun n => lookN n [(2, [0, 1, 5])]
theorem p_s_l1Has {args : List AV} {r : Pk} (b : Bool) (h1 : args.all AV.isD = true) (h2 : Nat.ble args.length 18 = true) (h3 : evFun (env b) orc k_s_l1Has [.bool] [.tmp 4] 18 b_s_l1Has args [] fun r' _ => r' = r) : orc.pc 81 args r :=
  pureC_of (envOk b) (orcOk b) Try.func81 (by rfl) rfl (by rfl) (by rfl) h1 (Nat.le_of_ble_eq_true h2) h3
/-- spec.l3Step -/
def n_s_l3Step : Nat := 82
noncomputable def b_s_l3Step : Code := (Try.f82.body).getD .skip
def k_s_l3Step : Nat → List Nat := fun n => lookN n [(5, [0, 1, 2, 3, 6, 7, 8, 9])]
theorem p_s_l3Step {args : List AV} {r : Pk} (b : Bool) (h1 : args.all AV.isD = true) (h2 : Nat.ble args.length 47 = true) (h3 : evFun (env b) orc k_s_l3Step [.pair (.sl (.int .i64)) (.pair (.int .i64) (.unit)), .bool] [.cell 6 27, .tmp 7] 47 b_s_l3Step args [] fun r' _ => r' = r) : orc.pc 82 args r :=
  pureC_of (envOk b) (orcOk b) Try.func82 (by rfl) rfl (by rfl) (by rfl) h1 (Nat.le_of_ble_eq_true h2) h3
/-- spec.l1Own -/
def n_s_l1Own : Nat := 83
noncomputable def b_s_l1Own : Code := (Try.f83.body).getD .skip
def k_s_l1Own : Nat → List Nat := fun n => lookN n []
theorem p_s_l1Own {args : List AV} {r : Pk} (b : Bool) (h1 : args.all AV.isD = true) (h2 : Nat.ble args.length 6 = true) (h3 : evFun (env b) orc k_s_l1Own [.sl (.int .i64)] [.tmp 2] 6 b_s_l1Own args [] fun r' _ => r' = r) : orc.pc 83 args r :=
  pureC_of (envOk b) (orcOk b) Try.func83 (by rfl) rfl (by rfl) (by rfl) h1 (Nat.le_of_ble_eq_true h2) h3
/-- impl.meets -/
def n_i_meets : Nat := 84
noncomputable def b_i_meets : Code := (Try.f84.body).getD .skip
def k_i_meets : Nat → List Nat := fun n => lookN n []
theorem p_i_meets {args : List AV} {r : Pk} (b : Bool) (h1 : args.all AV.isD = true) (h2 : Nat.ble args.length 19 = true) (h3 : evFun (env b) orc k_i_meets [.bool] [.tmp 4] 19 b_i_meets args [] fun r' _ => r' = r) : orc.pc 84 args r :=
  pureC_of (envOk b) (orcOk b) Try.func84 (by rfl) rfl (by rfl) (by rfl) h1 (Nat.le_of_ble_eq_true h2) h3
/-- impl.isLabel -/
def n_i_isLabel : Nat := 85
noncomputable def b_i_isLabel : Code := (Try.f85.body).getD .skip
def k_i_isLabel : Nat → List Nat := fun n => lookN n []
theorem p_i_isLabel {args : List AV} {r : Pk} (b : Bool) (h1 : args.all AV.isD = true) (h2 : Nat.ble args.length 9 = true) (h3 : evFun (env b) orc k_i_isLabel [.bool] [.tmp 2] 9 b_i_isLabel args [] fun r' _ => r' = r) : orc.pc 85 args r :=
  pureC_of (envOk b) (orcOk b) Try.func85 (by rfl) rfl (by rfl) (by rfl) h1 (Nat.le_of_ble_eq_true h2) h3
/-- (impl.Plane).step -/
def n_i_Plane_step : Nat := 86
noncomputable def b_i_Plane_step : Code := (Try.f86.body).getD .skip
def k_i_Plane_step : Nat → List Nat := fun n => lookN n [(5, [0, 1, 2, 3, 6, 7, 8, 25, 26, 27])]
theorem p_i_Plane_step {args : List AV} {r : Pk} (b : Bool) (h1 : args.all AV.isD = true) (h2 : Nat.ble args.length 44 = true) (h3 : evFun (env b) orc k_i_Plane_step [.pair (.sl (.int .i64)) (.pair (.int .i64) (.unit)), .bool] [.cell 6 27, .tmp 7] 44 b_i_Plane_step args [] fun r' _ => r' = r) : orc.pc 86 args r :=
  pureC_of (envOk b) (orcOk b) Try.func86 (by rfl) rfl (by rfl) (by rfl) h1 (Nat.le_of_ble_eq_true h2) h3
/-- impl.IsPlane -/
def n_i_IsPlane : Nat := 87
noncomputable def b_i_IsPlane : Code := (Try.f87.body).getD .skip
def k_i_IsPlane : Nat → List Nat := fun n => lookN n []
theorem p_i_IsPlane {args : List AV} {r : Pk} (b : Bool) (h1 : args.all AV.isD = true) (h2 : Nat.ble args.length 17 = true) (h3 : evFun (env b) orc k_i_IsPlane [.bool] [.tmp 2] 17 b_i_IsPlane args [] fun r' _ => r' = r) : orc.pc 87 args r :=
  pureC_of (envOk b) (orcOk b) Try.func87 (by rfl) rfl (by rfl) (by rfl) h1 (Nat.le_of_ble_eq_true h2) h3
/-- impl.copied -/
def n_i_copied : Nat := 88
noncomputable def b_i_copied : Code := (Try.f88.body).getD .skip
def k_i_copied : Nat → List Nat := fun n => lookN n []
theorem p_i_copied {args : List AV} {r : Pk} (b : Bool) (h1 : args.all AV.isD = true) (h2 : Nat.ble args.length 6 = true) (h3 : evFun (env b) orc k_i_copied [.sl (.int .i64)] [.tmp 2] 6 b_i_copied args [] fun r' _ => r' = r) : orc.pc 88 args r :=
  pureC_of (envOk b) (orcOk b) Try.func88 (by rfl) rfl (by rfl) (by rfl) h1 (Nat.le_of_ble_eq_true h2) h3
/-- spec.l12Good -/
def n_s_l12Good : Nat := 92
noncomputable def b_s_l12Good : Code := (Try.f92.body).getD .skip
def k_s_l12Good : Nat → List Nat := fun n => lookN n []
theorem p_s_l12Good {args : List AV} {r : Pk} (b : Bool) (h1 : args.all AV.isD = true) (h2 : Nat.ble args.length 18 = true) (h3 : evFun (env b) orc k_s_l12Good [.bool] [.tmp 2] 18 b_s_l12Good args [] fun r' _ => r' = r) : orc.pc 92 args r :=
  pureC_of (envOk b) (orcOk b) Try.func92 (by rfl) rfl (by rfl) (by rfl) h1 (Nat.le_of_ble_eq_true h2) h3
/-- impl.suits -/
def n_i_suits : Nat := 93
noncomputable def b_i_suits : Code := (Try.f93.body).getD .skip
def k_i_suits : Nat → List Nat := fun n => lookN n []
theorem p_i_suits {args : List AV} {r : Pk} (b : Bool) (h1 : args.all AV.isD = true) (h2 : Nat.ble args.length 28 = true) (h3 : evFun (env b) orc k_i_suits [.bool] [.tmp 4] 28 b_i_suits args [] fun r' _ => r' = r) : orc.pc 93 args r :=
  pureC_of (envOk b) (orcOk b) Try.func93 (by rfl) rfl (by rfl) (by rfl) h1 (Nat.le_of_ble_eq_true h2) h3
/-- laws.szIntSS -/
def n_l_szIntSS : Nat := 94
noncomputable def b_l_szIntSS : Code := (Try.f94.body).getD .skip
def k_l_szIntSS : Nat → List Nat := fun n => lookN n [(5, [0, 1, 5])]
theorem p_l_szIntSS {args : List AV} {r : Pk} (b : Bool) (h1 : args.all AV.isD = true) (h2 : Nat.ble args.length 27 = true) (h3 : evFun (env b) orc k_l_szIntSS [.int .i64] [.tmp 4] 27 b_l_szIntSS args [] fun r' _ => r' = r) : orc.pc 94 args r :=
  pureC_of (envOk b) (orcOk b) Try.func94 (by rfl) rfl (by rfl) (by rfl) h1 (Nat.le_of_ble_eq_true h2) h3
/-- spec.l2Sample -/
def n_s_l2Sample : Nat := 95
noncomputable def b_s_l2Sample : Code := (Try.f95.body).getD .skip
def k_s_l2Sample : Nat → List Nat := fun n => lookN n [(4, [0, 1, 3])]
theorem p_s_l2Sample {args : List AV} {r : Pk} (b : Bool) (h1 : args.all AV.isD = true) (h2 : Nat.ble args.length 51 = true) (h3 : evFun (env b) orc k_s_l2Sample [.bool] [.tmp 2] 51 b_s_l2Sample args [] fun r' _ => r' = r) : orc.pc 95 args r :=
  pureC_of (envOk b) (orcOk b) Try.func95 (by rfl) rfl (by rfl) (by rfl) h1 (Nat.le_of_ble_eq_true h2) h3
/-- laws.toIntSS -/
def n_l_toIntSS : Nat := 96
noncomputable def b_l_toIntSS : Code := (Try.f96.body).getD .skip
def k_l_toIntSS : Nat → List Nat := fun n => lookN n [(3, [0, 2, 3, 4])]
theorem p_l_toIntSS {args : List AV} {r : Pk} (b : Bool) (h1 : args.all AV.isD = true) (h2 : Nat.ble args.length 23 = true) (h3 : evFun (env b) orc k_l_toIntSS [.sl (.sl (.int .i64))] [.tmp 2] 23 b_l_toIntSS args [] fun r' _ => r' = r) : orc.pc 96 args r :=
  pureC_of (envOk b) (orcOk b) Try.func96 (by rfl) rfl (by rfl) (by rfl) h1 (Nat.le_of_ble_eq_true h2) h3
/-- impl.IsSample -/
def n_i_IsSample : Nat := 97
noncomputable def b_i_IsSample : Code := (Try.f97.body).getD .skip
def k_i_IsSample : Nat → List Nat := fun n => lookN n [(4, [0, 1, 19, 20, 21])]
theorem p_i_IsSample {args : List AV} {r : Pk} (b : Bool) (h1 : args.all AV.isD = true) (h2 : Nat.ble args.length 49 = true) (h3 : evFun (env b) orc k_i_IsSample [.bool] [.tmp 2] 49 b_i_IsSample args [] fun r' _ => r' = r) : orc.pc 97 args r :=
  pureC_of (envOk b) (orcOk b) Try.func97 (by rfl) rfl (by rfl) (by rfl) h1 (Nat.le_of_ble_eq_true h2) h3
/-- (impl.Sample).own -/
def n_i_Sample_own : Nat := 98
noncomputable def b_i_Sample_own : Code := (Try.f98.body).getD .skip
def k_i_Sample_own : Nat → List Nat := fun n => lookN n []
theorem p_i_Sample_own {args : List AV} {r : Pk} (b : Bool) (h1 : args.all AV.isD = true) (h2 : Nat.ble args.length 10 = true) (h3 : evFun (env b) orc k_i_Sample_own [.pair (.sl (.sl (.int .i64))) (.pair (.sl (.int .i64)) (.unit))] [.cell 2 25] 10 b_i_Sample_own args [] fun r' _ => r' = r) : orc.pc 98 args r :=
  pureC_of (envOk b) (orcOk b) Try.func98 (by rfl) rfl (by rfl) (by rfl) h1 (Nat.le_of_ble_eq_true h2) h3
/-- laws.eqIntSS -/
def n_l_eqIntSS : Nat := 99
noncomputable def b_l_eqIntSS : Code := (Try.f99.body).getD .skip
def k_l_eqIntSS : Nat → List Nat := fun n => lookN n [(4, [0, 1, 5])]
theorem p_l_eqIntSS {args : List AV} {r : Pk} (b : Bool) (h1 : args.all AV.isD = true) (h2 : Nat.ble args.length 27 = true) (h3 : evFun (env b) orc k_l_eqIntSS [.bool] [.tmp 4] 27 b_l_eqIntSS args [] fun r' _ => r' = r) : orc.pc 99 args r :=
  pureC_of (envOk b) (orcOk b) Try.func99 (by rfl) rfl (by rfl) (by rfl) h1 (Nat.le_of_ble_eq_true h2) h3
/-- laws.markIntSS -/
def n_l_markIntSS : Nat := 100
noncomputable def b_l_markIntSS : Code := (Try.f100.body).getD .skip
def k_l_markIntSS : Nat → List Nat := fun n => lookN n [(2, [0, 1, 4, 5])]
theorem p_l_markIntSS {vs : List AV} {st : St} {r : AV} {st2 : St} (b : Bool) (hst : 0 < st.length) (h1 : vs.all (fun v => !v.isBad) = true) (h2 : Nat.ble vs.length 19 = true) (h3 : evInl (env b) orc k_l_markIntSS [.int .i64] [.tmp 4] 19 b_l_markIntSS (vs.map AV.inner) st fun r' st' => r' = r ∧ st' = st2) : orc.ic 100 vs st r st2 :=
  inlC_of (envOk b) (orcOk b) Try.func100 (by rfl) rfl (by rfl) (by rfl) hst h1 (Nat.le_of_ble_eq_true h2) h3
/-- laws.heldIntSS -/
def n_l_heldIntSS : Nat := 101
noncomputable def b_l_heldIntSS : Code := (Try.f101.body).getD .skip
def k_l_heldIntSS : Nat → List Nat := fun n => lookN n [(2, [0, 1, 5])]
theorem p_l_heldIntSS {args : List AV} {r : Pk} (b : Bool) (h1 : args.all AV.isD = true) (h2 : Nat.ble args.length 21 = true) (h3 : evFun (env b) orc k_l_heldIntSS [.int .i64] [.tmp 4] 21 b_l_heldIntSS args [] fun r' _ => r' = r) : orc.pc 101 args r :=
  pureC_of (envOk b) (orcOk b) Try.func101 (by rfl) rfl (by rfl) (by rfl) h1 (Nat.le_of_ble_eq_true h2) h3
/-- spec.l2KeptSample -/
def n_s_l2KeptSample : Nat := 102
noncomputable def b_s_l2KeptSample : Code := (Try.f102.body).getD .skip
def k_s_l2KeptSample : Nat → List Nat := fun n => lookN n []
theorem p_s_l2KeptSample {vs : List AV} {st : St} {r : AV} {st2 : St} (b : Bool) (hst : 0 < st.length) (h1 : vs.all (fun v => !v.isBad) = true) (h2 : Nat.ble vs.length 9 = true) (h3 : evInl (env b) orc k_s_l2KeptSample [.pair (.sl (.sl (.int .i64))) (.pair (.sl (.int .i64)) (.unit)), .bool] [.cell 2 25, .tmp 3] 9 b_s_l2KeptSample (vs.map AV.inner) st fun r' st' => r' = r ∧ st' = st2) : orc.ic 102 vs st r st2 :=
  inlC_of (envOk b) (orcOk b) Try.func102 (by rfl) rfl (by rfl) (by rfl) hst h1 (Nat.le_of_ble_eq_true h2) h3
/-- spec.l2Rows -/
def n_s_l2Rows : Nat := 103
noncomputable def b_s_l2Rows : Code := (Try.f103.body).getD .skip
def k_s_l2Rows : Nat → List Nat := fun n => lookN n [(3, [0, 2, 3, 4])]
theorem p_s_l2Rows {args : List AV} {r : Pk} (b : Bool) (h1 : args.all AV.isD = true) (h2 : Nat.ble args.length 21 = true) (h3 : evFun (env b) orc k_s_l2Rows [.sl (.sl (.int .i64))] [.tmp 2] 21 b_s_l2Rows args [] fun r' _ => r' = r) : orc.pc 103 args r :=
  pureC_of (envOk b) (orcOk b) Try.func103 (by rfl) rfl (by rfl) (by rfl) h1 (Nat.le_of_ble_eq_true h2) h3
/-- spec.l2Minus -/
def n_s_l2Minus : Nat := 104
noncomputable def b_s_l2Minus : Code := (Try.f104.body).getD .skip
def k_s_l2Minus : Nat → List Nat := fun n => lookN n [(3, [0, 2, 3, 4])]
theorem p_s_l2Minus {args : List AV} {r : Pk} (b : Bool) (h1 : args.all AV.isD = true) (h2 : Nat.ble args.length 21 = true) (h3 : evFun (env b) orc k_s_l2Minus [.sl (.int .i64)] [.tmp 2] 21 b_s_l2Minus args [] fun r' _ => r' = r) : orc.pc 104 args r :=
  pureC_of (envOk b) (orcOk b) Try.func104 (by rfl) rfl (by rfl) (by rfl) h1 (Nat.le_of_ble_eq_true h2) h3
/-- impl.product -/
def n_i_product : Nat := 107
noncomputable def b_i_product : Code := (Try.f107.body).getD .skip
def k_i_product : Nat → List Nat := fun n => lookN n [(3, [0, 1, 4, 5, 8, 9, 10])]
theorem p_i_product {args : List AV} {r : Pk} (b : Bool) (h1 : args.all AV.isD = true) (h2 : Nat.ble args.length 25 = true) (h3 : evFun (env b) orc k_i_product [.int .i64] [.tmp 4] 25 b_i_product args [] fun r' _ => r' = r) : orc.pc 107 args r :=
  pureC_of (envOk b) (orcOk b) Try.func107 (by rfl) rfl (by rfl) (by rfl) h1 (Nat.le_of_ble_eq_true h2) h3
/-- spec.l2Both -/
def n_s_l2Both : Nat := 109
noncomputable def b_s_l2Both : Code := (Try.f109.body).getD .skip
def k_s_l2Both : Nat → List Nat := fun n => lookN n []
theorem p_s_l2Both {args : List AV} {r : Pk} (b : Bool) (h1 : args.all AV.isD = true) (h2 : Nat.ble args.length 28 = true) (h3 : evFun (env b) orc k_s_l2Both [.bool] [.tmp 4] 28 b_s_l2Both args [] fun r' _ => r' = r) : orc.pc 109 args r :=
  pureC_of (envOk b) (orcOk b) Try.func109 (by rfl) rfl (by rfl) (by rfl) h1 (Nat.le_of_ble_eq_true h2) h3
/-- spec.l2Dot -/
def n_s_l2Dot : Nat := 112
noncomputable def b_s_l2Dot : Code := (Try.f112.body).getD .skip
def k_s_l2Dot : Nat → List Nat := fun n => lookN n [(3, [0, 1, 4, 5, 6])]
theorem p_s_l2Dot {args : List AV} {r : Pk} (b : Bool) (h1 : args.all AV.isD = true) (h2 : Nat.ble args.length 25 = true) (h3 : evFun (env b) orc k_s_l2Dot [.int .i64] [.tmp 4] 25 b_s_l2Dot args [] fun r' _ => r' = r) : orc.pc 112 args r :=
  pureC_of (envOk b) (orcOk b) Try.func112 (by rfl) rfl (by rfl) (by rfl) h1 (Nat.le_of_ble_eq_true h2) h3
/-- (impl.Plane).side -/
def n_i_Plane_side : Nat := 119
noncomputable def b_i_Plane_side : Code := (Try.f119.body).getD .skip
def k_i_Plane_side : Nat → List Nat := fun n => lookN n []
theorem p_i_Plane_side {args : List AV} {r : Pk} (b : Bool) (h1 : args.all AV.isD = true) (h2 : Nat.ble args.length 12 = true) (h3 : evFun (env b) orc k_i_Plane_side [.int .i64] [.tmp 4] 12 b_i_Plane_side args [] fun r' _ => r' = r) : orc.pc 119 args r :=
  pureC_of (envOk b) (orcOk b) Try.func119 (by rfl) rfl (by rfl) (by rfl) h1 (Nat.le_of_ble_eq_true h2) h3
/-- impl.runOf -/
def n_i_runOf : Nat := 121
noncomputable def b_i_runOf : Code := (Try.f121.body).getD .skip
def k_i_runOf : Nat → List Nat := fun n => lookN n [(9, [0, 1, 2, 4, 6, 7, 8, 38, 39, 42, 43, 44]), (6, [0, 1, 2, 4, 6, 7, 38, 39]), (1000003, [1006]), (1000011, [1011])]
theorem p_i_runOf {args : List AV} {r : Pk} (b : Bool) (h1 : args.all AV.isD = true) (h2 : Nat.ble args.length 91 = true) (h3 : evFun (env b) orc k_i_runOf [.pair (.sl (.pair (.sl (.int .i64)) (.pair (.int .i64) (.unit)))) (.pair (.sl (.int .i64)) (.pair (.sl (.int .i64)) (.unit))), .bool] [.cell 4 132, .tmp 5] 91 b_i_runOf args [] fun r' _ => r' = r) : orc.pc 121 args r :=
  pureC_of (envOk b) (orcOk b) Try.func121 (by rfl) rfl (by rfl) (by rfl) h1 (Nat.le_of_ble_eq_true h2) h3
/-- spec.l2Point -/
def n_s_l2Point : Nat := 122
noncomputable def b_s_l2Point : Code := (Try.f122.body).getD .skip
def k_s_l2Point : Nat → List Nat := fun n => lookN n []
theorem p_s_l2Point {args : List AV} {r : Pk} (b : Bool) (h1 : args.all AV.isD = true) (h2 : Nat.ble args.length 10 = true) (h3 : evFun (env b) orc k_s_l2Point [.bool] [.tmp 2] 10 b_s_l2Point args [] fun r' _ => r' = r) : orc.pc 122 args r :=
  pureC_of (envOk b) (orcOk b) Try.func122 (by rfl) rfl (by rfl) (by rfl) h1 (Nat.le_of_ble_eq_true h2) h3
/-- spec.l2Added -/
def n_s_l2Added : Nat := 123
noncomputable def b_s_l2Added : Code := (Try.f123.body).getD .skip
def k_s_l2Added : Nat → List Nat := fun n => lookN n [(3, [0, 1, 4, 5, 6])]
theorem p_s_l2Added {args : List AV} {r : Pk} (b : Bool) (h1 : args.all AV.isD = true) (h2 : Nat.ble args.length 27 = true) (h3 : evFun (env b) orc k_s_l2Added [.sl (.int .i64)] [.tmp 4] 27 b_s_l2Added args [] fun r' _ => r' = r) : orc.pc 123 args r :=
  pureC_of (envOk b) (orcOk b) Try.func123 (by rfl) rfl (by rfl) (by rfl) h1 (Nat.le_of_ble_eq_true h2) h3
/-- impl.IsPoint -/
def n_i_IsPoint : Nat := 124
noncomputable def b_i_IsPoint : Code := (Try.f124.body).getD .skip
def k_i_IsPoint : Nat → List Nat := fun n => lookN n []
theorem p_i_IsPoint {args : List AV} {r : Pk} (b : Bool) (h1 : args.all AV.isD = true) (h2 : Nat.ble args.length 10 = true) (h3 : evFun (env b) orc k_i_IsPoint [.bool] [.tmp 2] 10 b_i_IsPoint args [] fun r' _ => r' = r) : orc.pc 124 args r :=
  pureC_of (envOk b) (orcOk b) Try.func124 (by rfl) rfl (by rfl) (by rfl) h1 (Nat.le_of_ble_eq_true h2) h3
/-- spec.l11Panel -/
def n_s_l11Panel : Nat := 125
noncomputable def b_s_l11Panel : Code := (Try.f125.body).getD .skip
def k_s_l11Panel : Nat → List Nat := fun n => lookN n [(2, [0, 1, 3])]
theorem p_s_l11Panel {args : List AV} {r : Pk} (b : Bool) (h1 : args.all AV.isD = true) (h2 : Nat.ble args.length 36 = true) (h3 : evFun (env b) orc k_s_l11Panel [.bool] [.tmp 2] 36 b_s_l11Panel args [] fun r' _ => r' = r) : orc.pc 125 args r :=
  pureC_of (envOk b) (orcOk b) Try.func125 (by rfl) rfl (by rfl) (by rfl) h1 (Nat.le_of_ble_eq_true h2) h3
/-- spec.l11Sign -/
def n_s_l11Sign : Nat := 126
noncomputable def b_s_l11Sign : Code := (Try.f126.body).getD .skip
def k_s_l11Sign : Nat → List Nat := fun n => lookN n []
theorem p_s_l11Sign {args : List AV} {r : Pk} (b : Bool) (h1 : args.all AV.isD = true) (h2 : Nat.ble args.length 5 = true) (h3 : evFun (env b) orc k_s_l11Sign [.int .i64] [.tmp 2] 5 b_s_l11Sign args [] fun r' _ => r' = r) : orc.pc 126 args r :=
  pureC_of (envOk b) (orcOk b) Try.func126 (by rfl) rfl (by rfl) (by rfl) h1 (Nat.le_of_ble_eq_true h2) h3
/-- spec.l11First -/
def n_s_l11First : Nat := 127
noncomputable def b_s_l11First : Code := (Try.f127.body).getD .skip
def k_s_l11First : Nat → List Nat := fun n => lookN n [(3, [0, 2, 3, 4])]
theorem p_s_l11First {args : List AV} {r : Pk} (b : Bool) (h1 : args.all AV.isD = true) (h2 : Nat.ble args.length 22 = true) (h3 : evFun (env b) orc k_s_l11First [.int .i64] [.tmp 2] 22 b_s_l11First args [] fun r' _ => r' = r) : orc.pc 127 args r :=
  pureC_of (envOk b) (orcOk b) Try.func127 (by rfl) rfl (by rfl) (by rfl) h1 (Nat.le_of_ble_eq_true h2) h3
/-- spec.l11Days -/
def n_s_l11Days : Nat := 128
noncomputable def b_s_l11Days : Code := (Try.f128.body).getD .skip
def k_s_l11Days : Nat → List Nat := fun n => lookN n [(6, [0, 1, 2, 4, 5, 6, 7]), (3, [0, 1, 2, 4, 5, 6])]
theorem p_s_l11Days {args : List AV} {r : Pk} (b : Bool) (h1 : args.all AV.isD = true) (h2 : Nat.ble args.length 45 = true) (h3 : evFun (env b) orc k_s_l11Days [.sl (.int .i64)] [.tmp 4] 45 b_s_l11Days args [] fun r' _ => r' = r) : orc.pc 128 args r :=
  pureC_of (envOk b) (orcOk b) Try.func128 (by rfl) rfl (by rfl) (by rfl) h1 (Nat.le_of_ble_eq_true h2) h3
/-- impl.IsPanel -/
def n_i_IsPanel : Nat := 129
noncomputable def b_i_IsPanel : Code := (Try.f129.body).getD .skip
def k_i_IsPanel : Nat → List Nat := fun n => lookN n [(4, [0, 1, 23, 24, 25])]
theorem p_i_IsPanel {args : List AV} {r : Pk} (b : Bool) (h1 : args.all AV.isD = true) (h2 : Nat.ble args.length 41 = true) (h3 : evFun (env b) orc k_i_IsPanel [.bool] [.tmp 2] 41 b_i_IsPanel args [] fun r' _ => r' = r) : orc.pc 129 args r :=
  pureC_of (envOk b) (orcOk b) Try.func129 (by rfl) rfl (by rfl) (by rfl) h1 (Nat.le_of_ble_eq_true h2) h3
/-- (impl.Panel).forecast -/
def n_i_Panel_forecast : Nat := 130
noncomputable def b_i_Panel_forecast : Code := (Try.f130.body).getD .skip
def k_i_Panel_forecast : Nat → List Nat := fun n => lookN n [(3, [0, 1, 2, 4, 5, 10, 11])]
theorem p_i_Panel_forecast {args : List AV} {r : Pk} (b : Bool) (h1 : args.all AV.isD = true) (h2 : Nat.ble args.length 25 = true) (h3 : evFun (env b) orc k_i_Panel_forecast [.sl (.int .i64)] [.tmp 4] 25 b_i_Panel_forecast args [] fun r' _ => r' = r) : orc.pc 130 args r :=
  pureC_of (envOk b) (orcOk b) Try.func130 (by rfl) rfl (by rfl) (by rfl) h1 (Nat.le_of_ble_eq_true h2) h3
/-- impl.FollowingSays$1 -/
def n_i_FollowingSays_1 : Nat := 131
noncomputable def b_i_FollowingSays_1 : Code := (Try.f131.body).getD .skip
def k_i_FollowingSays_1 : Nat → List Nat := fun n => lookN n []
theorem p_i_FollowingSays_1 {args : List AV} {r : Pk} (b : Bool) (h1 : args.all AV.isD = true) (h2 : Nat.ble args.length 16 = true) (h3 : evFun (env b) orc k_i_FollowingSays_1 [.int .i64] [.tmp 5] 16 b_i_FollowingSays_1 args [] fun r' _ => r' = r) : orc.pc 131 args r :=
  pureC_of (envOk b) (orcOk b) Try.func131 (by rfl) rfl (by rfl) (by rfl) h1 (Nat.le_of_ble_eq_true h2) h3
/-- impl.sign -/
def n_i_sign : Nat := 132
noncomputable def b_i_sign : Code := (Try.f132.body).getD .skip
def k_i_sign : Nat → List Nat := fun n => lookN n []
theorem p_i_sign {args : List AV} {r : Pk} (b : Bool) (h1 : args.all AV.isD = true) (h2 : Nat.ble args.length 5 = true) (h3 : evFun (env b) orc k_i_sign [.int .i64] [.tmp 2] 5 b_i_sign args [] fun r' _ => r' = r) : orc.pc 132 args r :=
  pureC_of (envOk b) (orcOk b) Try.func132 (by rfl) rfl (by rfl) (by rfl) h1 (Nat.le_of_ble_eq_true h2) h3
/-- impl.firstLeast -/
def n_i_firstLeast : Nat := 133
noncomputable def b_i_firstLeast : Code := (Try.f133.body).getD .skip
def k_i_firstLeast : Nat → List Nat := fun n => lookN n []
theorem p_i_firstLeast {args : List AV} {r : Pk} (b : Bool) (h1 : args.all AV.isD = true) (h2 : Nat.ble args.length 7 = true) (h3 : evFun (env b) orc k_i_firstLeast [.int .i64] [.tmp 2] 7 b_i_firstLeast args [] fun r' _ => r' = r) : orc.pc 133 args r :=
  pureC_of (envOk b) (orcOk b) Try.func133 (by rfl) rfl (by rfl) (by rfl) h1 (Nat.le_of_ble_eq_true h2) h3
/-- spec.l10Counts -/
def n_s_l10Counts : Nat := 146
noncomputable def b_s_l10Counts : Code := (Try.f146.body).getD .skip
def k_s_l10Counts : Nat → List Nat := fun n => lookN n [(2, [0, 1, 2, 3, 7])]
theorem p_s_l10Counts {args : List AV} {r : Pk} (b : Bool) (h1 : args.all AV.isD = true) (h2 : Nat.ble args.length 34 = true) (h3 : evFun (env b) orc k_s_l10Counts [.bool] [.tmp 6] 34 b_s_l10Counts args [] fun r' _ => r' = r) : orc.pc 146 args r :=
  pureC_of (envOk b) (orcOk b) Try.func146 (by rfl) rfl (by rfl) (by rfl) h1 (Nat.le_of_ble_eq_true h2) h3
/-- spec.l10Wrong -/
def n_s_l10Wrong : Nat := 147
noncomputable def b_s_l10Wrong : Code := (Try.f147.body).getD .skip
def k_s_l10Wrong : Nat → List Nat := fun n => lookN n []
theorem p_s_l10Wrong {args : List AV} {r : Pk} (b : Bool) (h1 : args.all AV.isD = true) (h2 : Nat.ble args.length 26 = true) (h3 : evFun (env b) orc k_s_l10Wrong [.bool] [.tmp 8] 26 b_s_l10Wrong args [] fun r' _ => r' = r) : orc.pc 147 args r :=
  pureC_of (envOk b) (orcOk b) Try.func147 (by rfl) rfl (by rfl) (by rfl) h1 (Nat.le_of_ble_eq_true h2) h3
/-- impl.areCounts -/
def n_i_areCounts : Nat := 148
noncomputable def b_i_areCounts : Code := (Try.f148.body).getD .skip
def k_i_areCounts : Nat → List Nat := fun n => lookN n []
theorem p_i_areCounts {args : List AV} {r : Pk} (b : Bool) (h1 : args.all AV.isD = true) (h2 : Nat.ble args.length 25 = true) (h3 : evFun (env b) orc k_i_areCounts [.bool] [.tmp 6] 25 b_i_areCounts args [] fun r' _ => r' = r) : orc.pc 148 args r :=
  pureC_of (envOk b) (orcOk b) Try.func148 (by rfl) rfl (by rfl) (by rfl) h1 (Nat.le_of_ble_eq_true h2) h3
/-- (impl.Sample).wrong -/
def n_i_Sample_wrong : Nat := 149
noncomputable def b_i_Sample_wrong : Code := (Try.f149.body).getD .skip
def k_i_Sample_wrong : Nat → List Nat := fun n => lookN n [(3, [0, 1, 2, 4, 5, 10, 11, 12])]
theorem p_i_Sample_wrong {args : List AV} {r : Pk} (b : Bool) (h1 : args.all AV.isD = true) (h2 : Nat.ble args.length 32 = true) (h3 : evFun (env b) orc k_i_Sample_wrong [.sl (.int .i64)] [.tmp 4] 32 b_i_Sample_wrong args [] fun r' _ => r' = r) : orc.pc 149 args r :=
  pureC_of (envOk b) (orcOk b) Try.func149 (by rfl) rfl (by rfl) (by rfl) h1 (Nat.le_of_ble_eq_true h2) h3
/-- impl.KernelMistakes$1 -/
def n_i_KernelMistakes_1 : Nat := 150
noncomputable def b_i_KernelMistakes_1 : Code := (Try.f150.body).getD .skip
def k_i_KernelMistakes_1 : Nat → List Nat := fun n => lookN n []
theorem p_i_KernelMistakes_1 {args : List AV} {r : Pk} (b : Bool) (h1 : args.all AV.isD = true) (h2 : Nat.ble args.length 11 = true) (h3 : evFun (env b) orc k_i_KernelMistakes_1 [.int .i64] [.tmp 5] 11 b_i_KernelMistakes_1 args [] fun r' _ => r' = r) : orc.pc 150 args r :=
  pureC_of (envOk b) (orcOk b) Try.func150 (by rfl) rfl (by rfl) (by rfl) h1 (Nat.le_of_ble_eq_true h2) h3
/-- (impl.Sample).pull -/
def n_i_Sample_pull : Nat := 151
noncomputable def b_i_Sample_pull : Code := (Try.f151.body).getD .skip
def k_i_Sample_pull : Nat → List Nat := fun n => lookN n []
theorem p_i_Sample_pull {args : List AV} {r : Pk} (b : Bool) (h1 : args.all AV.isD = true) (h2 : Nat.ble args.length 15 = true) (h3 : evFun (env b) orc k_i_Sample_pull [.int .i64] [.tmp 8] 15 b_i_Sample_pull args [] fun r' _ => r' = r) : orc.pc 151 args r :=
  pureC_of (envOk b) (orcOk b) Try.func151 (by rfl) rfl (by rfl) (by rfl) h1 (Nat.le_of_ble_eq_true h2) h3
/-- spec.l2Numbers -/
def n_s_l2Numbers : Nat := 152
noncomputable def b_s_l2Numbers : Code := (Try.f152.body).getD .skip
def k_s_l2Numbers : Nat → List Nat := fun n => lookN n [(2, [0, 1, 5])]
theorem p_s_l2Numbers {args : List AV} {r : Pk} (b : Bool) (h1 : args.all AV.isD = true) (h2 : Nat.ble args.length 21 = true) (h3 : evFun (env b) orc k_s_l2Numbers [.bool] [.tmp 4] 21 b_s_l2Numbers args [] fun r' _ => r' = r) : orc.pc 152 args r :=
  pureC_of (envOk b) (orcOk b) Try.func152 (by rfl) rfl (by rfl) (by rfl) h1 (Nat.le_of_ble_eq_true h2) h3
/-- spec.l2Side -/
def n_s_l2Side : Nat := 153
noncomputable def b_s_l2Side : Code := (Try.f153.body).getD .skip
def k_s_l2Side : Nat → List Nat := fun n => lookN n []
theorem p_s_l2Side {args : List AV} {r : Pk} (b : Bool) (h1 : args.all AV.isD = true) (h2 : Nat.ble args.length 12 = true) (h3 : evFun (env b) orc k_s_l2Side [.int .i64] [.tmp 4] 12 b_s_l2Side args [] fun r' _ => r' = r) : orc.pc 153 args r :=
  pureC_of (envOk b) (orcOk b) Try.func153 (by rfl) rfl (by rfl) (by rfl) h1 (Nat.le_of_ble_eq_true h2) h3
/-- impl.allWithin -/
def n_i_allWithin : Nat := 154
noncomputable def b_i_allWithin : Code := (Try.f154.body).getD .skip
def k_i_allWithin : Nat → List Nat := fun n => lookN n [(2, [0, 1, 2, 9, 10, 11])]
theorem p_i_allWithin {args : List AV} {r : Pk} (b : Bool) (h1 : args.all AV.isD = true) (h2 : Nat.ble args.length 21 = true) (h3 : evFun (env b) orc k_i_allWithin [.bool] [.tmp 6] 21 b_i_allWithin args [] fun r' _ => r' = r) : orc.pc 154 args r :=
  pureC_of (envOk b) (orcOk b) Try.func154 (by rfl) rfl (by rfl) (by rfl) h1 (Nat.le_of_ble_eq_true h2) h3
/-- spec.l2Labels -/
def n_s_l2Labels : Nat := 158
noncomputable def b_s_l2Labels : Code := (Try.f158.body).getD .skip
def k_s_l2Labels : Nat → List Nat := fun n => lookN n [(2, [0, 3])]
theorem p_s_l2Labels {args : List AV} {r : Pk} (b : Bool) (h1 : args.all AV.isD = true) (h2 : Nat.ble args.length 22 = true) (h3 : evFun (env b) orc k_s_l2Labels [.bool] [.tmp 2] 22 b_s_l2Labels args [] fun r' _ => r' = r) : orc.pc 158 args r :=
  pureC_of (envOk b) (orcOk b) Try.func158 (by rfl) rfl (by rfl) (by rfl) h1 (Nat.le_of_ble_eq_true h2) h3
/-- impl.copies -/
def n_i_copies : Nat := 159
noncomputable def b_i_copies : Code := (Try.f159.body).getD .skip
def k_i_copies : Nat → List Nat := fun n => lookN n [(3, [0, 2, 3, 7, 8, 9])]
theorem p_i_copies {args : List AV} {r : Pk} (b : Bool) (h1 : args.all AV.isD = true) (h2 : Nat.ble args.length 20 = true) (h3 : evFun (env b) orc k_i_copies [.sl (.sl (.int .i64))] [.tmp 2] 20 b_i_copies args [] fun r' _ => r' = r) : orc.pc 159 args r :=
  pureC_of (envOk b) (orcOk b) Try.func159 (by rfl) rfl (by rfl) (by rfl) h1 (Nat.le_of_ble_eq_true h2) h3
/-- spec.l2Sides -/
def n_s_l2Sides : Nat := 162
noncomputable def b_s_l2Sides : Code := (Try.f162.body).getD .skip
def k_s_l2Sides : Nat → List Nat := fun n => lookN n [(3, [0, 1, 2, 3, 4, 5, 6])]
theorem p_s_l2Sides {args : List AV} {r : Pk} (b : Bool) (h1 : args.all AV.isD = true) (h2 : Nat.ble args.length 26 = true) (h3 : evFun (env b) orc k_s_l2Sides [.sl (.int .i64)] [.tmp 4] 26 b_s_l2Sides args [] fun r' _ => r' = r) : orc.pc 162 args r :=
  pureC_of (envOk b) (orcOk b) Try.func162 (by rfl) rfl (by rfl) (by rfl) h1 (Nat.le_of_ble_eq_true h2) h3
/-- spec.l11Says -/
def n_s_l11Says : Nat := 167
noncomputable def b_s_l11Says : Code := (Try.f167.body).getD .skip
def k_s_l11Says : Nat → List Nat := fun n => lookN n [(2, [0, 1, 5])]
theorem p_s_l11Says {args : List AV} {r : Pk} (b : Bool) (h1 : args.all AV.isD = true) (h2 : Nat.ble args.length 22 = true) (h3 : evFun (env b) orc k_s_l11Says [.bool] [.tmp 4] 22 b_s_l11Says args [] fun r' _ => r' = r) : orc.pc 167 args r :=
  pureC_of (envOk b) (orcOk b) Try.func167 (by rfl) rfl (by rfl) (by rfl) h1 (Nat.le_of_ble_eq_true h2) h3
/-- spec.l11Wrong -/
def n_s_l11Wrong : Nat := 168
noncomputable def b_s_l11Wrong : Code := (Try.f168.body).getD .skip
def k_s_l11Wrong : Nat → List Nat := fun n => lookN n []
theorem p_s_l11Wrong {args : List AV} {r : Pk} (b : Bool) (h1 : args.all AV.isD = true) (h2 : Nat.ble args.length 12 = true) (h3 : evFun (env b) orc k_s_l11Wrong [.bool] [.tmp 4] 12 b_s_l11Wrong args [] fun r' _ => r' = r) : orc.pc 168 args r :=
  pureC_of (envOk b) (orcOk b) Try.func168 (by rfl) rfl (by rfl) (by rfl) h1 (Nat.le_of_ble_eq_true h2) h3
/-- impl.areLabels -/
def n_i_areLabels : Nat := 169
noncomputable def b_i_areLabels : Code := (Try.f169.body).getD .skip
def k_i_areLabels : Nat → List Nat := fun n => lookN n [(2, [0, 5, 6, 7])]
theorem p_i_areLabels {args : List AV} {r : Pk} (b : Bool) (h1 : args.all AV.isD = true) (h2 : Nat.ble args.length 15 = true) (h3 : evFun (env b) orc k_i_areLabels [.bool] [.tmp 2] 15 b_i_areLabels args [] fun r' _ => r' = r) : orc.pc 169 args r :=
  pureC_of (envOk b) (orcOk b) Try.func169 (by rfl) rfl (by rfl) (by rfl) h1 (Nat.le_of_ble_eq_true h2) h3
/-- (impl.Panel).wrongBefore -/
def n_i_Panel_wrongBefore : Nat := 170
noncomputable def b_i_Panel_wrongBefore : Code := (Try.f170.body).getD .skip
def k_i_Panel_wrongBefore : Nat → List Nat := fun n => lookN n [(6, [0, 1, 2, 4, 5, 6, 13, 14, 17, 18]), (3, [0, 1, 2, 4, 5, 13, 14])]
theorem p_i_Panel_wrongBefore {args : List AV} {r : Pk} (b : Bool) (h1 : args.all AV.isD = true) (h2 : Nat.ble args.length 34 = true) (h3 : evFun (env b) orc k_i_Panel_wrongBefore [.sl (.int .i64)] [.tmp 4] 34 b_i_Panel_wrongBefore args [] fun r' _ => r' = r) : orc.pc 170 args r :=
  pureC_of (envOk b) (orcOk b) Try.func170 (by rfl) rfl (by rfl) (by rfl) h1 (Nat.le_of_ble_eq_true h2) h3
/-- slices.Index[[]int,int] -/
def n_slices_Index : Nat := 171
noncomputable def b_slices_Index : Code := (Try.f171.body).getD .skip
def k_slices_Index : Nat → List Nat := fun n => lookN n [(2, [0, 1, 7, 8])]
theorem p_slices_Index {args : List AV} {r : Pk} (b : Bool) (h1 : args.all AV.isD = true) (h2 : Nat.ble args.length 19 = true) (h3 : evFun (env b) orc k_slices_Index [.int .i64] [.tmp 4] 19 b_slices_Index args [] fun r' _ => r' = r) : orc.pc 171 args r :=
  pureC_of (envOk b) (orcOk b) Try.func171 (by rfl) rfl (by rfl) (by rfl) h1 (Nat.le_of_ble_eq_true h2) h3
/-- slices.Min[[]int,int] -/
def n_slices_Min : Nat := 172
noncomputable def b_slices_Min : Code := (Try.f172.body).getD .skip
def k_slices_Min : Nat → List Nat := fun n => lookN n [(5, [0, 2, 3, 4])]
theorem p_slices_Min {args : List AV} {r : Pk} (b : Bool) (h1 : args.all AV.isD = true) (h2 : Nat.ble args.length 25 = true) (h3 : evFun (env b) orc k_slices_Min [.int .i64] [.tmp 2] 25 b_slices_Min args [] fun r' _ => r' = r) : orc.pc 172 args r :=
  pureC_of (envOk b) (orcOk b) Try.func172 (by rfl) rfl (by rfl) (by rfl) h1 (Nat.le_of_ble_eq_true h2) h3
/-- spec.l10Degree -/
def n_s_l10Degree : Nat := 180
noncomputable def b_s_l10Degree : Code := (Try.f180.body).getD .skip
def k_s_l10Degree : Nat → List Nat := fun n => lookN n []
theorem p_s_l10Degree {args : List AV} {r : Pk} (b : Bool) (h1 : args.all AV.isD = true) (h2 : Nat.ble args.length 5 = true) (h3 : evFun (env b) orc k_s_l10Degree [.bool] [.tmp 2] 5 b_s_l10Degree args [] fun r' _ => r' = r) : orc.pc 180 args r :=
  pureC_of (envOk b) (orcOk b) Try.func180 (by rfl) rfl (by rfl) (by rfl) h1 (Nat.le_of_ble_eq_true h2) h3
/-- spec.l10Force -/
def n_s_l10Force : Nat := 181
noncomputable def b_s_l10Force : Code := (Try.f181.body).getD .skip
def k_s_l10Force : Nat → List Nat := fun n => lookN n [(3, [0, 1, 2, 3, 4, 8, 9, 10])]
theorem p_s_l10Force {args : List AV} {r : Pk} (b : Bool) (h1 : args.all AV.isD = true) (h2 : Nat.ble args.length 39 = true) (h3 : evFun (env b) orc k_s_l10Force [.int .i64] [.tmp 8] 39 b_s_l10Force args [] fun r' _ => r' = r) : orc.pc 181 args r :=
  pureC_of (envOk b) (orcOk b) Try.func181 (by rfl) rfl (by rfl) (by rfl) h1 (Nat.le_of_ble_eq_true h2) h3
/-- impl.isDegree -/
def n_i_isDegree : Nat := 182
noncomputable def b_i_isDegree : Code := (Try.f182.body).getD .skip
def k_i_isDegree : Nat → List Nat := fun n => lookN n []
theorem p_i_isDegree {args : List AV} {r : Pk} (b : Bool) (h1 : args.all AV.isD = true) (h2 : Nat.ble args.length 5 = true) (h3 : evFun (env b) orc k_i_isDegree [.bool] [.tmp 2] 5 b_i_isDegree args [] fun r' _ => r' = r) : orc.pc 182 args r :=
  pureC_of (envOk b) (orcOk b) Try.func182 (by rfl) rfl (by rfl) (by rfl) h1 (Nat.le_of_ble_eq_true h2) h3
/-- (impl.Sample).force -/
def n_i_Sample_force : Nat := 183
noncomputable def b_i_Sample_force : Code := (Try.f183.body).getD .skip
def k_i_Sample_force : Nat → List Nat := fun n => lookN n [(3, [0, 1, 2, 3, 4, 8, 9, 13, 14, 15])]
theorem p_i_Sample_force {args : List AV} {r : Pk} (b : Bool) (h1 : args.all AV.isD = true) (h2 : Nat.ble args.length 39 = true) (h3 : evFun (env b) orc k_i_Sample_force [.int .i64] [.tmp 8] 39 b_i_Sample_force args [] fun r' _ => r' = r) : orc.pc 183 args r :=
  pureC_of (envOk b) (orcOk b) Try.func183 (by rfl) rfl (by rfl) (by rfl) h1 (Nat.le_of_ble_eq_true h2) h3
/-- (impl.Panel).wrong -/
def n_i_Panel_wrong : Nat := 191
noncomputable def b_i_Panel_wrong : Code := (Try.f191.body).getD .skip
def k_i_Panel_wrong : Nat → List Nat := fun n => lookN n []
theorem p_i_Panel_wrong {args : List AV} {r : Pk} (b : Bool) (h1 : args.all AV.isD = true) (h2 : Nat.ble args.length 22 = true) (h3 : evFun (env b) orc k_i_Panel_wrong [.bool] [.tmp 6] 22 b_i_Panel_wrong args [] fun r' _ => r' = r) : orc.pc 191 args r :=
  pureC_of (envOk b) (orcOk b) Try.func191 (by rfl) rfl (by rfl) (by rfl) h1 (Nat.le_of_ble_eq_true h2) h3
/-- spec.l10Kernel -/
def n_s_l10Kernel : Nat := 193
noncomputable def b_s_l10Kernel : Code := (Try.f193.body).getD .skip
def k_s_l10Kernel : Nat → List Nat := fun n => lookN n [(3, [0, 1, 2, 6, 7, 8, 9])]
theorem p_s_l10Kernel {args : List AV} {r : Pk} (b : Bool) (h1 : args.all AV.isD = true) (h2 : Nat.ble args.length 23 = true) (h3 : evFun (env b) orc k_s_l10Kernel [.int .i64] [.tmp 6] 23 b_s_l10Kernel args [] fun r' _ => r' = r) : orc.pc 193 args r :=
  pureC_of (envOk b) (orcOk b) Try.func193 (by rfl) rfl (by rfl) (by rfl) h1 (Nat.le_of_ble_eq_true h2) h3
/-- impl.kernel -/
def n_i_kernel : Nat := 194
noncomputable def b_i_kernel : Code := (Try.f194.body).getD .skip
def k_i_kernel : Nat → List Nat := fun n => lookN n [(3, [0, 1, 2, 6, 7, 8, 9])]
theorem p_i_kernel {args : List AV} {r : Pk} (b : Bool) (h1 : args.all AV.isD = true) (h2 : Nat.ble args.length 19 = true) (h3 : evFun (env b) orc k_i_kernel [.int .i64] [.tmp 6] 19 b_i_kernel args [] fun r' _ => r' = r) : orc.pc 194 args r :=
  pureC_of (envOk b) (orcOk b) Try.func194 (by rfl) rfl (by rfl) (by rfl) h1 (Nat.le_of_ble_eq_true h2) h3
end Go.Proofs.Ytgebhckfdcajoaa.Ev
