/- PRINTED BY gen.py (own program): what the proofs need of each function: its body, its loops' live slots, its results' shapes. -/
import Derived.Test.YtcpepepdinkioaaTab
namespace Go.Proofs.Ytcpepepdinkioaa.Ev
open Go
/-- laws.FnExactPlaneNumbers -/
def n_l_FnExactPlaneNumbers : Nat := 3
noncomputable def b_l_FnExactPlaneNumbers : Code := (Try.f3.body).getD .skip
def k_l_FnExactPlaneNumbers : Nat → List Nat := fun n => lookN n []
theorem p_l_FnExactPlaneNumbers {args : List AV} {r : Pk} (b : Bool) (h1 : args.all AV.isD = true) (h2 : Nat.ble args.length 96 = true) (h3 : evFun (env b) orc k_l_FnExactPlaneNumbers [.bool] [.tmp 2] 96 b_l_FnExactPlaneNumbers args [] fun r' _ => r' = r) : orc.pc 3 args r :=
  pureC_of (envOk b) (orcOk b) Try.func3 (by rfl) rfl (by rfl) (by rfl) h1 (Nat.le_of_ble_eq_true h2) h3
/-- laws.FnExactSwitchPlan -/
def n_l_FnExactSwitchPlan : Nat := 4
noncomputable def b_l_FnExactSwitchPlan : Code := (Try.f4.body).getD .skip
def k_l_FnExactSwitchPlan : Nat → List Nat := fun n => lookN n []
theorem p_l_FnExactSwitchPlan {args : List AV} {r : Pk} (b : Bool) (h1 : args.all AV.isD = true) (h2 : Nat.ble args.length 101 = true) (h3 : evFun (env b) orc k_l_FnExactSwitchPlan [.bool] [.tmp 4] 101 b_l_FnExactSwitchPlan args [] fun r' _ => r' = r) : orc.pc 4 args r :=
  pureC_of (envOk b) (orcOk b) Try.func4 (by rfl) rfl (by rfl) (by rfl) h1 (Nat.le_of_ble_eq_true h2) h3
/-- laws.FnExactPerceptronTrace -/
def n_l_FnExactPerceptronTrace : Nat := 5
noncomputable def b_l_FnExactPerceptronTrace : Code := (Try.f5.body).getD .skip
def k_l_FnExactPerceptronTrace : Nat → List Nat := fun n => lookN n []
theorem p_l_FnExactPerceptronTrace {args : List AV} {r : Pk} (b : Bool) (h1 : args.all AV.isD = true) (h2 : Nat.ble args.length 101 = true) (h3 : evFun (env b) orc k_l_FnExactPerceptronTrace [.bool] [.tmp 4] 101 b_l_FnExactPerceptronTrace args [] fun r' _ => r' = r) : orc.pc 5 args r :=
  pureC_of (envOk b) (orcOk b) Try.func5 (by rfl) rfl (by rfl) (by rfl) h1 (Nat.le_of_ble_eq_true h2) h3
/-- laws.FnExactDualCounts -/
def n_l_FnExactDualCounts : Nat := 6
noncomputable def b_l_FnExactDualCounts : Code := (Try.f6.body).getD .skip
def k_l_FnExactDualCounts : Nat → List Nat := fun n => lookN n []
theorem p_l_FnExactDualCounts {args : List AV} {r : Pk} (b : Bool) (h1 : args.all AV.isD = true) (h2 : Nat.ble args.length 101 = true) (h3 : evFun (env b) orc k_l_FnExactDualCounts [.bool] [.tmp 4] 101 b_l_FnExactDualCounts args [] fun r' _ => r' = r) : orc.pc 6 args r :=
  pureC_of (envOk b) (orcOk b) Try.func6 (by rfl) rfl (by rfl) (by rfl) h1 (Nat.le_of_ble_eq_true h2) h3
/-- laws.FnExactAfterNet -/
def n_l_FnExactAfterNet : Nat := 7
noncomputable def b_l_FnExactAfterNet : Code := (Try.f7.body).getD .skip
def k_l_FnExactAfterNet : Nat → List Nat := fun n => lookN n []
theorem p_l_FnExactAfterNet {args : List AV} {r : Pk} (b : Bool) (h1 : args.all AV.isD = true) (h2 : Nat.ble args.length 119 = true) (h3 : evFun (env b) orc k_l_FnExactAfterNet [.bool] [.tmp 4] 119 b_l_FnExactAfterNet args [] fun r' _ => r' = r) : orc.pc 7 args r :=
  pureC_of (envOk b) (orcOk b) Try.func7 (by rfl) rfl (by rfl) (by rfl) h1 (Nat.le_of_ble_eq_true h2) h3
/-- laws.FnExactRunPerceptron -/
def n_l_FnExactRunPerceptron : Nat := 8
noncomputable def b_l_FnExactRunPerceptron : Code := (Try.f8.body).getD .skip
def k_l_FnExactRunPerceptron : Nat → List Nat := fun n => lookN n []
theorem p_l_FnExactRunPerceptron {args : List AV} {r : Pk} (b : Bool) (h1 : args.all AV.isD = true) (h2 : Nat.ble args.length 138 = true) (h3 : evFun (env b) orc k_l_FnExactRunPerceptron [.bool] [.tmp 4] 138 b_l_FnExactRunPerceptron args [] fun r' _ => r' = r) : orc.pc 8 args r :=
  pureC_of (envOk b) (orcOk b) Try.func8 (by rfl) rfl (by rfl) (by rfl) h1 (Nat.le_of_ble_eq_true h2) h3
/-- laws.FnExactJoinNets -/
def n_l_FnExactJoinNets : Nat := 9
noncomputable def b_l_FnExactJoinNets : Code := (Try.f9.body).getD .skip
def k_l_FnExactJoinNets : Nat → List Nat := fun n => lookN n []
theorem p_l_FnExactJoinNets {args : List AV} {r : Pk} (b : Bool) (h1 : args.all AV.isD = true) (h2 : Nat.ble args.length 119 = true) (h3 : evFun (env b) orc k_l_FnExactJoinNets [.bool] [.tmp 4] 119 b_l_FnExactJoinNets args [] fun r' _ => r' = r) : orc.pc 9 args r :=
  pureC_of (envOk b) (orcOk b) Try.func9 (by rfl) rfl (by rfl) (by rfl) h1 (Nat.le_of_ble_eq_true h2) h3
/-- laws.FnExactOwnTable -/
def n_l_FnExactOwnTable : Nat := 10
noncomputable def b_l_FnExactOwnTable : Code := (Try.f10.body).getD .skip
def k_l_FnExactOwnTable : Nat → List Nat := fun n => lookN n []
theorem p_l_FnExactOwnTable {args : List AV} {r : Pk} (b : Bool) (h1 : args.all AV.isD = true) (h2 : Nat.ble args.length 96 = true) (h3 : evFun (env b) orc k_l_FnExactOwnTable [.bool] [.tmp 2] 96 b_l_FnExactOwnTable args [] fun r' _ => r' = r) : orc.pc 10 args r :=
  pureC_of (envOk b) (orcOk b) Try.func10 (by rfl) rfl (by rfl) (by rfl) h1 (Nat.le_of_ble_eq_true h2) h3
/-- laws.FnExactPocketPlane -/
def n_l_FnExactPocketPlane : Nat := 11
noncomputable def b_l_FnExactPocketPlane : Code := (Try.f11.body).getD .skip
def k_l_FnExactPocketPlane : Nat → List Nat := fun n => lookN n []
theorem p_l_FnExactPocketPlane {args : List AV} {r : Pk} (b : Bool) (h1 : args.all AV.isD = true) (h2 : Nat.ble args.length 101 = true) (h3 : evFun (env b) orc k_l_FnExactPocketPlane [.bool] [.tmp 4] 101 b_l_FnExactPocketPlane args [] fun r' _ => r' = r) : orc.pc 11 args r :=
  pureC_of (envOk b) (orcOk b) Try.func11 (by rfl) rfl (by rfl) (by rfl) h1 (Nat.le_of_ble_eq_true h2) h3
/-- laws.FnExactNegateNet -/
def n_l_FnExactNegateNet : Nat := 12
noncomputable def b_l_FnExactNegateNet : Code := (Try.f12.body).getD .skip
def k_l_FnExactNegateNet : Nat → List Nat := fun n => lookN n []
theorem p_l_FnExactNegateNet {args : List AV} {r : Pk} (b : Bool) (h1 : args.all AV.isD = true) (h2 : Nat.ble args.length 96 = true) (h3 : evFun (env b) orc k_l_FnExactNegateNet [.bool] [.tmp 2] 96 b_l_FnExactNegateNet args [] fun r' _ => r' = r) : orc.pc 12 args r :=
  pureC_of (envOk b) (orcOk b) Try.func12 (by rfl) rfl (by rfl) (by rfl) h1 (Nat.le_of_ble_eq_true h2) h3
/-- laws.FnExactPanelOf -/
def n_l_FnExactPanelOf : Nat := 13
noncomputable def b_l_FnExactPanelOf : Code := (Try.f13.body).getD .skip
def k_l_FnExactPanelOf : Nat → List Nat := fun n => lookN n []
theorem p_l_FnExactPanelOf {args : List AV} {r : Pk} (b : Bool) (h1 : args.all AV.isD = true) (h2 : Nat.ble args.length 119 = true) (h3 : evFun (env b) orc k_l_FnExactPanelOf [.bool] [.tmp 4] 119 b_l_FnExactPanelOf args [] fun r' _ => r' = r) : orc.pc 13 args r :=
  pureC_of (envOk b) (orcOk b) Try.func13 (by rfl) rfl (by rfl) (by rfl) h1 (Nat.le_of_ble_eq_true h2) h3
/-- laws.FnExactNewConsole -/
def n_l_FnExactNewConsole : Nat := 14
noncomputable def b_l_FnExactNewConsole : Code := (Try.f14.body).getD .skip
def k_l_FnExactNewConsole : Nat → List Nat := fun n => lookN n []
theorem p_l_FnExactNewConsole {args : List AV} {r : Pk} (b : Bool) (h1 : args.all AV.isD = true) (h2 : Nat.ble args.length 96 = true) (h3 : evFun (env b) orc k_l_FnExactNewConsole [.bool] [.tmp 2] 96 b_l_FnExactNewConsole args [] fun r' _ => r' = r) : orc.pc 14 args r :=
  pureC_of (envOk b) (orcOk b) Try.func14 (by rfl) rfl (by rfl) (by rfl) h1 (Nat.le_of_ble_eq_true h2) h3
/-- laws.szSchool -/
def n_l_szSchool : Nat := 15
noncomputable def b_l_szSchool : Code := (Try.f15.body).getD .skip
def k_l_szSchool : Nat → List Nat := fun n => lookN n []
theorem p_l_szSchool {args : List AV} {r : Pk} (b : Bool) (h1 : args.all AV.isD = true) (h2 : Nat.ble args.length 18 = true) (h3 : evFun (env b) orc k_l_szSchool [.int .i64] [.tmp 4] 18 b_l_szSchool args [] fun r' _ => r' = r) : orc.pc 15 args r :=
  pureC_of (envOk b) (orcOk b) Try.func15 (by rfl) rfl (by rfl) (by rfl) h1 (Nat.le_of_ble_eq_true h2) h3
/-- spec.PlaneNumbers -/
def n_s_PlaneNumbers : Nat := 16
noncomputable def b_s_PlaneNumbers : Code := (Try.f16.body).getD .skip
def k_s_PlaneNumbers : Nat → List Nat := fun n => lookN n []
theorem p_s_PlaneNumbers {args : List AV} {r : Pk} (b : Bool) (h1 : args.all AV.isD = true) (h2 : Nat.ble args.length 10 = true) (h3 : evFun (env b) orc k_s_PlaneNumbers [.sl (.int .i64), .bool] [.tmp 2, .tmp 3] 10 b_s_PlaneNumbers args [] fun r' _ => r' = r) : orc.pc 16 args r :=
  pureC_of (envOk b) (orcOk b) Try.func16 (by rfl) rfl (by rfl) (by rfl) h1 (Nat.le_of_ble_eq_true h2) h3
/-- laws.toSchool -/
def n_l_toSchool : Nat := 17
noncomputable def b_l_toSchool : Code := (Try.f17.body).getD .skip
def k_l_toSchool : Nat → List Nat := fun n => lookN n []
theorem p_l_toSchool {args : List AV} {r : Pk} (b : Bool) (h1 : args.all AV.isD = true) (h2 : Nat.ble args.length 19 = true) (h3 : evFun (env b) orc k_l_toSchool [.pair (.pair (.sl (.sl (.int .i64))) (.pair (.sl (.int .i64)) (.unit))) (.pair (.pair (.sl (.int .i64)) (.pair (.int .i64) (.unit))) (.pair (.int .i64) (.pair (.int .i64) (.unit))))] [.cell 2 36] 19 b_l_toSchool args [] fun r' _ => r' = r) : orc.pc 17 args r :=
  pureC_of (envOk b) (orcOk b) Try.func17 (by rfl) rfl (by rfl) (by rfl) h1 (Nat.le_of_ble_eq_true h2) h3
/-- impl.PlaneNumbers -/
def n_i_PlaneNumbers : Nat := 18
noncomputable def b_i_PlaneNumbers : Code := (Try.f18.body).getD .skip
def k_i_PlaneNumbers : Nat → List Nat := fun n => lookN n []
theorem p_i_PlaneNumbers {args : List AV} {r : Pk} (b : Bool) (h1 : args.all AV.isD = true) (h2 : Nat.ble args.length 16 = true) (h3 : evFun (env b) orc k_i_PlaneNumbers [.sl (.int .i64), .bool] [.tmp 2, .tmp 3] 16 b_i_PlaneNumbers args [] fun r' _ => r' = r) : orc.pc 18 args r :=
  pureC_of (envOk b) (orcOk b) Try.func18 (by rfl) rfl (by rfl) (by rfl) h1 (Nat.le_of_ble_eq_true h2) h3
/-- laws.eqIntS -/
def n_l_eqIntS : Nat := 19
noncomputable def b_l_eqIntS : Code := (Try.f19.body).getD .skip
def k_l_eqIntS : Nat → List Nat := fun n => lookN n [(4, [0, 1, 5])]
theorem p_l_eqIntS {args : List AV} {r : Pk} (b : Bool) (h1 : args.all AV.isD = true) (h2 : Nat.ble args.length 26 = true) (h3 : evFun (env b) orc k_l_eqIntS [.bool] [.tmp 4] 26 b_l_eqIntS args [] fun r' _ => r' = r) : orc.pc 19 args r :=
  pureC_of (envOk b) (orcOk b) Try.func19 (by rfl) rfl (by rfl) (by rfl) h1 (Nat.le_of_ble_eq_true h2) h3
/-- laws.eqSchool -/
def n_l_eqSchool : Nat := 20
noncomputable def b_l_eqSchool : Code := (Try.f20.body).getD .skip
def k_l_eqSchool : Nat → List Nat := fun n => lookN n []
theorem p_l_eqSchool {args : List AV} {r : Pk} (b : Bool) (h1 : args.all AV.isD = true) (h2 : Nat.ble args.length 27 = true) (h3 : evFun (env b) orc k_l_eqSchool [.bool] [.tmp 4] 27 b_l_eqSchool args [] fun r' _ => r' = r) : orc.pc 20 args r :=
  pureC_of (envOk b) (orcOk b) Try.func20 (by rfl) rfl (by rfl) (by rfl) h1 (Nat.le_of_ble_eq_true h2) h3
/-- laws.markSchool -/
def n_l_markSchool : Nat := 21
noncomputable def b_l_markSchool : Code := (Try.f21.body).getD .skip
def k_l_markSchool : Nat → List Nat := fun n => lookN n []
theorem p_l_markSchool {vs : List AV} {st : St} {r : AV} {st2 : St} (b : Bool) (hst : 0 < st.length) (h1 : vs.all (fun v => !v.isBad) = true) (h2 : Nat.ble vs.length 14 = true) (h3 : evInl (env b) orc k_l_markSchool [.int .i64] [.tmp 4] 14 b_l_markSchool (vs.map AV.inner) st fun r' st' => r' = r ∧ st' = st2) : orc.ic 21 vs st r st2 :=
  inlC_of (envOk b) (orcOk b) Try.func21 (by rfl) rfl (by rfl) (by rfl) hst h1 (Nat.le_of_ble_eq_true h2) h3
/-- laws.markIntS -/
def n_l_markIntS : Nat := 22
noncomputable def b_l_markIntS : Code := (Try.f22.body).getD .skip
def k_l_markIntS : Nat → List Nat := fun n => lookN n [(2, [0, 1, 4, 5])]
theorem p_l_markIntS {vs : List AV} {st : St} {r : AV} {st2 : St} (b : Bool) (hst : 0 < st.length) (h1 : vs.all (fun v => !v.isBad) = true) (h2 : Nat.ble vs.length 19 = true) (h3 : evInl (env b) orc k_l_markIntS [.int .i64] [.tmp 4] 19 b_l_markIntS (vs.map AV.inner) st fun r' st' => r' = r ∧ st' = st2) : orc.ic 22 vs st r st2 :=
  inlC_of (envOk b) (orcOk b) Try.func22 (by rfl) rfl (by rfl) (by rfl) hst h1 (Nat.le_of_ble_eq_true h2) h3
/-- laws.heldIntS -/
def n_l_heldIntS : Nat := 23
noncomputable def b_l_heldIntS : Code := (Try.f23.body).getD .skip
def k_l_heldIntS : Nat → List Nat := fun n => lookN n [(2, [0, 1, 5])]
theorem p_l_heldIntS {args : List AV} {r : Pk} (b : Bool) (h1 : args.all AV.isD = true) (h2 : Nat.ble args.length 21 = true) (h3 : evFun (env b) orc k_l_heldIntS [.int .i64] [.tmp 4] 21 b_l_heldIntS args [] fun r' _ => r' = r) : orc.pc 23 args r :=
  pureC_of (envOk b) (orcOk b) Try.func23 (by rfl) rfl (by rfl) (by rfl) h1 (Nat.le_of_ble_eq_true h2) h3
/-- laws.szPanel -/
def n_l_szPanel : Nat := 24
noncomputable def b_l_szPanel : Code := (Try.f24.body).getD .skip
def k_l_szPanel : Nat → List Nat := fun n => lookN n []
theorem p_l_szPanel {args : List AV} {r : Pk} (b : Bool) (h1 : args.all AV.isD = true) (h2 : Nat.ble args.length 18 = true) (h3 : evFun (env b) orc k_l_szPanel [.int .i64] [.tmp 4] 18 b_l_szPanel args [] fun r' _ => r' = r) : orc.pc 24 args r :=
  pureC_of (envOk b) (orcOk b) Try.func24 (by rfl) rfl (by rfl) (by rfl) h1 (Nat.le_of_ble_eq_true h2) h3
/-- spec.SwitchPlan -/
def n_s_SwitchPlan : Nat := 25
noncomputable def b_s_SwitchPlan : Code := (Try.f25.body).getD .skip
def k_s_SwitchPlan : Nat → List Nat := fun n => lookN n [(10, [0, 1, 2, 4, 5, 6, 7, 8, 9, 10, 11]), (7, [0, 1, 2, 4, 5, 6, 7, 8, 9, 10])]
theorem p_s_SwitchPlan {args : List AV} {r : Pk} (b : Bool) (h1 : args.all AV.isD = true) (h2 : Nat.ble args.length 93 = true) (h3 : evFun (env b) orc k_s_SwitchPlan [.sl (.int .i64), .bool] [.tmp 4, .tmp 5] 93 b_s_SwitchPlan args [] fun r' _ => r' = r) : orc.pc 25 args r :=
  pureC_of (envOk b) (orcOk b) Try.func25 (by rfl) rfl (by rfl) (by rfl) h1 (Nat.le_of_ble_eq_true h2) h3
/-- laws.toPanel -/
def n_l_toPanel : Nat := 26
noncomputable def b_l_toPanel : Code := (Try.f26.body).getD .skip
def k_l_toPanel : Nat → List Nat := fun n => lookN n []
theorem p_l_toPanel {args : List AV} {r : Pk} (b : Bool) (h1 : args.all AV.isD = true) (h2 : Nat.ble args.length 13 = true) (h3 : evFun (env b) orc k_l_toPanel [.pair (.sl (.sl (.int .i64))) (.pair (.sl (.int .i64)) (.unit))] [.cell 2 47] 13 b_l_toPanel args [] fun r' _ => r' = r) : orc.pc 26 args r :=
  pureC_of (envOk b) (orcOk b) Try.func26 (by rfl) rfl (by rfl) (by rfl) h1 (Nat.le_of_ble_eq_true h2) h3
/-- impl.SwitchPlan -/
def n_i_SwitchPlan : Nat := 27
noncomputable def b_i_SwitchPlan : Code := (Try.f27.body).getD .skip
def k_i_SwitchPlan : Nat → List Nat := fun n => lookN n [(9, [0, 1, 2, 4, 5, 6, 7, 8, 9, 33, 34, 39, 40]), (6, [0, 1, 2, 4, 5, 6, 7, 8, 33, 34])]
theorem p_i_SwitchPlan {args : List AV} {r : Pk} (b : Bool) (h1 : args.all AV.isD = true) (h2 : Nat.ble args.length 87 = true) (h3 : evFun (env b) orc k_i_SwitchPlan [.sl (.int .i64), .bool] [.tmp 4, .tmp 5] 87 b_i_SwitchPlan args [] fun r' _ => r' = r) : orc.pc 27 args r :=
  pureC_of (envOk b) (orcOk b) Try.func27 (by rfl) rfl (by rfl) (by rfl) h1 (Nat.le_of_ble_eq_true h2) h3
/-- laws.eqPanel -/
def n_l_eqPanel : Nat := 28
noncomputable def b_l_eqPanel : Code := (Try.f28.body).getD .skip
def k_l_eqPanel : Nat → List Nat := fun n => lookN n []
theorem p_l_eqPanel {args : List AV} {r : Pk} (b : Bool) (h1 : args.all AV.isD = true) (h2 : Nat.ble args.length 17 = true) (h3 : evFun (env b) orc k_l_eqPanel [.bool] [.tmp 4] 17 b_l_eqPanel args [] fun r' _ => r' = r) : orc.pc 28 args r :=
  pureC_of (envOk b) (orcOk b) Try.func28 (by rfl) rfl (by rfl) (by rfl) h1 (Nat.le_of_ble_eq_true h2) h3
/-- laws.markPanel -/
def n_l_markPanel : Nat := 29
noncomputable def b_l_markPanel : Code := (Try.f29.body).getD .skip
def k_l_markPanel : Nat → List Nat := fun n => lookN n []
theorem p_l_markPanel {vs : List AV} {st : St} {r : AV} {st2 : St} (b : Bool) (hst : 0 < st.length) (h1 : vs.all (fun v => !v.isBad) = true) (h2 : Nat.ble vs.length 14 = true) (h3 : evInl (env b) orc k_l_markPanel [.int .i64] [.tmp 4] 14 b_l_markPanel (vs.map AV.inner) st fun r' st' => r' = r ∧ st' = st2) : orc.ic 29 vs st r st2 :=
  inlC_of (envOk b) (orcOk b) Try.func29 (by rfl) rfl (by rfl) (by rfl) hst h1 (Nat.le_of_ble_eq_true h2) h3
/-- laws.szSample -/
def n_l_szSample : Nat := 30
noncomputable def b_l_szSample : Code := (Try.f30.body).getD .skip
def k_l_szSample : Nat → List Nat := fun n => lookN n []
theorem p_l_szSample {args : List AV} {r : Pk} (b : Bool) (h1 : args.all AV.isD = true) (h2 : Nat.ble args.length 18 = true) (h3 : evFun (env b) orc k_l_szSample [.int .i64] [.tmp 4] 18 b_l_szSample args [] fun r' _ => r' = r) : orc.pc 30 args r :=
  pureC_of (envOk b) (orcOk b) Try.func30 (by rfl) rfl (by rfl) (by rfl) h1 (Nat.le_of_ble_eq_true h2) h3
/-- spec.PerceptronTrace -/
def n_s_PerceptronTrace : Nat := 31
noncomputable def b_s_PerceptronTrace : Code := (Try.f31.body).getD .skip
def k_s_PerceptronTrace : Nat → List Nat := fun n => lookN n []
theorem p_s_PerceptronTrace {args : List AV} {r : Pk} (b : Bool) (h1 : args.all AV.isD = true) (h2 : Nat.ble args.length 19 = true) (h3 : evFun (env b) orc k_s_PerceptronTrace [.sl (.int .i64), .bool] [.tmp 4, .tmp 5] 19 b_s_PerceptronTrace args [] fun r' _ => r' = r) : orc.pc 31 args r :=
  pureC_of (envOk b) (orcOk b) Try.func31 (by rfl) rfl (by rfl) (by rfl) h1 (Nat.le_of_ble_eq_true h2) h3
/-- laws.toSample -/
def n_l_toSample : Nat := 32
noncomputable def b_l_toSample : Code := (Try.f32.body).getD .skip
def k_l_toSample : Nat → List Nat := fun n => lookN n []
theorem p_l_toSample {args : List AV} {r : Pk} (b : Bool) (h1 : args.all AV.isD = true) (h2 : Nat.ble args.length 13 = true) (h3 : evFun (env b) orc k_l_toSample [.pair (.sl (.sl (.int .i64))) (.pair (.sl (.int .i64)) (.unit))] [.cell 2 33] 13 b_l_toSample args [] fun r' _ => r' = r) : orc.pc 32 args r :=
  pureC_of (envOk b) (orcOk b) Try.func32 (by rfl) rfl (by rfl) (by rfl) h1 (Nat.le_of_ble_eq_true h2) h3
/-- impl.PerceptronTrace -/
def n_i_PerceptronTrace : Nat := 33
noncomputable def b_i_PerceptronTrace : Code := (Try.f33.body).getD .skip
def k_i_PerceptronTrace : Nat → List Nat := fun n => lookN n []
theorem p_i_PerceptronTrace {args : List AV} {r : Pk} (b : Bool) (h1 : args.all AV.isD = true) (h2 : Nat.ble args.length 19 = true) (h3 : evFun (env b) orc k_i_PerceptronTrace [.sl (.int .i64), .bool] [.tmp 4, .tmp 5] 19 b_i_PerceptronTrace args [] fun r' _ => r' = r) : orc.pc 33 args r :=
  pureC_of (envOk b) (orcOk b) Try.func33 (by rfl) rfl (by rfl) (by rfl) h1 (Nat.le_of_ble_eq_true h2) h3
/-- laws.eqSample -/
def n_l_eqSample : Nat := 34
noncomputable def b_l_eqSample : Code := (Try.f34.body).getD .skip
def k_l_eqSample : Nat → List Nat := fun n => lookN n []
theorem p_l_eqSample {args : List AV} {r : Pk} (b : Bool) (h1 : args.all AV.isD = true) (h2 : Nat.ble args.length 17 = true) (h3 : evFun (env b) orc k_l_eqSample [.bool] [.tmp 4] 17 b_l_eqSample args [] fun r' _ => r' = r) : orc.pc 34 args r :=
  pureC_of (envOk b) (orcOk b) Try.func34 (by rfl) rfl (by rfl) (by rfl) h1 (Nat.le_of_ble_eq_true h2) h3
/-- laws.markSample -/
def n_l_markSample : Nat := 35
noncomputable def b_l_markSample : Code := (Try.f35.body).getD .skip
def k_l_markSample : Nat → List Nat := fun n => lookN n []
theorem p_l_markSample {vs : List AV} {st : St} {r : AV} {st2 : St} (b : Bool) (hst : 0 < st.length) (h1 : vs.all (fun v => !v.isBad) = true) (h2 : Nat.ble vs.length 14 = true) (h3 : evInl (env b) orc k_l_markSample [.int .i64] [.tmp 4] 14 b_l_markSample (vs.map AV.inner) st fun r' st' => r' = r ∧ st' = st2) : orc.ic 35 vs st r st2 :=
  inlC_of (envOk b) (orcOk b) Try.func35 (by rfl) rfl (by rfl) (by rfl) hst h1 (Nat.le_of_ble_eq_true h2) h3
/-- spec.DualCounts -/
def n_s_DualCounts : Nat := 36
noncomputable def b_s_DualCounts : Code := (Try.f36.body).getD .skip
def k_s_DualCounts : Nat → List Nat := fun n => lookN n [(6, [0, 1, 2, 4, 5, 6, 7, 8, 9])]
theorem p_s_DualCounts {args : List AV} {r : Pk} (b : Bool) (h1 : args.all AV.isD = true) (h2 : Nat.ble args.length 41 = true) (h3 : evFun (env b) orc k_s_DualCounts [.sl (.int .i64), .bool] [.tmp 4, .tmp 5] 41 b_s_DualCounts args [] fun r' _ => r' = r) : orc.pc 36 args r :=
  pureC_of (envOk b) (orcOk b) Try.func36 (by rfl) rfl (by rfl) (by rfl) h1 (Nat.le_of_ble_eq_true h2) h3
/-- impl.DualCounts -/
def n_i_DualCounts : Nat := 37
noncomputable def b_i_DualCounts : Code := (Try.f37.body).getD .skip
def k_i_DualCounts : Nat → List Nat := fun n => lookN n [(6, [0, 1, 2, 4, 5, 6, 7, 8, 24, 25, 26])]
theorem p_i_DualCounts {args : List AV} {r : Pk} (b : Bool) (h1 : args.all AV.isD = true) (h2 : Nat.ble args.length 38 = true) (h3 : evFun (env b) orc k_i_DualCounts [.sl (.int .i64), .bool] [.tmp 4, .tmp 5] 38 b_i_DualCounts args [] fun r' _ => r' = r) : orc.pc 37 args r :=
  pureC_of (envOk b) (orcOk b) Try.func37 (by rfl) rfl (by rfl) (by rfl) h1 (Nat.le_of_ble_eq_true h2) h3
/-- laws.szNet -/
def n_l_szNet : Nat := 38
noncomputable def b_l_szNet : Code := (Try.f38.body).getD .skip
def k_l_szNet : Nat → List Nat := fun n => lookN n []
theorem p_l_szNet {args : List AV} {r : Pk} (b : Bool) (h1 : args.all AV.isD = true) (h2 : Nat.ble args.length 12 = true) (h3 : evFun (env b) orc k_l_szNet [.int .i64] [.tmp 4] 12 b_l_szNet args [] fun r' _ => r' = r) : orc.pc 38 args r :=
  pureC_of (envOk b) (orcOk b) Try.func38 (by rfl) rfl (by rfl) (by rfl) h1 (Nat.le_of_ble_eq_true h2) h3
/-- spec.AfterNet -/
def n_s_AfterNet : Nat := 39
noncomputable def b_s_AfterNet : Code := (Try.f39.body).getD .skip
def k_s_AfterNet : Nat → List Nat := fun n => lookN n []
theorem p_s_AfterNet {args : List AV} {r : Pk} (b : Bool) (h1 : args.all AV.isD = true) (h2 : Nat.ble args.length 50 = true) (h3 : evFun (env b) orc k_s_AfterNet [.pair (.int .i64) (.pair (.sl (.sl (.pair (.sl (.int .i64)) (.pair (.int .i64) (.unit))))) (.unit)), .bool] [.cell 4 64, .tmp 5] 50 b_s_AfterNet args [] fun r' _ => r' = r) : orc.pc 39 args r :=
  pureC_of (envOk b) (orcOk b) Try.func39 (by rfl) rfl (by rfl) (by rfl) h1 (Nat.le_of_ble_eq_true h2) h3
/-- laws.toNet -/
def n_l_toNet : Nat := 40
noncomputable def b_l_toNet : Code := (Try.f40.body).getD .skip
def k_l_toNet : Nat → List Nat := fun n => lookN n []
theorem p_l_toNet {args : List AV} {r : Pk} (b : Bool) (h1 : args.all AV.isD = true) (h2 : Nat.ble args.length 12 = true) (h3 : evFun (env b) orc k_l_toNet [.pair (.int .i64) (.pair (.sl (.sl (.pair (.sl (.int .i64)) (.pair (.int .i64) (.unit))))) (.unit))] [.cell 2 64] 12 b_l_toNet args [] fun r' _ => r' = r) : orc.pc 40 args r :=
  pureC_of (envOk b) (orcOk b) Try.func40 (by rfl) rfl (by rfl) (by rfl) h1 (Nat.le_of_ble_eq_true h2) h3
/-- impl.AfterNet -/
def n_i_AfterNet : Nat := 41
noncomputable def b_i_AfterNet : Code := (Try.f41.body).getD .skip
def k_i_AfterNet : Nat → List Nat := fun n => lookN n [(8, [0, 1, 2, 3, 4, 5, 6, 8, 35, 36, 39, 40, 41]), (5, [0, 1, 2, 3, 4, 5, 6, 35, 36])]
theorem p_i_AfterNet {args : List AV} {r : Pk} (b : Bool) (h1 : args.all AV.isD = true) (h2 : Nat.ble args.length 59 = true) (h3 : evFun (env b) orc k_i_AfterNet [.pair (.int .i64) (.pair (.sl (.sl (.pair (.sl (.int .i64)) (.pair (.int .i64) (.unit))))) (.unit)), .bool] [.cell 4 64, .tmp 5] 59 b_i_AfterNet args [] fun r' _ => r' = r) : orc.pc 41 args r :=
  pureC_of (envOk b) (orcOk b) Try.func41 (by rfl) rfl (by rfl) (by rfl) h1 (Nat.le_of_ble_eq_true h2) h3
/-- laws.eqNet -/
def n_l_eqNet : Nat := 42
noncomputable def b_l_eqNet : Code := (Try.f42.body).getD .skip
def k_l_eqNet : Nat → List Nat := fun n => lookN n []
theorem p_l_eqNet {args : List AV} {r : Pk} (b : Bool) (h1 : args.all AV.isD = true) (h2 : Nat.ble args.length 16 = true) (h3 : evFun (env b) orc k_l_eqNet [.bool] [.tmp 4] 16 b_l_eqNet args [] fun r' _ => r' = r) : orc.pc 42 args r :=
  pureC_of (envOk b) (orcOk b) Try.func42 (by rfl) rfl (by rfl) (by rfl) h1 (Nat.le_of_ble_eq_true h2) h3
/-- laws.markNet -/
def n_l_markNet : Nat := 43
noncomputable def b_l_markNet : Code := (Try.f43.body).getD .skip
def k_l_markNet : Nat → List Nat := fun n => lookN n []
theorem p_l_markNet {vs : List AV} {st : St} {r : AV} {st2 : St} (b : Bool) (hst : 0 < st.length) (h1 : vs.all (fun v => !v.isBad) = true) (h2 : Nat.ble vs.length 10 = true) (h3 : evInl (env b) orc k_l_markNet [.int .i64] [.tmp 4] 10 b_l_markNet (vs.map AV.inner) st fun r' st' => r' = r ∧ st' = st2) : orc.ic 43 vs st r st2 :=
  inlC_of (envOk b) (orcOk b) Try.func43 (by rfl) rfl (by rfl) (by rfl) hst h1 (Nat.le_of_ble_eq_true h2) h3
/-- laws.heldNet -/
def n_l_heldNet : Nat := 44
noncomputable def b_l_heldNet : Code := (Try.f44.body).getD .skip
def k_l_heldNet : Nat → List Nat := fun n => lookN n []
theorem p_l_heldNet {args : List AV} {r : Pk} (b : Bool) (h1 : args.all AV.isD = true) (h2 : Nat.ble args.length 12 = true) (h3 : evFun (env b) orc k_l_heldNet [.int .i64] [.tmp 4] 12 b_l_heldNet args [] fun r' _ => r' = r) : orc.pc 44 args r :=
  pureC_of (envOk b) (orcOk b) Try.func44 (by rfl) rfl (by rfl) (by rfl) h1 (Nat.le_of_ble_eq_true h2) h3
/-- spec.RunPerceptron -/
def n_s_RunPerceptron : Nat := 45
noncomputable def b_s_RunPerceptron : Code := (Try.f45.body).getD .skip
def k_s_RunPerceptron : Nat → List Nat := fun n => lookN n []
theorem p_s_RunPerceptron {args : List AV} {r : Pk} (b : Bool) (h1 : args.all AV.isD = true) (h2 : Nat.ble args.length 29 = true) (h3 : evFun (env b) orc k_s_RunPerceptron [.pair (.sl (.int .i64)) (.pair (.int .i64) (.unit)), .sl (.int .i64), .bool] [.cell 4 34, .tmp 5, .tmp 6] 29 b_s_RunPerceptron args [] fun r' _ => r' = r) : orc.pc 45 args r :=
  pureC_of (envOk b) (orcOk b) Try.func45 (by rfl) rfl (by rfl) (by rfl) h1 (Nat.le_of_ble_eq_true h2) h3
/-- impl.RunPerceptron -/
def n_i_RunPerceptron : Nat := 46
noncomputable def b_i_RunPerceptron : Code := (Try.f46.body).getD .skip
def k_i_RunPerceptron : Nat → List Nat := fun n => lookN n []
theorem p_i_RunPerceptron {args : List AV} {r : Pk} (b : Bool) (h1 : args.all AV.isD = true) (h2 : Nat.ble args.length 28 = true) (h3 : evFun (env b) orc k_i_RunPerceptron [.pair (.sl (.int .i64)) (.pair (.int .i64) (.unit)), .sl (.int .i64), .bool] [.cell 4 34, .tmp 5, .tmp 6] 28 b_i_RunPerceptron args [] fun r' _ => r' = r) : orc.pc 46 args r :=
  pureC_of (envOk b) (orcOk b) Try.func46 (by rfl) rfl (by rfl) (by rfl) h1 (Nat.le_of_ble_eq_true h2) h3
/-- laws.eqPlane -/
def n_l_eqPlane : Nat := 47
noncomputable def b_l_eqPlane : Code := (Try.f47.body).getD .skip
def k_l_eqPlane : Nat → List Nat := fun n => lookN n []
theorem p_l_eqPlane {args : List AV} {r : Pk} (b : Bool) (h1 : args.all AV.isD = true) (h2 : Nat.ble args.length 16 = true) (h3 : evFun (env b) orc k_l_eqPlane [.bool] [.tmp 4] 16 b_l_eqPlane args [] fun r' _ => r' = r) : orc.pc 47 args r :=
  pureC_of (envOk b) (orcOk b) Try.func47 (by rfl) rfl (by rfl) (by rfl) h1 (Nat.le_of_ble_eq_true h2) h3
/-- laws.markPlane -/
def n_l_markPlane : Nat := 48
noncomputable def b_l_markPlane : Code := (Try.f48.body).getD .skip
def k_l_markPlane : Nat → List Nat := fun n => lookN n []
theorem p_l_markPlane {vs : List AV} {st : St} {r : AV} {st2 : St} (b : Bool) (hst : 0 < st.length) (h1 : vs.all (fun v => !v.isBad) = true) (h2 : Nat.ble vs.length 10 = true) (h3 : evInl (env b) orc k_l_markPlane [.int .i64] [.tmp 4] 10 b_l_markPlane (vs.map AV.inner) st fun r' st' => r' = r ∧ st' = st2) : orc.ic 48 vs st r st2 :=
  inlC_of (envOk b) (orcOk b) Try.func48 (by rfl) rfl (by rfl) (by rfl) hst h1 (Nat.le_of_ble_eq_true h2) h3
/-- laws.heldPlane -/
def n_l_heldPlane : Nat := 49
noncomputable def b_l_heldPlane : Code := (Try.f49.body).getD .skip
def k_l_heldPlane : Nat → List Nat := fun n => lookN n []
theorem p_l_heldPlane {args : List AV} {r : Pk} (b : Bool) (h1 : args.all AV.isD = true) (h2 : Nat.ble args.length 12 = true) (h3 : evFun (env b) orc k_l_heldPlane [.int .i64] [.tmp 4] 12 b_l_heldPlane args [] fun r' _ => r' = r) : orc.pc 49 args r :=
  pureC_of (envOk b) (orcOk b) Try.func49 (by rfl) rfl (by rfl) (by rfl) h1 (Nat.le_of_ble_eq_true h2) h3
/-- spec.JoinNets -/
def n_s_JoinNets : Nat := 50
noncomputable def b_s_JoinNets : Code := (Try.f50.body).getD .skip
def k_s_JoinNets : Nat → List Nat := fun n => lookN n [(6, [0, 1, 2, 3, 4, 6, 7, 8, 9])]
theorem p_s_JoinNets {args : List AV} {r : Pk} (b : Bool) (h1 : args.all AV.isD = true) (h2 : Nat.ble args.length 93 = true) (h3 : evFun (env b) orc k_s_JoinNets [.pair (.int .i64) (.pair (.sl (.sl (.pair (.sl (.int .i64)) (.pair (.int .i64) (.unit))))) (.unit)), .bool] [.cell 4 64, .tmp 5] 93 b_s_JoinNets args [] fun r' _ => r' = r) : orc.pc 50 args r :=
  pureC_of (envOk b) (orcOk b) Try.func50 (by rfl) rfl (by rfl) (by rfl) h1 (Nat.le_of_ble_eq_true h2) h3
/-- impl.JoinNets -/
def n_i_JoinNets : Nat := 51
noncomputable def b_i_JoinNets : Code := (Try.f51.body).getD .skip
def k_i_JoinNets : Nat → List Nat := fun n => lookN n [(15, [0, 1, 2, 3, 4, 5, 6, 7, 8, 9, 10, 42, 43, 84, 85]), (10, [0, 1, 2, 3, 4, 5, 6, 7, 8, 9, 11, 42, 43, 61, 62]), (5, [0, 1, 2, 3, 4, 5, 6, 42, 43])]
theorem p_i_JoinNets {args : List AV} {r : Pk} (b : Bool) (h1 : args.all AV.isD = true) (h2 : Nat.ble args.length 121 = true) (h3 : evFun (env b) orc k_i_JoinNets [.pair (.int .i64) (.pair (.sl (.sl (.pair (.sl (.int .i64)) (.pair (.int .i64) (.unit))))) (.unit)), .bool] [.cell 4 64, .tmp 5] 121 b_i_JoinNets args [] fun r' _ => r' = r) : orc.pc 51 args r :=
  pureC_of (envOk b) (orcOk b) Try.func51 (by rfl) rfl (by rfl) (by rfl) h1 (Nat.le_of_ble_eq_true h2) h3
/-- spec.OwnTable -/
def n_s_OwnTable : Nat := 52
noncomputable def b_s_OwnTable : Code := (Try.f52.body).getD .skip
def k_s_OwnTable : Nat → List Nat := fun n => lookN n []
theorem p_s_OwnTable {args : List AV} {r : Pk} (b : Bool) (h1 : args.all AV.isD = true) (h2 : Nat.ble args.length 10 = true) (h3 : evFun (env b) orc k_s_OwnTable [.sl (.int .i64), .bool] [.tmp 2, .tmp 3] 10 b_s_OwnTable args [] fun r' _ => r' = r) : orc.pc 52 args r :=
  pureC_of (envOk b) (orcOk b) Try.func52 (by rfl) rfl (by rfl) (by rfl) h1 (Nat.le_of_ble_eq_true h2) h3
/-- impl.OwnTable -/
def n_i_OwnTable : Nat := 53
noncomputable def b_i_OwnTable : Code := (Try.f53.body).getD .skip
def k_i_OwnTable : Nat → List Nat := fun n => lookN n []
theorem p_i_OwnTable {args : List AV} {r : Pk} (b : Bool) (h1 : args.all AV.isD = true) (h2 : Nat.ble args.length 10 = true) (h3 : evFun (env b) orc k_i_OwnTable [.sl (.int .i64), .bool] [.tmp 2, .tmp 3] 10 b_i_OwnTable args [] fun r' _ => r' = r) : orc.pc 53 args r :=
  pureC_of (envOk b) (orcOk b) Try.func53 (by rfl) rfl (by rfl) (by rfl) h1 (Nat.le_of_ble_eq_true h2) h3
/-- spec.PocketPlane -/
def n_s_PocketPlane : Nat := 54
noncomputable def b_s_PocketPlane : Code := (Try.f54.body).getD .skip
def k_s_PocketPlane : Nat → List Nat := fun n => lookN n [(6, [0, 1, 2, 4, 5, 6, 7, 8, 9])]
theorem p_s_PocketPlane {args : List AV} {r : Pk} (b : Bool) (h1 : args.all AV.isD = true) (h2 : Nat.ble args.length 49 = true) (h3 : evFun (env b) orc k_s_PocketPlane [.pair (.sl (.int .i64)) (.pair (.int .i64) (.unit)), .bool] [.cell 4 34, .tmp 5] 49 b_s_PocketPlane args [] fun r' _ => r' = r) : orc.pc 54 args r :=
  pureC_of (envOk b) (orcOk b) Try.func54 (by rfl) rfl (by rfl) (by rfl) h1 (Nat.le_of_ble_eq_true h2) h3
/-- impl.PocketPlane -/
def n_i_PocketPlane : Nat := 55
noncomputable def b_i_PocketPlane : Code := (Try.f55.body).getD .skip
def k_i_PocketPlane : Nat → List Nat := fun n => lookN n [(6, [0, 1, 2, 4, 5, 6, 7, 8, 25, 26, 27])]
theorem p_i_PocketPlane {args : List AV} {r : Pk} (b : Bool) (h1 : args.all AV.isD = true) (h2 : Nat.ble args.length 43 = true) (h3 : evFun (env b) orc k_i_PocketPlane [.pair (.sl (.int .i64)) (.pair (.int .i64) (.unit)), .bool] [.cell 4 34, .tmp 5] 43 b_i_PocketPlane args [] fun r' _ => r' = r) : orc.pc 55 args r :=
  pureC_of (envOk b) (orcOk b) Try.func55 (by rfl) rfl (by rfl) (by rfl) h1 (Nat.le_of_ble_eq_true h2) h3
/-- spec.NegateNet -/
def n_s_NegateNet : Nat := 56
noncomputable def b_s_NegateNet : Code := (Try.f56.body).getD .skip
def k_s_NegateNet : Nat → List Nat := fun n => lookN n [(6, [0, 1, 2, 4, 5, 6])]
theorem p_s_NegateNet {args : List AV} {r : Pk} (b : Bool) (h1 : args.all AV.isD = true) (h2 : Nat.ble args.length 45 = true) (h3 : evFun (env b) orc k_s_NegateNet [.pair (.int .i64) (.pair (.sl (.sl (.pair (.sl (.int .i64)) (.pair (.int .i64) (.unit))))) (.unit)), .bool] [.cell 2 64, .tmp 3] 45 b_s_NegateNet args [] fun r' _ => r' = r) : orc.pc 56 args r :=
  pureC_of (envOk b) (orcOk b) Try.func56 (by rfl) rfl (by rfl) (by rfl) h1 (Nat.le_of_ble_eq_true h2) h3
/-- impl.NegateNet -/
def n_i_NegateNet : Nat := 57
noncomputable def b_i_NegateNet : Code := (Try.f57.body).getD .skip
def k_i_NegateNet : Nat → List Nat := fun n => lookN n [(9, [0, 1, 2, 4, 5, 6, 7, 20, 21, 22, 29, 30, 31]), (5, [0, 1, 2, 4, 20, 21, 22])]
theorem p_i_NegateNet {args : List AV} {r : Pk} (b : Bool) (h1 : args.all AV.isD = true) (h2 : Nat.ble args.length 63 = true) (h3 : evFun (env b) orc k_i_NegateNet [.pair (.int .i64) (.pair (.sl (.sl (.pair (.sl (.int .i64)) (.pair (.int .i64) (.unit))))) (.unit)), .bool] [.cell 2 64, .tmp 3] 63 b_i_NegateNet args [] fun r' _ => r' = r) : orc.pc 57 args r :=
  pureC_of (envOk b) (orcOk b) Try.func57 (by rfl) rfl (by rfl) (by rfl) h1 (Nat.le_of_ble_eq_true h2) h3
/-- laws.szPlaneS -/
def n_l_szPlaneS : Nat := 58
noncomputable def b_l_szPlaneS : Code := (Try.f58.body).getD .skip
def k_l_szPlaneS : Nat → List Nat := fun n => lookN n [(5, [0, 1, 5])]
theorem p_l_szPlaneS {args : List AV} {r : Pk} (b : Bool) (h1 : args.all AV.isD = true) (h2 : Nat.ble args.length 27 = true) (h3 : evFun (env b) orc k_l_szPlaneS [.int .i64] [.tmp 4] 27 b_l_szPlaneS args [] fun r' _ => r' = r) : orc.pc 58 args r :=
  pureC_of (envOk b) (orcOk b) Try.func58 (by rfl) rfl (by rfl) (by rfl) h1 (Nat.le_of_ble_eq_true h2) h3
/-- spec.PanelOf -/
def n_s_PanelOf : Nat := 59
noncomputable def b_s_PanelOf : Code := (Try.f59.body).getD .skip
def k_s_PanelOf : Nat → List Nat := fun n => lookN n [(5, [0, 1, 2, 4, 5, 6, 7])]
theorem p_s_PanelOf {args : List AV} {r : Pk} (b : Bool) (h1 : args.all AV.isD = true) (h2 : Nat.ble args.length 48 = true) (h3 : evFun (env b) orc k_s_PanelOf [.pair (.sl (.sl (.int .i64))) (.pair (.sl (.int .i64)) (.unit)), .bool] [.cell 4 47, .tmp 5] 48 b_s_PanelOf args [] fun r' _ => r' = r) : orc.pc 59 args r :=
  pureC_of (envOk b) (orcOk b) Try.func59 (by rfl) rfl (by rfl) (by rfl) h1 (Nat.le_of_ble_eq_true h2) h3
/-- laws.toPlaneS -/
def n_l_toPlaneS : Nat := 60
noncomputable def b_l_toPlaneS : Code := (Try.f60.body).getD .skip
def k_l_toPlaneS : Nat → List Nat := fun n => lookN n [(3, [0, 2, 3, 4])]
theorem p_l_toPlaneS {args : List AV} {r : Pk} (b : Bool) (h1 : args.all AV.isD = true) (h2 : Nat.ble args.length 23 = true) (h3 : evFun (env b) orc k_l_toPlaneS [.sl (.pair (.sl (.int .i64)) (.pair (.int .i64) (.unit)))] [.tmp 2] 23 b_l_toPlaneS args [] fun r' _ => r' = r) : orc.pc 60 args r :=
  pureC_of (envOk b) (orcOk b) Try.func60 (by rfl) rfl (by rfl) (by rfl) h1 (Nat.le_of_ble_eq_true h2) h3
/-- impl.PanelOf -/
def n_i_PanelOf : Nat := 61
noncomputable def b_i_PanelOf : Code := (Try.f61.body).getD .skip
def k_i_PanelOf : Nat → List Nat := fun n => lookN n [(5, [0, 1, 2, 4, 5, 6, 32, 33, 34])]
theorem p_i_PanelOf {args : List AV} {r : Pk} (b : Bool) (h1 : args.all AV.isD = true) (h2 : Nat.ble args.length 52 = true) (h3 : evFun (env b) orc k_i_PanelOf [.pair (.sl (.sl (.int .i64))) (.pair (.sl (.int .i64)) (.unit)), .bool] [.cell 4 47, .tmp 5] 52 b_i_PanelOf args [] fun r' _ => r' = r) : orc.pc 61 args r :=
  pureC_of (envOk b) (orcOk b) Try.func61 (by rfl) rfl (by rfl) (by rfl) h1 (Nat.le_of_ble_eq_true h2) h3
/-- laws.eqPlaneS -/
def n_l_eqPlaneS : Nat := 62
noncomputable def b_l_eqPlaneS : Code := (Try.f62.body).getD .skip
def k_l_eqPlaneS : Nat → List Nat := fun n => lookN n [(4, [0, 1, 5])]
theorem p_l_eqPlaneS {args : List AV} {r : Pk} (b : Bool) (h1 : args.all AV.isD = true) (h2 : Nat.ble args.length 27 = true) (h3 : evFun (env b) orc k_l_eqPlaneS [.bool] [.tmp 4] 27 b_l_eqPlaneS args [] fun r' _ => r' = r) : orc.pc 62 args r :=
  pureC_of (envOk b) (orcOk b) Try.func62 (by rfl) rfl (by rfl) (by rfl) h1 (Nat.le_of_ble_eq_true h2) h3
/-- laws.markPlaneS -/
def n_l_markPlaneS : Nat := 63
noncomputable def b_l_markPlaneS : Code := (Try.f63.body).getD .skip
def k_l_markPlaneS : Nat → List Nat := fun n => lookN n [(2, [0, 1, 4, 5])]
theorem p_l_markPlaneS {vs : List AV} {st : St} {r : AV} {st2 : St} (b : Bool) (hst : 0 < st.length) (h1 : vs.all (fun v => !v.isBad) = true) (h2 : Nat.ble vs.length 27 = true) (h3 : evInl (env b) orc k_l_markPlaneS [.int .i64] [.tmp 4] 27 b_l_markPlaneS (vs.map AV.inner) st fun r' st' => r' = r ∧ st' = st2) : orc.ic 63 vs st r st2 :=
  inlC_of (envOk b) (orcOk b) Try.func63 (by rfl) rfl (by rfl) (by rfl) hst h1 (Nat.le_of_ble_eq_true h2) h3
/-- laws.heldPanel -/
def n_l_heldPanel : Nat := 64
noncomputable def b_l_heldPanel : Code := (Try.f64.body).getD .skip
def k_l_heldPanel : Nat → List Nat := fun n => lookN n []
theorem p_l_heldPanel {args : List AV} {r : Pk} (b : Bool) (h1 : args.all AV.isD = true) (h2 : Nat.ble args.length 18 = true) (h3 : evFun (env b) orc k_l_heldPanel [.int .i64] [.tmp 4] 18 b_l_heldPanel args [] fun r' _ => r' = r) : orc.pc 64 args r :=
  pureC_of (envOk b) (orcOk b) Try.func64 (by rfl) rfl (by rfl) (by rfl) h1 (Nat.le_of_ble_eq_true h2) h3
/-- spec.NewConsole -/
def n_s_NewConsole : Nat := 65
noncomputable def b_s_NewConsole : Code := (Try.f65.body).getD .skip
def k_s_NewConsole : Nat → List Nat := fun n => lookN n []
theorem p_s_NewConsole {args : List AV} {r : Pk} (b : Bool) (h1 : args.all AV.isD = true) (h2 : Nat.ble args.length 11 = true) (h3 : evFun (env b) orc k_s_NewConsole [.pair (.pair (.pair (.sl (.sl (.int .i64))) (.pair (.sl (.int .i64)) (.unit))) (.pair (.pair (.sl (.int .i64)) (.pair (.int .i64) (.unit))) (.pair (.int .i64) (.pair (.int .i64) (.unit))))) (.pair (.pair (.str) (.pair (.str) (.pair (.int .i64) (.unit)))) (.unit)), .bool] [.cell 2 91, .tmp 3] 11 b_s_NewConsole args [] fun r' _ => r' = r) : orc.pc 65 args r :=
  pureC_of (envOk b) (orcOk b) Try.func65 (by rfl) rfl (by rfl) (by rfl) h1 (Nat.le_of_ble_eq_true h2) h3
/-- impl.NewConsole -/
def n_i_NewConsole : Nat := 66
noncomputable def b_i_NewConsole : Code := (Try.f66.body).getD .skip
def k_i_NewConsole : Nat → List Nat := fun n => lookN n []
theorem p_i_NewConsole {args : List AV} {r : Pk} (b : Bool) (h1 : args.all AV.isD = true) (h2 : Nat.ble args.length 11 = true) (h3 : evFun (env b) orc k_i_NewConsole [.pair (.pair (.pair (.sl (.sl (.int .i64))) (.pair (.sl (.int .i64)) (.unit))) (.pair (.pair (.sl (.int .i64)) (.pair (.int .i64) (.unit))) (.pair (.int .i64) (.pair (.int .i64) (.unit))))) (.pair (.pair (.str) (.pair (.str) (.pair (.int .i64) (.unit)))) (.unit)), .bool] [.cell 2 91, .tmp 3] 11 b_i_NewConsole args [] fun r' _ => r' = r) : orc.pc 66 args r :=
  pureC_of (envOk b) (orcOk b) Try.func66 (by rfl) rfl (by rfl) (by rfl) h1 (Nat.le_of_ble_eq_true h2) h3
/-- laws.eqConsole -/
def n_l_eqConsole : Nat := 67
noncomputable def b_l_eqConsole : Code := (Try.f67.body).getD .skip
def k_l_eqConsole : Nat → List Nat := fun n => lookN n []
theorem p_l_eqConsole {args : List AV} {r : Pk} (b : Bool) (h1 : args.all AV.isD = true) (h2 : Nat.ble args.length 17 = true) (h3 : evFun (env b) orc k_l_eqConsole [.bool] [.tmp 4] 17 b_l_eqConsole args [] fun r' _ => r' = r) : orc.pc 67 args r :=
  pureC_of (envOk b) (orcOk b) Try.func67 (by rfl) rfl (by rfl) (by rfl) h1 (Nat.le_of_ble_eq_true h2) h3
/-- laws.markConsole -/
def n_l_markConsole : Nat := 68
noncomputable def b_l_markConsole : Code := (Try.f68.body).getD .skip
def k_l_markConsole : Nat → List Nat := fun n => lookN n []
theorem p_l_markConsole {vs : List AV} {st : St} {r : AV} {st2 : St} (b : Bool) (hst : 0 < st.length) (h1 : vs.all (fun v => !v.isBad) = true) (h2 : Nat.ble vs.length 10 = true) (h3 : evInl (env b) orc k_l_markConsole [.int .i64] [.tmp 4] 10 b_l_markConsole (vs.map AV.inner) st fun r' st' => r' = r ∧ st' = st2) : orc.ic 68 vs st r st2 :=
  inlC_of (envOk b) (orcOk b) Try.func68 (by rfl) rfl (by rfl) (by rfl) hst h1 (Nat.le_of_ble_eq_true h2) h3
/-- laws.heldConsole -/
def n_l_heldConsole : Nat := 69
noncomputable def b_l_heldConsole : Code := (Try.f69.body).getD .skip
def k_l_heldConsole : Nat → List Nat := fun n => lookN n []
theorem p_l_heldConsole {args : List AV} {r : Pk} (b : Bool) (h1 : args.all AV.isD = true) (h2 : Nat.ble args.length 12 = true) (h3 : evFun (env b) orc k_l_heldConsole [.int .i64] [.tmp 4] 12 b_l_heldConsole args [] fun r' _ => r' = r) : orc.pc 69 args r :=
  pureC_of (envOk b) (orcOk b) Try.func69 (by rfl) rfl (by rfl) (by rfl) h1 (Nat.le_of_ble_eq_true h2) h3
/-- laws.szPlane -/
def n_l_szPlane : Nat := 70
noncomputable def b_l_szPlane : Code := (Try.f70.body).getD .skip
def k_l_szPlane : Nat → List Nat := fun n => lookN n []
theorem p_l_szPlane {args : List AV} {r : Pk} (b : Bool) (h1 : args.all AV.isD = true) (h2 : Nat.ble args.length 12 = true) (h3 : evFun (env b) orc k_l_szPlane [.int .i64] [.tmp 4] 12 b_l_szPlane args [] fun r' _ => r' = r) : orc.pc 70 args r :=
  pureC_of (envOk b) (orcOk b) Try.func70 (by rfl) rfl (by rfl) (by rfl) h1 (Nat.le_of_ble_eq_true h2) h3
/-- spec.l12Good -/
def n_s_l12Good : Nat := 71
noncomputable def b_s_l12Good : Code := (Try.f71.body).getD .skip
def k_s_l12Good : Nat → List Nat := fun n => lookN n []
theorem p_s_l12Good {args : List AV} {r : Pk} (b : Bool) (h1 : args.all AV.isD = true) (h2 : Nat.ble args.length 18 = true) (h3 : evFun (env b) orc k_s_l12Good [.bool] [.tmp 2] 18 b_s_l12Good args [] fun r' _ => r' = r) : orc.pc 71 args r :=
  pureC_of (envOk b) (orcOk b) Try.func71 (by rfl) rfl (by rfl) (by rfl) h1 (Nat.le_of_ble_eq_true h2) h3
/-- spec.l12Numbers -/
def n_s_l12Numbers : Nat := 72
noncomputable def b_s_l12Numbers : Code := (Try.f72.body).getD .skip
def k_s_l12Numbers : Nat → List Nat := fun n => lookN n []
theorem p_s_l12Numbers {args : List AV} {r : Pk} (b : Bool) (h1 : args.all AV.isD = true) (h2 : Nat.ble args.length 12 = true) (h3 : evFun (env b) orc k_s_l12Numbers [.sl (.int .i64)] [.tmp 2] 12 b_s_l12Numbers args [] fun r' _ => r' = r) : orc.pc 72 args r :=
  pureC_of (envOk b) (orcOk b) Try.func72 (by rfl) rfl (by rfl) (by rfl) h1 (Nat.le_of_ble_eq_true h2) h3
/-- laws.toPlane -/
def n_l_toPlane : Nat := 73
noncomputable def b_l_toPlane : Code := (Try.f73.body).getD .skip
def k_l_toPlane : Nat → List Nat := fun n => lookN n []
theorem p_l_toPlane {args : List AV} {r : Pk} (b : Bool) (h1 : args.all AV.isD = true) (h2 : Nat.ble args.length 12 = true) (h3 : evFun (env b) orc k_l_toPlane [.pair (.sl (.int .i64)) (.pair (.int .i64) (.unit))] [.cell 2 34] 12 b_l_toPlane args [] fun r' _ => r' = r) : orc.pc 73 args r :=
  pureC_of (envOk b) (orcOk b) Try.func73 (by rfl) rfl (by rfl) (by rfl) h1 (Nat.le_of_ble_eq_true h2) h3
/-- impl.IsSchool -/
def n_i_IsSchool : Nat := 74
noncomputable def b_i_IsSchool : Code := (Try.f74.body).getD .skip
def k_i_IsSchool : Nat → List Nat := fun n => lookN n []
theorem p_i_IsSchool {args : List AV} {r : Pk} (b : Bool) (h1 : args.all AV.isD = true) (h2 : Nat.ble args.length 18 = true) (h3 : evFun (env b) orc k_i_IsSchool [.bool] [.tmp 2] 18 b_i_IsSchool args [] fun r' _ => r' = r) : orc.pc 74 args r :=
  pureC_of (envOk b) (orcOk b) Try.func74 (by rfl) rfl (by rfl) (by rfl) h1 (Nat.le_of_ble_eq_true h2) h3
/-- impl.copied -/
def n_i_copied : Nat := 75
noncomputable def b_i_copied : Code := (Try.f75.body).getD .skip
def k_i_copied : Nat → List Nat := fun n => lookN n []
theorem p_i_copied {args : List AV} {r : Pk} (b : Bool) (h1 : args.all AV.isD = true) (h2 : Nat.ble args.length 6 = true) (h3 : evFun (env b) orc k_i_copied [.sl (.int .i64)] [.tmp 2] 6 b_i_copied args [] fun r' _ => r' = r) : orc.pc 75 args r :=
  pureC_of (envOk b) (orcOk b) Try.func75 (by rfl) rfl (by rfl) (by rfl) h1 (Nat.le_of_ble_eq_true h2) h3
/-- laws.szIntSS -/
def n_l_szIntSS : Nat := 76
noncomputable def b_l_szIntSS : Code := (Try.f76.body).getD .skip
def k_l_szIntSS : Nat → List Nat := fun n => lookN n [(5, [0, 1, 5])]
theorem p_l_szIntSS {args : List AV} {r : Pk} (b : Bool) (h1 : args.all AV.isD = true) (h2 : Nat.ble args.length 27 = true) (h3 : evFun (env b) orc k_l_szIntSS [.int .i64] [.tmp 4] 27 b_l_szIntSS args [] fun r' _ => r' = r) : orc.pc 76 args r :=
  pureC_of (envOk b) (orcOk b) Try.func76 (by rfl) rfl (by rfl) (by rfl) h1 (Nat.le_of_ble_eq_true h2) h3
/-- laws.szIntS -/
def n_l_szIntS : Nat := 77
noncomputable def b_l_szIntS : Code := (Try.f77.body).getD .skip
def k_l_szIntS : Nat → List Nat := fun n => lookN n []
theorem p_l_szIntS {args : List AV} {r : Pk} (b : Bool) (h1 : args.all AV.isD = true) (h2 : Nat.ble args.length 12 = true) (h3 : evFun (env b) orc k_l_szIntS [.int .i64] [.tmp 4] 12 b_l_szIntS args [] fun r' _ => r' = r) : orc.pc 77 args r :=
  pureC_of (envOk b) (orcOk b) Try.func77 (by rfl) rfl (by rfl) (by rfl) h1 (Nat.le_of_ble_eq_true h2) h3
/-- spec.l11Panel -/
def n_s_l11Panel : Nat := 78
noncomputable def b_s_l11Panel : Code := (Try.f78.body).getD .skip
def k_s_l11Panel : Nat → List Nat := fun n => lookN n [(2, [0, 1, 3])]
theorem p_s_l11Panel {args : List AV} {r : Pk} (b : Bool) (h1 : args.all AV.isD = true) (h2 : Nat.ble args.length 36 = true) (h3 : evFun (env b) orc k_s_l11Panel [.bool] [.tmp 2] 36 b_s_l11Panel args [] fun r' _ => r' = r) : orc.pc 78 args r :=
  pureC_of (envOk b) (orcOk b) Try.func78 (by rfl) rfl (by rfl) (by rfl) h1 (Nat.le_of_ble_eq_true h2) h3
/-- spec.l1In -/
def n_s_l1In : Nat := 79
noncomputable def b_s_l1In : Code := (Try.f79.body).getD .skip
def k_s_l1In : Nat → List Nat := fun n => lookN n []
theorem p_s_l1In {args : List AV} {r : Pk} (b : Bool) (h1 : args.all AV.isD = true) (h2 : Nat.ble args.length 15 = true) (h3 : evFun (env b) orc k_s_l1In [.bool] [.tmp 6] 15 b_s_l1In args [] fun r' _ => r' = r) : orc.pc 79 args r :=
  pureC_of (envOk b) (orcOk b) Try.func79 (by rfl) rfl (by rfl) (by rfl) h1 (Nat.le_of_ble_eq_true h2) h3
/-- spec.l11Switch -/
def n_s_l11Switch : Nat := 80
noncomputable def b_s_l11Switch : Code := (Try.f80.body).getD .skip
def k_s_l11Switch : Nat → List Nat := fun n => lookN n [(15, [0, 1, 2, 4, 5, 6, 7, 8, 9, 10, 11, 12, 13]), (11, [0, 1, 2, 4, 5, 6, 7, 8, 9, 10, 11]), (7, [0, 1, 2, 4, 5, 6, 7, 8, 9]), (4, [0, 1, 2, 4, 5, 6, 7, 8])]
theorem p_s_l11Switch {args : List AV} {r : Pk} (b : Bool) (h1 : args.all AV.isD = true) (h2 : Nat.ble args.length 111 = true) (h3 : evFun (env b) orc k_s_l11Switch [.sl (.sl (.sl (.int .i64)))] [.tmp 4] 111 b_s_l11Switch args [] fun r' _ => r' = r) : orc.pc 80 args r :=
  pureC_of (envOk b) (orcOk b) Try.func80 (by rfl) rfl (by rfl) (by rfl) h1 (Nat.le_of_ble_eq_true h2) h3
/-- spec.l11Begin -/
def n_s_l11Begin : Nat := 81
noncomputable def b_s_l11Begin : Code := (Try.f81.body).getD .skip
def k_s_l11Begin : Nat → List Nat := fun n => lookN n [(3, [0, 1, 4, 5, 6])]
theorem p_s_l11Begin {args : List AV} {r : Pk} (b : Bool) (h1 : args.all AV.isD = true) (h2 : Nat.ble args.length 29 = true) (h3 : evFun (env b) orc k_s_l11Begin [.int .i64] [.tmp 4] 29 b_s_l11Begin args [] fun r' _ => r' = r) : orc.pc 81 args r :=
  pureC_of (envOk b) (orcOk b) Try.func81 (by rfl) rfl (by rfl) (by rfl) h1 (Nat.le_of_ble_eq_true h2) h3
/-- spec.l11Wrong -/
def n_s_l11Wrong : Nat := 82
noncomputable def b_s_l11Wrong : Code := (Try.f82.body).getD .skip
def k_s_l11Wrong : Nat → List Nat := fun n => lookN n []
theorem p_s_l11Wrong {args : List AV} {r : Pk} (b : Bool) (h1 : args.all AV.isD = true) (h2 : Nat.ble args.length 12 = true) (h3 : evFun (env b) orc k_s_l11Wrong [.bool] [.tmp 4] 12 b_s_l11Wrong args [] fun r' _ => r' = r) : orc.pc 82 args r :=
  pureC_of (envOk b) (orcOk b) Try.func82 (by rfl) rfl (by rfl) (by rfl) h1 (Nat.le_of_ble_eq_true h2) h3
/-- laws.toIntSS -/
def n_l_toIntSS : Nat := 83
noncomputable def b_l_toIntSS : Code := (Try.f83.body).getD .skip
def k_l_toIntSS : Nat → List Nat := fun n => lookN n [(3, [0, 2, 3, 4])]
theorem p_l_toIntSS {args : List AV} {r : Pk} (b : Bool) (h1 : args.all AV.isD = true) (h2 : Nat.ble args.length 23 = true) (h3 : evFun (env b) orc k_l_toIntSS [.sl (.sl (.int .i64))] [.tmp 2] 23 b_l_toIntSS args [] fun r' _ => r' = r) : orc.pc 83 args r :=
  pureC_of (envOk b) (orcOk b) Try.func83 (by rfl) rfl (by rfl) (by rfl) h1 (Nat.le_of_ble_eq_true h2) h3
/-- laws.toIntS -/
def n_l_toIntS : Nat := 84
noncomputable def b_l_toIntS : Code := (Try.f84.body).getD .skip
def k_l_toIntS : Nat → List Nat := fun n => lookN n [(3, [0, 2, 3, 4])]
theorem p_l_toIntS {args : List AV} {r : Pk} (b : Bool) (h1 : args.all AV.isD = true) (h2 : Nat.ble args.length 22 = true) (h3 : evFun (env b) orc k_l_toIntS [.sl (.int .i64)] [.tmp 2] 22 b_l_toIntS args [] fun r' _ => r' = r) : orc.pc 84 args r :=
  pureC_of (envOk b) (orcOk b) Try.func84 (by rfl) rfl (by rfl) (by rfl) h1 (Nat.le_of_ble_eq_true h2) h3
/-- impl.IsPanel -/
def n_i_IsPanel : Nat := 85
noncomputable def b_i_IsPanel : Code := (Try.f85.body).getD .skip
def k_i_IsPanel : Nat → List Nat := fun n => lookN n [(4, [0, 1, 23, 24, 25])]
theorem p_i_IsPanel {args : List AV} {r : Pk} (b : Bool) (h1 : args.all AV.isD = true) (h2 : Nat.ble args.length 41 = true) (h3 : evFun (env b) orc k_i_IsPanel [.bool] [.tmp 2] 41 b_i_IsPanel args [] fun r' _ => r' = r) : orc.pc 85 args r :=
  pureC_of (envOk b) (orcOk b) Try.func85 (by rfl) rfl (by rfl) (by rfl) h1 (Nat.le_of_ble_eq_true h2) h3
/-- impl.within -/
def n_i_within : Nat := 86
noncomputable def b_i_within : Code := (Try.f86.body).getD .skip
def k_i_within : Nat → List Nat := fun n => lookN n []
theorem p_i_within {args : List AV} {r : Pk} (b : Bool) (h1 : args.all AV.isD = true) (h2 : Nat.ble args.length 15 = true) (h3 : evFun (env b) orc k_i_within [.bool] [.tmp 6] 15 b_i_within args [] fun r' _ => r' = r) : orc.pc 86 args r :=
  pureC_of (envOk b) (orcOk b) Try.func86 (by rfl) rfl (by rfl) (by rfl) h1 (Nat.le_of_ble_eq_true h2) h3
/-- (impl.Panel).switches -/
def n_i_Panel_switches : Nat := 87
noncomputable def b_i_Panel_switches : Code := (Try.f87.body).getD .skip
def k_i_Panel_switches : Nat → List Nat := fun n => lookN n [(11, [0, 1, 2, 4, 5, 6, 7, 8, 9, 10, 27, 28, 34, 35]), (7, [0, 1, 2, 4, 5, 6, 7, 8, 27, 28]), (4, [0, 1, 2, 4, 5, 6, 7, 8])]
theorem p_i_Panel_switches {args : List AV} {r : Pk} (b : Bool) (h1 : args.all AV.isD = true) (h2 : Nat.ble args.length 98 = true) (h3 : evFun (env b) orc k_i_Panel_switches [.sl (.sl (.sl (.int .i64)))] [.tmp 4] 98 b_i_Panel_switches args [] fun r' _ => r' = r) : orc.pc 87 args r :=
  pureC_of (envOk b) (orcOk b) Try.func87 (by rfl) rfl (by rfl) (by rfl) h1 (Nat.le_of_ble_eq_true h2) h3
/-- slices.Min[[]int,int] -/
def n_slices_Min : Nat := 88
noncomputable def b_slices_Min : Code := (Try.f88.body).getD .skip
def k_slices_Min : Nat → List Nat := fun n => lookN n [(5, [0, 2, 3, 4])]
theorem x_slices_Min : ∃ fn, Try.prog.funcs[88]? = some fn ∧ (fn.name == "runtime.NumGoroutine") = false ∧ fn.body.isNone = false := ⟨_, Try.func88, by rfl, by rfl⟩
theorem p_slices_Min {args : List AV} {r : Pk} (b : Bool) (h1 : args.all AV.isD = true) (h2 : Nat.ble args.length 25 = true) (h3 : evFun (env b) orc k_slices_Min [.int .i64] [.tmp 2] 25 b_slices_Min args [] fun r' _ => r' = r) : orc.pc 88 args r :=
  pureC_of (envOk b) (orcOk b) Try.func88 (by rfl) rfl (by rfl) (by rfl) h1 (Nat.le_of_ble_eq_true h2) h3
/-- (impl.Panel).wrong -/
def n_i_Panel_wrong : Nat := 89
noncomputable def b_i_Panel_wrong : Code := (Try.f89.body).getD .skip
def k_i_Panel_wrong : Nat → List Nat := fun n => lookN n []
theorem p_i_Panel_wrong {args : List AV} {r : Pk} (b : Bool) (h1 : args.all AV.isD = true) (h2 : Nat.ble args.length 22 = true) (h3 : evFun (env b) orc k_i_Panel_wrong [.bool] [.tmp 6] 22 b_i_Panel_wrong args [] fun r' _ => r' = r) : orc.pc 89 args r :=
  pureC_of (envOk b) (orcOk b) Try.func89 (by rfl) rfl (by rfl) (by rfl) h1 (Nat.le_of_ble_eq_true h2) h3
/-- laws.eqIntSS -/
def n_l_eqIntSS : Nat := 90
noncomputable def b_l_eqIntSS : Code := (Try.f90.body).getD .skip
def k_l_eqIntSS : Nat → List Nat := fun n => lookN n [(4, [0, 1, 5])]
theorem p_l_eqIntSS {args : List AV} {r : Pk} (b : Bool) (h1 : args.all AV.isD = true) (h2 : Nat.ble args.length 27 = true) (h3 : evFun (env b) orc k_l_eqIntSS [.bool] [.tmp 4] 27 b_l_eqIntSS args [] fun r' _ => r' = r) : orc.pc 90 args r :=
  pureC_of (envOk b) (orcOk b) Try.func90 (by rfl) rfl (by rfl) (by rfl) h1 (Nat.le_of_ble_eq_true h2) h3
/-- laws.markIntSS -/
def n_l_markIntSS : Nat := 91
noncomputable def b_l_markIntSS : Code := (Try.f91.body).getD .skip
def k_l_markIntSS : Nat → List Nat := fun n => lookN n [(2, [0, 1, 4, 5])]
theorem p_l_markIntSS {vs : List AV} {st : St} {r : AV} {st2 : St} (b : Bool) (hst : 0 < st.length) (h1 : vs.all (fun v => !v.isBad) = true) (h2 : Nat.ble vs.length 19 = true) (h3 : evInl (env b) orc k_l_markIntSS [.int .i64] [.tmp 4] 19 b_l_markIntSS (vs.map AV.inner) st fun r' st' => r' = r ∧ st' = st2) : orc.ic 91 vs st r st2 :=
  inlC_of (envOk b) (orcOk b) Try.func91 (by rfl) rfl (by rfl) (by rfl) hst h1 (Nat.le_of_ble_eq_true h2) h3
/-- spec.l3Made -/
def n_s_l3Made : Nat := 92
noncomputable def b_s_l3Made : Code := (Try.f92.body).getD .skip
def k_s_l3Made : Nat → List Nat := fun n => lookN n [(9, [0, 1, 2, 4, 6, 7, 8, 9]), (5, [0, 1, 2, 4, 6, 7]), (1000011, [1010])]
theorem p_s_l3Made {args : List AV} {r : Pk} (b : Bool) (h1 : args.all AV.isD = true) (h2 : Nat.ble args.length 100 = true) (h3 : evFun (env b) orc k_s_l3Made [.pair (.sl (.pair (.sl (.int .i64)) (.pair (.int .i64) (.unit)))) (.pair (.sl (.int .i64)) (.pair (.sl (.int .i64)) (.unit))), .bool] [.cell 4 113, .tmp 5] 100 b_s_l3Made args [] fun r' _ => r' = r) : orc.pc 92 args r :=
  pureC_of (envOk b) (orcOk b) Try.func92 (by rfl) rfl (by rfl) (by rfl) h1 (Nat.le_of_ble_eq_true h2) h3
/-- impl.runOf -/
def n_i_runOf : Nat := 93
noncomputable def b_i_runOf : Code := (Try.f93.body).getD .skip
def k_i_runOf : Nat → List Nat := fun n => lookN n [(9, [0, 1, 2, 4, 6, 7, 8, 38, 39, 42, 43, 44]), (6, [0, 1, 2, 4, 6, 7, 38, 39]), (1000003, [1006]), (1000011, [1011])]
theorem p_i_runOf {args : List AV} {r : Pk} (b : Bool) (h1 : args.all AV.isD = true) (h2 : Nat.ble args.length 91 = true) (h3 : evFun (env b) orc k_i_runOf [.pair (.sl (.pair (.sl (.int .i64)) (.pair (.int .i64) (.unit)))) (.pair (.sl (.int .i64)) (.pair (.sl (.int .i64)) (.unit))), .bool] [.cell 4 117, .tmp 5] 91 b_i_runOf args [] fun r' _ => r' = r) : orc.pc 93 args r :=
  pureC_of (envOk b) (orcOk b) Try.func93 (by rfl) rfl (by rfl) (by rfl) h1 (Nat.le_of_ble_eq_true h2) h3
/-- laws.szPlaneSS -/
def n_l_szPlaneSS : Nat := 94
noncomputable def b_l_szPlaneSS : Code := (Try.f94.body).getD .skip
def k_l_szPlaneSS : Nat → List Nat := fun n => lookN n [(5, [0, 1, 5])]
theorem p_l_szPlaneSS {args : List AV} {r : Pk} (b : Bool) (h1 : args.all AV.isD = true) (h2 : Nat.ble args.length 27 = true) (h3 : evFun (env b) orc k_l_szPlaneSS [.int .i64] [.tmp 4] 27 b_l_szPlaneSS args [] fun r' _ => r' = r) : orc.pc 94 args r :=
  pureC_of (envOk b) (orcOk b) Try.func94 (by rfl) rfl (by rfl) (by rfl) h1 (Nat.le_of_ble_eq_true h2) h3
/-- spec.l9Good -/
def n_s_l9Good : Nat := 95
noncomputable def b_s_l9Good : Code := (Try.f95.body).getD .skip
def k_s_l9Good : Nat → List Nat := fun n => lookN n [(8, [0, 1, 3, 4, 5]), (5, [0, 1, 3, 4])]
theorem p_s_l9Good {args : List AV} {r : Pk} (b : Bool) (h1 : args.all AV.isD = true) (h2 : Nat.ble args.length 69 = true) (h3 : evFun (env b) orc k_s_l9Good [.bool] [.tmp 2] 69 b_s_l9Good args [] fun r' _ => r' = r) : orc.pc 95 args r :=
  pureC_of (envOk b) (orcOk b) Try.func95 (by rfl) rfl (by rfl) (by rfl) h1 (Nat.le_of_ble_eq_true h2) h3
/-- spec.l9Own -/
def n_s_l9Own : Nat := 96
noncomputable def b_s_l9Own : Code := (Try.f96.body).getD .skip
def k_s_l9Own : Nat → List Nat := fun n => lookN n [(7, [0, 1, 2, 3, 4, 5, 6]), (3, [0, 1, 2, 3, 4])]
theorem p_s_l9Own {args : List AV} {r : Pk} (b : Bool) (h1 : args.all AV.isD = true) (h2 : Nat.ble args.length 59 = true) (h3 : evFun (env b) orc k_s_l9Own [.pair (.int .i64) (.pair (.sl (.sl (.pair (.sl (.int .i64)) (.pair (.int .i64) (.unit))))) (.unit))] [.cell 2 64] 59 b_s_l9Own args [] fun r' _ => r' = r) : orc.pc 96 args r :=
  pureC_of (envOk b) (orcOk b) Try.func96 (by rfl) rfl (by rfl) (by rfl) h1 (Nat.le_of_ble_eq_true h2) h3
/-- laws.toPlaneSS -/
def n_l_toPlaneSS : Nat := 97
noncomputable def b_l_toPlaneSS : Code := (Try.f97.body).getD .skip
def k_l_toPlaneSS : Nat → List Nat := fun n => lookN n [(3, [0, 2, 3, 4])]
theorem p_l_toPlaneSS {args : List AV} {r : Pk} (b : Bool) (h1 : args.all AV.isD = true) (h2 : Nat.ble args.length 23 = true) (h3 : evFun (env b) orc k_l_toPlaneSS [.sl (.sl (.pair (.sl (.int .i64)) (.pair (.int .i64) (.unit))))] [.tmp 2] 23 b_l_toPlaneSS args [] fun r' _ => r' = r) : orc.pc 97 args r :=
  pureC_of (envOk b) (orcOk b) Try.func97 (by rfl) rfl (by rfl) (by rfl) h1 (Nat.le_of_ble_eq_true h2) h3
/-- impl.IsNet -/
def n_i_IsNet : Nat := 98
noncomputable def b_i_IsNet : Code := (Try.f98.body).getD .skip
def k_i_IsNet : Nat → List Nat := fun n => lookN n [(10, [0, 1, 3, 5, 22, 23, 24, 32, 33, 34]), (5, [0, 1, 3, 22, 23, 24])]
theorem p_i_IsNet {args : List AV} {r : Pk} (b : Bool) (h1 : args.all AV.isD = true) (h2 : Nat.ble args.length 52 = true) (h3 : evFun (env b) orc k_i_IsNet [.bool] [.tmp 2] 52 b_i_IsNet args [] fun r' _ => r' = r) : orc.pc 98 args r :=
  pureC_of (envOk b) (orcOk b) Try.func98 (by rfl) rfl (by rfl) (by rfl) h1 (Nat.le_of_ble_eq_true h2) h3
/-- (impl.Net).last -/
def n_i_Net_last : Nat := 99
noncomputable def b_i_Net_last : Code := (Try.f99.body).getD .skip
def k_i_Net_last : Nat → List Nat := fun n => lookN n []
theorem p_i_Net_last {args : List AV} {r : Pk} (b : Bool) (h1 : args.all AV.isD = true) (h2 : Nat.ble args.length 11 = true) (h3 : evFun (env b) orc k_i_Net_last [.sl (.pair (.sl (.int .i64)) (.pair (.int .i64) (.unit)))] [.tmp 2] 11 b_i_Net_last args [] fun r' _ => r' = r) : orc.pc 99 args r :=
  pureC_of (envOk b) (orcOk b) Try.func99 (by rfl) rfl (by rfl) (by rfl) h1 (Nat.le_of_ble_eq_true h2) h3
/-- impl.own -/
def n_i_own : Nat := 100
noncomputable def b_i_own : Code := (Try.f100.body).getD .skip
def k_i_own : Nat → List Nat := fun n => lookN n [(3, [0, 2, 3, 7, 8, 9])]
theorem p_i_own {args : List AV} {r : Pk} (b : Bool) (h1 : args.all AV.isD = true) (h2 : Nat.ble args.length 24 = true) (h3 : evFun (env b) orc k_i_own [.sl (.pair (.sl (.int .i64)) (.pair (.int .i64) (.unit)))] [.tmp 2] 24 b_i_own args [] fun r' _ => r' = r) : orc.pc 100 args r :=
  pureC_of (envOk b) (orcOk b) Try.func100 (by rfl) rfl (by rfl) (by rfl) h1 (Nat.le_of_ble_eq_true h2) h3
/-- laws.eqPlaneSS -/
def n_l_eqPlaneSS : Nat := 101
noncomputable def b_l_eqPlaneSS : Code := (Try.f101.body).getD .skip
def k_l_eqPlaneSS : Nat → List Nat := fun n => lookN n [(4, [0, 1, 5])]
theorem p_l_eqPlaneSS {args : List AV} {r : Pk} (b : Bool) (h1 : args.all AV.isD = true) (h2 : Nat.ble args.length 27 = true) (h3 : evFun (env b) orc k_l_eqPlaneSS [.bool] [.tmp 4] 27 b_l_eqPlaneSS args [] fun r' _ => r' = r) : orc.pc 101 args r :=
  pureC_of (envOk b) (orcOk b) Try.func101 (by rfl) rfl (by rfl) (by rfl) h1 (Nat.le_of_ble_eq_true h2) h3
/-- laws.markPlaneSS -/
def n_l_markPlaneSS : Nat := 102
noncomputable def b_l_markPlaneSS : Code := (Try.f102.body).getD .skip
def k_l_markPlaneSS : Nat → List Nat := fun n => lookN n [(2, [0, 1, 4, 5])]
theorem p_l_markPlaneSS {vs : List AV} {st : St} {r : AV} {st2 : St} (b : Bool) (hst : 0 < st.length) (h1 : vs.all (fun v => !v.isBad) = true) (h2 : Nat.ble vs.length 19 = true) (h3 : evInl (env b) orc k_l_markPlaneSS [.int .i64] [.tmp 4] 19 b_l_markPlaneSS (vs.map AV.inner) st fun r' st' => r' = r ∧ st' = st2) : orc.ic 102 vs st r st2 :=
  inlC_of (envOk b) (orcOk b) Try.func102 (by rfl) rfl (by rfl) (by rfl) hst h1 (Nat.le_of_ble_eq_true h2) h3
/-- laws.heldPlaneSS -/
def n_l_heldPlaneSS : Nat := 103
noncomputable def b_l_heldPlaneSS : Code := (Try.f103.body).getD .skip
def k_l_heldPlaneSS : Nat → List Nat := fun n => lookN n [(2, [0, 1, 5])]
theorem p_l_heldPlaneSS {args : List AV} {r : Pk} (b : Bool) (h1 : args.all AV.isD = true) (h2 : Nat.ble args.length 21 = true) (h3 : evFun (env b) orc k_l_heldPlaneSS [.int .i64] [.tmp 4] 21 b_l_heldPlaneSS args [] fun r' _ => r' = r) : orc.pc 103 args r :=
  pureC_of (envOk b) (orcOk b) Try.func103 (by rfl) rfl (by rfl) (by rfl) h1 (Nat.le_of_ble_eq_true h2) h3
/-- spec.l9Wide -/
def n_s_l9Wide : Nat := 104
noncomputable def b_s_l9Wide : Code := (Try.f104.body).getD .skip
def k_s_l9Wide : Nat → List Nat := fun n => lookN n [(3, [0, 1, 2, 6, 7, 8])]
theorem p_s_l9Wide {args : List AV} {r : Pk} (b : Bool) (h1 : args.all AV.isD = true) (h2 : Nat.ble args.length 38 = true) (h3 : evFun (env b) orc k_s_l9Wide [.sl (.pair (.sl (.int .i64)) (.pair (.int .i64) (.unit)))] [.tmp 6] 38 b_s_l9Wide args [] fun r' _ => r' = r) : orc.pc 104 args r :=
  pureC_of (envOk b) (orcOk b) Try.func104 (by rfl) rfl (by rfl) (by rfl) h1 (Nat.le_of_ble_eq_true h2) h3
/-- spec.l12Table -/
def n_s_l12Table : Nat := 105
noncomputable def b_s_l12Table : Code := (Try.f105.body).getD .skip
def k_s_l12Table : Nat → List Nat := fun n => lookN n []
theorem p_s_l12Table {args : List AV} {r : Pk} (b : Bool) (h1 : args.all AV.isD = true) (h2 : Nat.ble args.length 10 = true) (h3 : evFun (env b) orc k_s_l12Table [.sl (.int .i64)] [.tmp 2] 10 b_s_l12Table args [] fun r' _ => r' = r) : orc.pc 105 args r :=
  pureC_of (envOk b) (orcOk b) Try.func105 (by rfl) rfl (by rfl) (by rfl) h1 (Nat.le_of_ble_eq_true h2) h3
/-- (impl.Plane).table -/
def n_i_Plane_table : Nat := 106
noncomputable def b_i_Plane_table : Code := (Try.f106.body).getD .skip
def k_i_Plane_table : Nat → List Nat := fun n => lookN n [(3, [0, 1, 2, 3, 4, 11, 12])]
theorem p_i_Plane_table {args : List AV} {r : Pk} (b : Bool) (h1 : args.all AV.isD = true) (h2 : Nat.ble args.length 27 = true) (h3 : evFun (env b) orc k_i_Plane_table [.sl (.int .i64)] [.tmp 2] 27 b_i_Plane_table args [] fun r' _ => r' = r) : orc.pc 106 args r :=
  pureC_of (envOk b) (orcOk b) Try.func106 (by rfl) rfl (by rfl) (by rfl) h1 (Nat.le_of_ble_eq_true h2) h3
/-- spec.l2Mistakes -/
def n_s_l2Mistakes : Nat := 107
noncomputable def b_s_l2Mistakes : Code := (Try.f107.body).getD .skip
def k_s_l2Mistakes : Nat → List Nat := fun n => lookN n [(3, [0, 1, 2, 3, 4, 5, 6])]
theorem p_s_l2Mistakes {args : List AV} {r : Pk} (b : Bool) (h1 : args.all AV.isD = true) (h2 : Nat.ble args.length 33 = true) (h3 : evFun (env b) orc k_s_l2Mistakes [.sl (.int .i64)] [.tmp 4] 33 b_s_l2Mistakes args [] fun r' _ => r' = r) : orc.pc 107 args r :=
  pureC_of (envOk b) (orcOk b) Try.func107 (by rfl) rfl (by rfl) (by rfl) h1 (Nat.le_of_ble_eq_true h2) h3
/-- (impl.Plane).mistakes -/
def n_i_Plane_mistakes : Nat := 108
noncomputable def b_i_Plane_mistakes : Code := (Try.f108.body).getD .skip
def k_i_Plane_mistakes : Nat → List Nat := fun n => lookN n [(3, [0, 1, 2, 3, 4, 5, 10, 11, 12])]
theorem p_i_Plane_mistakes {args : List AV} {r : Pk} (b : Bool) (h1 : args.all AV.isD = true) (h2 : Nat.ble args.length 32 = true) (h3 : evFun (env b) orc k_i_Plane_mistakes [.sl (.int .i64)] [.tmp 4] 32 b_i_Plane_mistakes args [] fun r' _ => r' = r) : orc.pc 108 args r :=
  pureC_of (envOk b) (orcOk b) Try.func108 (by rfl) rfl (by rfl) (by rfl) h1 (Nat.le_of_ble_eq_true h2) h3
/-- spec.TurnPlane -/
def n_s_TurnPlane : Nat := 109
noncomputable def b_s_TurnPlane : Code := (Try.f109.body).getD .skip
def k_s_TurnPlane : Nat → List Nat := fun n => lookN n []
theorem p_s_TurnPlane {args : List AV} {r : Pk} (b : Bool) (h1 : args.all AV.isD = true) (h2 : Nat.ble args.length 18 = true) (h3 : evFun (env b) orc k_s_TurnPlane [.pair (.sl (.int .i64)) (.pair (.int .i64) (.unit)), .bool] [.cell 2 34, .tmp 3] 18 b_s_TurnPlane args [] fun r' _ => r' = r) : orc.pc 109 args r :=
  pureC_of (envOk b) (orcOk b) Try.func109 (by rfl) rfl (by rfl) (by rfl) h1 (Nat.le_of_ble_eq_true h2) h3
/-- impl.TurnPlane -/
def n_i_TurnPlane : Nat := 110
noncomputable def b_i_TurnPlane : Code := (Try.f110.body).getD .skip
def k_i_TurnPlane : Nat → List Nat := fun n => lookN n [(5, [0, 1, 2, 3, 4, 16, 17, 18])]
theorem p_i_TurnPlane {args : List AV} {r : Pk} (b : Bool) (h1 : args.all AV.isD = true) (h2 : Nat.ble args.length 35 = true) (h3 : evFun (env b) orc k_i_TurnPlane [.pair (.sl (.int .i64)) (.pair (.int .i64) (.unit)), .bool] [.cell 2 34, .tmp 3] 35 b_i_TurnPlane args [] fun r' _ => r' = r) : orc.pc 110 args r :=
  pureC_of (envOk b) (orcOk b) Try.func110 (by rfl) rfl (by rfl) (by rfl) h1 (Nat.le_of_ble_eq_true h2) h3
/-- spec.l8Jury -/
def n_s_l8Jury : Nat := 111
noncomputable def b_s_l8Jury : Code := (Try.f111.body).getD .skip
def k_s_l8Jury : Nat → List Nat := fun n => lookN n [(2, [0, 3])]
theorem p_s_l8Jury {args : List AV} {r : Pk} (b : Bool) (h1 : args.all AV.isD = true) (h2 : Nat.ble args.length 33 = true) (h3 : evFun (env b) orc k_s_l8Jury [.bool] [.tmp 2] 33 b_s_l8Jury args [] fun r' _ => r' = r) : orc.pc 111 args r :=
  pureC_of (envOk b) (orcOk b) Try.func111 (by rfl) rfl (by rfl) (by rfl) h1 (Nat.le_of_ble_eq_true h2) h3
/-- spec.l2Both -/
def n_s_l2Both : Nat := 112
noncomputable def b_s_l2Both : Code := (Try.f112.body).getD .skip
def k_s_l2Both : Nat → List Nat := fun n => lookN n []
theorem p_s_l2Both {args : List AV} {r : Pk} (b : Bool) (h1 : args.all AV.isD = true) (h2 : Nat.ble args.length 28 = true) (h3 : evFun (env b) orc k_s_l2Both [.bool] [.tmp 4] 28 b_s_l2Both args [] fun r' _ => r' = r) : orc.pc 112 args r :=
  pureC_of (envOk b) (orcOk b) Try.func112 (by rfl) rfl (by rfl) (by rfl) h1 (Nat.le_of_ble_eq_true h2) h3
/-- spec.l1Own -/
def n_s_l1Own : Nat := 113
noncomputable def b_s_l1Own : Code := (Try.f113.body).getD .skip
def k_s_l1Own : Nat → List Nat := fun n => lookN n []
theorem p_s_l1Own {args : List AV} {r : Pk} (b : Bool) (h1 : args.all AV.isD = true) (h2 : Nat.ble args.length 6 = true) (h3 : evFun (env b) orc k_s_l1Own [.sl (.int .i64)] [.tmp 2] 6 b_s_l1Own args [] fun r' _ => r' = r) : orc.pc 113 args r :=
  pureC_of (envOk b) (orcOk b) Try.func113 (by rfl) rfl (by rfl) (by rfl) h1 (Nat.le_of_ble_eq_true h2) h3
/-- spec.l2Sides -/
def n_s_l2Sides : Nat := 114
noncomputable def b_s_l2Sides : Code := (Try.f114.body).getD .skip
def k_s_l2Sides : Nat → List Nat := fun n => lookN n [(3, [0, 1, 2, 3, 4, 5, 6])]
theorem p_s_l2Sides {args : List AV} {r : Pk} (b : Bool) (h1 : args.all AV.isD = true) (h2 : Nat.ble args.length 26 = true) (h3 : evFun (env b) orc k_s_l2Sides [.sl (.int .i64)] [.tmp 4] 26 b_s_l2Sides args [] fun r' _ => r' = r) : orc.pc 114 args r :=
  pureC_of (envOk b) (orcOk b) Try.func114 (by rfl) rfl (by rfl) (by rfl) h1 (Nat.le_of_ble_eq_true h2) h3
/-- impl.isJury -/
def n_i_isJury : Nat := 115
noncomputable def b_i_isJury : Code := (Try.f115.body).getD .skip
def k_i_isJury : Nat → List Nat := fun n => lookN n [(2, [0, 5, 6, 7])]
theorem p_i_isJury {args : List AV} {r : Pk} (b : Bool) (h1 : args.all AV.isD = true) (h2 : Nat.ble args.length 29 = true) (h3 : evFun (env b) orc k_i_isJury [.bool] [.tmp 2] 29 b_i_isJury args [] fun r' _ => r' = r) : orc.pc 115 args r :=
  pureC_of (envOk b) (orcOk b) Try.func115 (by rfl) rfl (by rfl) (by rfl) h1 (Nat.le_of_ble_eq_true h2) h3
/-- impl.suits -/
def n_i_suits : Nat := 116
noncomputable def b_i_suits : Code := (Try.f116.body).getD .skip
def k_i_suits : Nat → List Nat := fun n => lookN n []
theorem p_i_suits {args : List AV} {r : Pk} (b : Bool) (h1 : args.all AV.isD = true) (h2 : Nat.ble args.length 28 = true) (h3 : evFun (env b) orc k_i_suits [.bool] [.tmp 4] 28 b_i_suits args [] fun r' _ => r' = r) : orc.pc 116 args r :=
  pureC_of (envOk b) (orcOk b) Try.func116 (by rfl) rfl (by rfl) (by rfl) h1 (Nat.le_of_ble_eq_true h2) h3
/-- impl.SidesOf -/
def n_i_SidesOf : Nat := 117
noncomputable def b_i_SidesOf : Code := (Try.f117.body).getD .skip
def k_i_SidesOf : Nat → List Nat := fun n => lookN n [(5, [0, 1, 2, 3, 4, 5, 6, 15, 16, 17])]
theorem p_i_SidesOf {args : List AV} {r : Pk} (b : Bool) (h1 : args.all AV.isD = true) (h2 : Nat.ble args.length 29 = true) (h3 : evFun (env b) orc k_i_SidesOf [.sl (.int .i64), .bool] [.tmp 4, .tmp 5] 29 b_i_SidesOf args [] fun r' _ => r' = r) : orc.pc 117 args r :=
  pureC_of (envOk b) (orcOk b) Try.func117 (by rfl) rfl (by rfl) (by rfl) h1 (Nat.le_of_ble_eq_true h2) h3
/-- laws.heldIntSS -/
def n_l_heldIntSS : Nat := 118
noncomputable def b_l_heldIntSS : Code := (Try.f118.body).getD .skip
def k_l_heldIntSS : Nat → List Nat := fun n => lookN n [(2, [0, 1, 5])]
theorem p_l_heldIntSS {args : List AV} {r : Pk} (b : Bool) (h1 : args.all AV.isD = true) (h2 : Nat.ble args.length 21 = true) (h3 : evFun (env b) orc k_l_heldIntSS [.int .i64] [.tmp 4] 21 b_l_heldIntSS args [] fun r' _ => r' = r) : orc.pc 118 args r :=
  pureC_of (envOk b) (orcOk b) Try.func118 (by rfl) rfl (by rfl) (by rfl) h1 (Nat.le_of_ble_eq_true h2) h3
/-- spec.l12Own -/
def n_s_l12Own : Nat := 119
noncomputable def b_s_l12Own : Code := (Try.f119.body).getD .skip
def k_s_l12Own : Nat → List Nat := fun n => lookN n [(4, [0, 1, 2, 3, 4])]
theorem p_s_l12Own {args : List AV} {r : Pk} (b : Bool) (h1 : args.all AV.isD = true) (h2 : Nat.ble args.length 42 = true) (h3 : evFun (env b) orc k_s_l12Own [.pair (.pair (.sl (.sl (.int .i64))) (.pair (.sl (.int .i64)) (.unit))) (.pair (.pair (.sl (.int .i64)) (.pair (.int .i64) (.unit))) (.pair (.int .i64) (.pair (.int .i64) (.unit))))] [.cell 2 36] 42 b_s_l12Own args [] fun r' _ => r' = r) : orc.pc 119 args r :=
  pureC_of (envOk b) (orcOk b) Try.func119 (by rfl) rfl (by rfl) (by rfl) h1 (Nat.le_of_ble_eq_true h2) h3
/-- (impl.School).own -/
def n_i_School_own : Nat := 120
noncomputable def b_i_School_own : Code := (Try.f120.body).getD .skip
def k_i_School_own : Nat → List Nat := fun n => lookN n []
theorem p_i_School_own {args : List AV} {r : Pk} (b : Bool) (h1 : args.all AV.isD = true) (h2 : Nat.ble args.length 14 = true) (h3 : evFun (env b) orc k_i_School_own [.pair (.pair (.sl (.sl (.int .i64))) (.pair (.sl (.int .i64)) (.unit))) (.pair (.pair (.sl (.int .i64)) (.pair (.int .i64) (.unit))) (.pair (.int .i64) (.pair (.int .i64) (.unit))))] [.cell 2 36] 14 b_i_School_own args [] fun r' _ => r' = r) : orc.pc 120 args r :=
  pureC_of (envOk b) (orcOk b) Try.func120 (by rfl) rfl (by rfl) (by rfl) h1 (Nat.le_of_ble_eq_true h2) h3
/-- laws.eqLog -/
def n_l_eqLog : Nat := 121
noncomputable def b_l_eqLog : Code := (Try.f121.body).getD .skip
def k_l_eqLog : Nat → List Nat := fun n => lookN n []
theorem p_l_eqLog {args : List AV} {r : Pk} (b : Bool) (h1 : args.all AV.isD = true) (h2 : Nat.ble args.length 20 = true) (h3 : evFun (env b) orc k_l_eqLog [.bool] [.tmp 4] 20 b_l_eqLog args [] fun r' _ => r' = r) : orc.pc 121 args r :=
  pureC_of (envOk b) (orcOk b) Try.func121 (by rfl) rfl (by rfl) (by rfl) h1 (Nat.le_of_ble_eq_true h2) h3
/-- laws.heldSchool -/
def n_l_heldSchool : Nat := 122
noncomputable def b_l_heldSchool : Code := (Try.f122.body).getD .skip
def k_l_heldSchool : Nat → List Nat := fun n => lookN n []
theorem p_l_heldSchool {args : List AV} {r : Pk} (b : Bool) (h1 : args.all AV.isD = true) (h2 : Nat.ble args.length 18 = true) (h3 : evFun (env b) orc k_l_heldSchool [.int .i64] [.tmp 4] 18 b_l_heldSchool args [] fun r' _ => r' = r) : orc.pc 122 args r :=
  pureC_of (envOk b) (orcOk b) Try.func122 (by rfl) rfl (by rfl) (by rfl) h1 (Nat.le_of_ble_eq_true h2) h3
/-- spec.l11Says -/
def n_s_l11Says : Nat := 123
noncomputable def b_s_l11Says : Code := (Try.f123.body).getD .skip
def k_s_l11Says : Nat → List Nat := fun n => lookN n [(2, [0, 1, 5])]
theorem p_s_l11Says {args : List AV} {r : Pk} (b : Bool) (h1 : args.all AV.isD = true) (h2 : Nat.ble args.length 22 = true) (h3 : evFun (env b) orc k_s_l11Says [.bool] [.tmp 4] 22 b_s_l11Says args [] fun r' _ => r' = r) : orc.pc 123 args r :=
  pureC_of (envOk b) (orcOk b) Try.func123 (by rfl) rfl (by rfl) (by rfl) h1 (Nat.le_of_ble_eq_true h2) h3
/-- spec.l2Labels -/
def n_s_l2Labels : Nat := 124
noncomputable def b_s_l2Labels : Code := (Try.f124.body).getD .skip
def k_s_l2Labels : Nat → List Nat := fun n => lookN n [(2, [0, 3])]
theorem p_s_l2Labels {args : List AV} {r : Pk} (b : Bool) (h1 : args.all AV.isD = true) (h2 : Nat.ble args.length 22 = true) (h3 : evFun (env b) orc k_s_l2Labels [.bool] [.tmp 2] 22 b_s_l2Labels args [] fun r' _ => r' = r) : orc.pc 124 args r :=
  pureC_of (envOk b) (orcOk b) Try.func124 (by rfl) rfl (by rfl) (by rfl) h1 (Nat.le_of_ble_eq_true h2) h3
/-- spec.l1Least -/
def n_s_l1Least : Nat := 125
noncomputable def b_s_l1Least : Code := (Try.f125.body).getD .skip
def k_s_l1Least : Nat → List Nat := fun n => lookN n []
theorem p_s_l1Least {args : List AV} {r : Pk} (b : Bool) (h1 : args.all AV.isD = true) (h2 : Nat.ble args.length 10 = true) (h3 : evFun (env b) orc k_s_l1Least [.int .i64] [.tmp 4] 10 b_s_l1Least args [] fun r' _ => r' = r) : orc.pc 125 args r :=
  pureC_of (envOk b) (orcOk b) Try.func125 (by rfl) rfl (by rfl) (by rfl) h1 (Nat.le_of_ble_eq_true h2) h3
/-- impl.areLabels -/
def n_i_areLabels : Nat := 126
noncomputable def b_i_areLabels : Code := (Try.f126.body).getD .skip
def k_i_areLabels : Nat → List Nat := fun n => lookN n [(2, [0, 5, 6, 7])]
theorem p_i_areLabels {args : List AV} {r : Pk} (b : Bool) (h1 : args.all AV.isD = true) (h2 : Nat.ble args.length 15 = true) (h3 : evFun (env b) orc k_i_areLabels [.bool] [.tmp 2] 15 b_i_areLabels args [] fun r' _ => r' = r) : orc.pc 126 args r :=
  pureC_of (envOk b) (orcOk b) Try.func126 (by rfl) rfl (by rfl) (by rfl) h1 (Nat.le_of_ble_eq_true h2) h3
/-- impl.allWithin -/
def n_i_allWithin : Nat := 127
noncomputable def b_i_allWithin : Code := (Try.f127.body).getD .skip
def k_i_allWithin : Nat → List Nat := fun n => lookN n [(2, [0, 1, 2, 9, 10, 11])]
theorem p_i_allWithin {args : List AV} {r : Pk} (b : Bool) (h1 : args.all AV.isD = true) (h2 : Nat.ble args.length 21 = true) (h3 : evFun (env b) orc k_i_allWithin [.bool] [.tmp 6] 21 b_i_allWithin args [] fun r' _ => r' = r) : orc.pc 127 args r :=
  pureC_of (envOk b) (orcOk b) Try.func127 (by rfl) rfl (by rfl) (by rfl) h1 (Nat.le_of_ble_eq_true h2) h3
/-- spec.l2Sample -/
def n_s_l2Sample : Nat := 128
noncomputable def b_s_l2Sample : Code := (Try.f128.body).getD .skip
def k_s_l2Sample : Nat → List Nat := fun n => lookN n [(4, [0, 1, 3])]
theorem p_s_l2Sample {args : List AV} {r : Pk} (b : Bool) (h1 : args.all AV.isD = true) (h2 : Nat.ble args.length 51 = true) (h3 : evFun (env b) orc k_s_l2Sample [.bool] [.tmp 2] 51 b_s_l2Sample args [] fun r' _ => r' = r) : orc.pc 128 args r :=
  pureC_of (envOk b) (orcOk b) Try.func128 (by rfl) rfl (by rfl) (by rfl) h1 (Nat.le_of_ble_eq_true h2) h3
/-- spec.l3Step -/
def n_s_l3Step : Nat := 129
noncomputable def b_s_l3Step : Code := (Try.f129.body).getD .skip
def k_s_l3Step : Nat → List Nat := fun n => lookN n [(5, [0, 1, 2, 3, 6, 7, 8, 9])]
theorem p_s_l3Step {args : List AV} {r : Pk} (b : Bool) (h1 : args.all AV.isD = true) (h2 : Nat.ble args.length 47 = true) (h3 : evFun (env b) orc k_s_l3Step [.pair (.sl (.int .i64)) (.pair (.int .i64) (.unit)), .bool] [.cell 6 34, .tmp 7] 47 b_s_l3Step args [] fun r' _ => r' = r) : orc.pc 129 args r :=
  pureC_of (envOk b) (orcOk b) Try.func129 (by rfl) rfl (by rfl) (by rfl) h1 (Nat.le_of_ble_eq_true h2) h3
/-- spec.l2Plane -/
def n_s_l2Plane : Nat := 130
noncomputable def b_s_l2Plane : Code := (Try.f130.body).getD .skip
def k_s_l2Plane : Nat → List Nat := fun n => lookN n []
theorem p_s_l2Plane {args : List AV} {r : Pk} (b : Bool) (h1 : args.all AV.isD = true) (h2 : Nat.ble args.length 17 = true) (h3 : evFun (env b) orc k_s_l2Plane [.bool] [.tmp 2] 17 b_s_l2Plane args [] fun r' _ => r' = r) : orc.pc 130 args r :=
  pureC_of (envOk b) (orcOk b) Try.func130 (by rfl) rfl (by rfl) (by rfl) h1 (Nat.le_of_ble_eq_true h2) h3
/-- impl.IsSample -/
def n_i_IsSample : Nat := 131
noncomputable def b_i_IsSample : Code := (Try.f131.body).getD .skip
def k_i_IsSample : Nat → List Nat := fun n => lookN n [(4, [0, 1, 19, 20, 21])]
theorem p_i_IsSample {args : List AV} {r : Pk} (b : Bool) (h1 : args.all AV.isD = true) (h2 : Nat.ble args.length 49 = true) (h3 : evFun (env b) orc k_i_IsSample [.bool] [.tmp 2] 49 b_i_IsSample args [] fun r' _ => r' = r) : orc.pc 131 args r :=
  pureC_of (envOk b) (orcOk b) Try.func131 (by rfl) rfl (by rfl) (by rfl) h1 (Nat.le_of_ble_eq_true h2) h3
/-- (impl.Plane).step -/
def n_i_Plane_step : Nat := 132
noncomputable def b_i_Plane_step : Code := (Try.f132.body).getD .skip
def k_i_Plane_step : Nat → List Nat := fun n => lookN n [(5, [0, 1, 2, 3, 6, 7, 8, 25, 26, 27])]
theorem p_i_Plane_step {args : List AV} {r : Pk} (b : Bool) (h1 : args.all AV.isD = true) (h2 : Nat.ble args.length 44 = true) (h3 : evFun (env b) orc k_i_Plane_step [.pair (.sl (.int .i64)) (.pair (.int .i64) (.unit)), .bool] [.cell 6 34, .tmp 7] 44 b_i_Plane_step args [] fun r' _ => r' = r) : orc.pc 132 args r :=
  pureC_of (envOk b) (orcOk b) Try.func132 (by rfl) rfl (by rfl) (by rfl) h1 (Nat.le_of_ble_eq_true h2) h3
/-- impl.IsPlane -/
def n_i_IsPlane : Nat := 133
noncomputable def b_i_IsPlane : Code := (Try.f133.body).getD .skip
def k_i_IsPlane : Nat → List Nat := fun n => lookN n []
theorem p_i_IsPlane {args : List AV} {r : Pk} (b : Bool) (h1 : args.all AV.isD = true) (h2 : Nat.ble args.length 17 = true) (h3 : evFun (env b) orc k_i_IsPlane [.bool] [.tmp 2] 17 b_i_IsPlane args [] fun r' _ => r' = r) : orc.pc 133 args r :=
  pureC_of (envOk b) (orcOk b) Try.func133 (by rfl) rfl (by rfl) (by rfl) h1 (Nat.le_of_ble_eq_true h2) h3
/-- laws.heldPlaneS -/
def n_l_heldPlaneS : Nat := 134
noncomputable def b_l_heldPlaneS : Code := (Try.f134.body).getD .skip
def k_l_heldPlaneS : Nat → List Nat := fun n => lookN n [(2, [0, 1, 5])]
theorem p_l_heldPlaneS {args : List AV} {r : Pk} (b : Bool) (h1 : args.all AV.isD = true) (h2 : Nat.ble args.length 31 = true) (h3 : evFun (env b) orc k_l_heldPlaneS [.int .i64] [.tmp 4] 31 b_l_heldPlaneS args [] fun r' _ => r' = r) : orc.pc 134 args r :=
  pureC_of (envOk b) (orcOk b) Try.func134 (by rfl) rfl (by rfl) (by rfl) h1 (Nat.le_of_ble_eq_true h2) h3
/-- spec.l2TableOf -/
def n_s_l2TableOf : Nat := 135
noncomputable def b_s_l2TableOf : Code := (Try.f135.body).getD .skip
def k_s_l2TableOf : Nat → List Nat := fun n => lookN n [(3, [0, 1, 3, 4, 5, 6])]
theorem p_s_l2TableOf {args : List AV} {r : Pk} (b : Bool) (h1 : args.all AV.isD = true) (h2 : Nat.ble args.length 25 = true) (h3 : evFun (env b) orc k_s_l2TableOf [.sl (.int .i64)] [.tmp 4] 25 b_s_l2TableOf args [] fun r' _ => r' = r) : orc.pc 135 args r :=
  pureC_of (envOk b) (orcOk b) Try.func135 (by rfl) rfl (by rfl) (by rfl) h1 (Nat.le_of_ble_eq_true h2) h3
/-- (impl.Plane).side -/
def n_i_Plane_side : Nat := 136
noncomputable def b_i_Plane_side : Code := (Try.f136.body).getD .skip
def k_i_Plane_side : Nat → List Nat := fun n => lookN n []
theorem p_i_Plane_side {args : List AV} {r : Pk} (b : Bool) (h1 : args.all AV.isD = true) (h2 : Nat.ble args.length 12 = true) (h3 : evFun (env b) orc k_i_Plane_side [.int .i64] [.tmp 4] 12 b_i_Plane_side args [] fun r' _ => r' = r) : orc.pc 136 args r :=
  pureC_of (envOk b) (orcOk b) Try.func136 (by rfl) rfl (by rfl) (by rfl) h1 (Nat.le_of_ble_eq_true h2) h3
/-- impl.bitPoint -/
def n_i_bitPoint : Nat := 137
noncomputable def b_i_bitPoint : Code := (Try.f137.body).getD .skip
def k_i_bitPoint : Nat → List Nat := fun n => lookN n [(3, [0, 1, 4, 5, 8, 9])]
theorem p_i_bitPoint {args : List AV} {r : Pk} (b : Bool) (h1 : args.all AV.isD = true) (h2 : Nat.ble args.length 21 = true) (h3 : evFun (env b) orc k_i_bitPoint [.sl (.int .i64)] [.tmp 4] 21 b_i_bitPoint args [] fun r' _ => r' = r) : orc.pc 137 args r :=
  pureC_of (envOk b) (orcOk b) Try.func137 (by rfl) rfl (by rfl) (by rfl) h1 (Nat.le_of_ble_eq_true h2) h3
/-- spec.l2Side -/
def n_s_l2Side : Nat := 138
noncomputable def b_s_l2Side : Code := (Try.f138.body).getD .skip
def k_s_l2Side : Nat → List Nat := fun n => lookN n []
theorem p_s_l2Side {args : List AV} {r : Pk} (b : Bool) (h1 : args.all AV.isD = true) (h2 : Nat.ble args.length 12 = true) (h3 : evFun (env b) orc k_s_l2Side [.int .i64] [.tmp 4] 12 b_s_l2Side args [] fun r' _ => r' = r) : orc.pc 138 args r :=
  pureC_of (envOk b) (orcOk b) Try.func138 (by rfl) rfl (by rfl) (by rfl) h1 (Nat.le_of_ble_eq_true h2) h3
/-- spec.l2KeptPlane -/
def n_s_l2KeptPlane : Nat := 139
noncomputable def b_s_l2KeptPlane : Code := (Try.f139.body).getD .skip
def k_s_l2KeptPlane : Nat → List Nat := fun n => lookN n []
theorem p_s_l2KeptPlane {vs : List AV} {st : St} {r : AV} {st2 : St} (b : Bool) (hst : 0 < st.length) (h1 : vs.all (fun v => !v.isBad) = true) (h2 : Nat.ble vs.length 9 = true) (h3 : evInl (env b) orc k_s_l2KeptPlane [.pair (.sl (.int .i64)) (.pair (.int .i64) (.unit)), .bool] [.cell 2 34, .tmp 3] 9 b_s_l2KeptPlane (vs.map AV.inner) st fun r' st' => r' = r ∧ st' = st2) : orc.ic 139 vs st r st2 :=
  inlC_of (envOk b) (orcOk b) Try.func139 (by rfl) rfl (by rfl) (by rfl) hst h1 (Nat.le_of_ble_eq_true h2) h3
/-- spec.l2Minus -/
def n_s_l2Minus : Nat := 140
noncomputable def b_s_l2Minus : Code := (Try.f140.body).getD .skip
def k_s_l2Minus : Nat → List Nat := fun n => lookN n [(3, [0, 2, 3, 4])]
theorem p_s_l2Minus {args : List AV} {r : Pk} (b : Bool) (h1 : args.all AV.isD = true) (h2 : Nat.ble args.length 21 = true) (h3 : evFun (env b) orc k_s_l2Minus [.sl (.int .i64)] [.tmp 2] 21 b_s_l2Minus args [] fun r' _ => r' = r) : orc.pc 140 args r :=
  pureC_of (envOk b) (orcOk b) Try.func140 (by rfl) rfl (by rfl) (by rfl) h1 (Nat.le_of_ble_eq_true h2) h3
/-- (impl.Sample).own -/
def n_i_Sample_own : Nat := 141
noncomputable def b_i_Sample_own : Code := (Try.f141.body).getD .skip
def k_i_Sample_own : Nat → List Nat := fun n => lookN n []
theorem p_i_Sample_own {args : List AV} {r : Pk} (b : Bool) (h1 : args.all AV.isD = true) (h2 : Nat.ble args.length 10 = true) (h3 : evFun (env b) orc k_i_Sample_own [.pair (.sl (.sl (.int .i64))) (.pair (.sl (.int .i64)) (.unit))] [.cell 2 33] 10 b_i_Sample_own args [] fun r' _ => r' = r) : orc.pc 141 args r :=
  pureC_of (envOk b) (orcOk b) Try.func141 (by rfl) rfl (by rfl) (by rfl) h1 (Nat.le_of_ble_eq_true h2) h3
/-- laws.heldSample -/
def n_l_heldSample : Nat := 142
noncomputable def b_l_heldSample : Code := (Try.f142.body).getD .skip
def k_l_heldSample : Nat → List Nat := fun n => lookN n []
theorem p_l_heldSample {args : List AV} {r : Pk} (b : Bool) (h1 : args.all AV.isD = true) (h2 : Nat.ble args.length 18 = true) (h3 : evFun (env b) orc k_l_heldSample [.int .i64] [.tmp 4] 18 b_l_heldSample args [] fun r' _ => r' = r) : orc.pc 142 args r :=
  pureC_of (envOk b) (orcOk b) Try.func142 (by rfl) rfl (by rfl) (by rfl) h1 (Nat.le_of_ble_eq_true h2) h3
/-- impl.isLabel -/
def n_i_isLabel : Nat := 143
noncomputable def b_i_isLabel : Code := (Try.f143.body).getD .skip
def k_i_isLabel : Nat → List Nat := fun n => lookN n []
theorem p_i_isLabel {args : List AV} {r : Pk} (b : Bool) (h1 : args.all AV.isD = true) (h2 : Nat.ble args.length 9 = true) (h3 : evFun (env b) orc k_i_isLabel [.bool] [.tmp 2] 9 b_i_isLabel args [] fun r' _ => r' = r) : orc.pc 143 args r :=
  pureC_of (envOk b) (orcOk b) Try.func143 (by rfl) rfl (by rfl) (by rfl) h1 (Nat.le_of_ble_eq_true h2) h3
/-- spec.l2Point -/
def n_s_l2Point : Nat := 144
noncomputable def b_s_l2Point : Code := (Try.f144.body).getD .skip
def k_s_l2Point : Nat → List Nat := fun n => lookN n []
theorem p_s_l2Point {args : List AV} {r : Pk} (b : Bool) (h1 : args.all AV.isD = true) (h2 : Nat.ble args.length 10 = true) (h3 : evFun (env b) orc k_s_l2Point [.bool] [.tmp 2] 10 b_s_l2Point args [] fun r' _ => r' = r) : orc.pc 144 args r :=
  pureC_of (envOk b) (orcOk b) Try.func144 (by rfl) rfl (by rfl) (by rfl) h1 (Nat.le_of_ble_eq_true h2) h3
/-- spec.l2Numbers -/
def n_s_l2Numbers : Nat := 145
noncomputable def b_s_l2Numbers : Code := (Try.f145.body).getD .skip
def k_s_l2Numbers : Nat → List Nat := fun n => lookN n [(2, [0, 1, 5])]
theorem p_s_l2Numbers {args : List AV} {r : Pk} (b : Bool) (h1 : args.all AV.isD = true) (h2 : Nat.ble args.length 21 = true) (h3 : evFun (env b) orc k_s_l2Numbers [.bool] [.tmp 4] 21 b_s_l2Numbers args [] fun r' _ => r' = r) : orc.pc 145 args r :=
  pureC_of (envOk b) (orcOk b) Try.func145 (by rfl) rfl (by rfl) (by rfl) h1 (Nat.le_of_ble_eq_true h2) h3
/-- impl.IsPoint -/
def n_i_IsPoint : Nat := 146
noncomputable def b_i_IsPoint : Code := (Try.f146.body).getD .skip
def k_i_IsPoint : Nat → List Nat := fun n => lookN n []
theorem p_i_IsPoint {args : List AV} {r : Pk} (b : Bool) (h1 : args.all AV.isD = true) (h2 : Nat.ble args.length 10 = true) (h3 : evFun (env b) orc k_i_IsPoint [.bool] [.tmp 2] 10 b_i_IsPoint args [] fun r' _ => r' = r) : orc.pc 146 args r :=
  pureC_of (envOk b) (orcOk b) Try.func146 (by rfl) rfl (by rfl) (by rfl) h1 (Nat.le_of_ble_eq_true h2) h3
/-- spec.l2BitPoint -/
def n_s_l2BitPoint : Nat := 147
noncomputable def b_s_l2BitPoint : Code := (Try.f147.body).getD .skip
def k_s_l2BitPoint : Nat → List Nat := fun n => lookN n [(3, [0, 1, 4, 5, 6])]
theorem p_s_l2BitPoint {args : List AV} {r : Pk} (b : Bool) (h1 : args.all AV.isD = true) (h2 : Nat.ble args.length 21 = true) (h3 : evFun (env b) orc k_s_l2BitPoint [.sl (.int .i64)] [.tmp 4] 21 b_s_l2BitPoint args [] fun r' _ => r' = r) : orc.pc 147 args r :=
  pureC_of (envOk b) (orcOk b) Try.func147 (by rfl) rfl (by rfl) (by rfl) h1 (Nat.le_of_ble_eq_true h2) h3
/-- impl.product -/
def n_i_product : Nat := 148
noncomputable def b_i_product : Code := (Try.f148.body).getD .skip
def k_i_product : Nat → List Nat := fun n => lookN n [(3, [0, 1, 4, 5, 8, 9, 10])]
theorem p_i_product {args : List AV} {r : Pk} (b : Bool) (h1 : args.all AV.isD = true) (h2 : Nat.ble args.length 25 = true) (h3 : evFun (env b) orc k_i_product [.int .i64] [.tmp 4] 25 b_i_product args [] fun r' _ => r' = r) : orc.pc 148 args r :=
  pureC_of (envOk b) (orcOk b) Try.func148 (by rfl) rfl (by rfl) (by rfl) h1 (Nat.le_of_ble_eq_true h2) h3
/-- spec.l2Dot -/
def n_s_l2Dot : Nat := 149
noncomputable def b_s_l2Dot : Code := (Try.f149.body).getD .skip
def k_s_l2Dot : Nat → List Nat := fun n => lookN n [(3, [0, 1, 4, 5, 6])]
theorem p_s_l2Dot {args : List AV} {r : Pk} (b : Bool) (h1 : args.all AV.isD = true) (h2 : Nat.ble args.length 25 = true) (h3 : evFun (env b) orc k_s_l2Dot [.int .i64] [.tmp 4] 25 b_s_l2Dot args [] fun r' _ => r' = r) : orc.pc 149 args r :=
  pureC_of (envOk b) (orcOk b) Try.func149 (by rfl) rfl (by rfl) (by rfl) h1 (Nat.le_of_ble_eq_true h2) h3
/-- impl.copies -/
def n_i_copies : Nat := 150
noncomputable def b_i_copies : Code := (Try.f150.body).getD .skip
def k_i_copies : Nat → List Nat := fun n => lookN n [(3, [0, 2, 3, 7, 8, 9])]
theorem p_i_copies {args : List AV} {r : Pk} (b : Bool) (h1 : args.all AV.isD = true) (h2 : Nat.ble args.length 20 = true) (h3 : evFun (env b) orc k_i_copies [.sl (.sl (.int .i64))] [.tmp 2] 20 b_i_copies args [] fun r' _ => r' = r) : orc.pc 150 args r :=
  pureC_of (envOk b) (orcOk b) Try.func150 (by rfl) rfl (by rfl) (by rfl) h1 (Nat.le_of_ble_eq_true h2) h3
end Go.Proofs.Ytcpepepdinkioaa.Ev
