/- PRINTED BY gen.py (own program): what the proofs need of each function: its body, its loops' live slots, its results' shapes. -/
import Derived.Test.YtlndfmmigndgeaaTab
namespace Go.Proofs.Ytlndfmmigndgeaa.Ev
open Go
/-- laws.FnExperts -/
def n_l_FnExperts : Nat := 3
noncomputable def b_l_FnExperts : Code := (Try.f3.body).getD .skip
def k_l_FnExperts : Nat → List Nat := fun n => lookN n [(53, [0, 2, 3, 4, 5, 6, 7, 8, 9, 10, 11, 12, 13, 14, 15, 16, 17, 18, 19, 20, 21, 22, 23, 24, 25, 26, 27, 28, 29, 30, 31, 32, 33, 34, 35, 36]), (45, [0, 3, 4, 5, 6, 7, 8, 9, 10, 11, 12, 13, 14, 15, 16, 17, 18, 19, 20, 21, 22, 23, 24, 25, 26, 27, 28, 29, 30, 31, 32, 33, 34, 35, 36]), (39, [0, 2, 3, 4, 5, 6, 7, 8, 9, 10, 11, 12, 13, 14, 15, 16, 17, 18, 19, 20, 21, 22, 23, 24, 25, 26, 27, 28, 29, 30, 31, 32, 33, 34, 35, 36]), (32, [0, 2, 3, 4, 5, 6, 7, 8, 9, 10, 11, 12, 13, 14, 15, 16, 17, 18, 19, 20, 21, 22, 23, 24, 25, 26, 27, 28, 29, 30, 31, 33, 34, 35, 36])]
theorem p_l_FnExperts {args : List AV} {r : Pk} (b : Bool) (h1 : args.all AV.isD = true) (h2 : Nat.ble args.length 303 = true) (h3 : evFun (env b) orc k_l_FnExperts [.bool] [.tmp 2] 303 b_l_FnExperts args [] fun r' _ => r' = r) : orc.pc 3 args r :=
  pureC_of (envOk b) (orcOk b) Try.func3 (by rfl) rfl (by rfl) (by rfl) h1 (Nat.le_of_ble_eq_true h2) h3
/-- laws.FnNets -/
def n_l_FnNets : Nat := 4
noncomputable def b_l_FnNets : Code := (Try.f4.body).getD .skip
def k_l_FnNets : Nat → List Nat := fun n => lookN n [(36, [0, 3, 4, 5, 6, 7, 8, 9, 10, 11, 12, 13, 14, 15, 16, 17, 18, 19, 20, 21, 22, 23, 24, 25, 26, 27, 28, 29, 30, 31, 32, 33, 34]), (23, [0, 3, 4, 5, 6, 7, 8, 9, 10, 11, 12, 13, 14, 15, 16, 17, 18, 19, 20, 21, 22, 23, 24, 25, 26, 27, 28, 29, 30, 31, 32, 33, 34, 35, 36, 37, 38, 39, 40, 41, 42]), (19, [0, 2, 3, 4, 5, 6, 7, 8, 9, 10, 11, 12, 13, 14, 15, 16, 17, 18, 19, 20, 21, 22, 23, 24, 25, 26, 27, 28, 29, 30, 31, 32, 33, 34, 35, 36, 37, 38, 39, 40, 41, 42])]
theorem p_l_FnNets {args : List AV} {r : Pk} (b : Bool) (h1 : args.all AV.isD = true) (h2 : Nat.ble args.length 286 = true) (h3 : evFun (env b) orc k_l_FnNets [.bool] [.tmp 2] 286 b_l_FnNets args [] fun r' _ => r' = r) : orc.pc 4 args r :=
  pureC_of (envOk b) (orcOk b) Try.func4 (by rfl) rfl (by rfl) (by rfl) h1 (Nat.le_of_ble_eq_true h2) h3
/-- laws.FnPerceptrons -/
def n_l_FnPerceptrons : Nat := 5
noncomputable def b_l_FnPerceptrons : Code := (Try.f5.body).getD .skip
def k_l_FnPerceptrons : Nat → List Nat := fun n => lookN n [(33, [0, 3, 4, 5, 6, 7, 8, 9, 10, 11, 12, 13, 14, 15, 16, 17, 18, 19, 20, 21, 22, 23, 24, 25, 26, 27, 28, 29, 30, 31, 32, 33, 34, 35, 36, 37, 38, 39, 40]), (30, [0, 3, 4, 5, 6, 7, 8, 9, 10, 11, 12, 13, 14, 15, 16, 17, 18, 19, 20, 21, 22, 23, 24, 25, 26, 27, 28, 29, 30, 31, 32, 33, 34, 35, 36, 37, 38, 39]), (1000027, [1037]), (1000035, [1041]), (1000003, [1003])]
theorem p_l_FnPerceptrons {args : List AV} {r : Pk} (b : Bool) (h1 : args.all AV.isD = true) (h2 : Nat.ble args.length 339 = true) (h3 : evFun (env b) orc k_l_FnPerceptrons [.bool] [.tmp 2] 339 b_l_FnPerceptrons args [] fun r' _ => r' = r) : orc.pc 5 args r :=
  pureC_of (envOk b) (orcOk b) Try.func5 (by rfl) rfl (by rfl) (by rfl) h1 (Nat.le_of_ble_eq_true h2) h3
/-- laws.FnSchoolTables -/
def n_l_FnSchoolTables : Nat := 6
noncomputable def b_l_FnSchoolTables : Code := (Try.f6.body).getD .skip
def k_l_FnSchoolTables : Nat → List Nat := fun n => lookN n []
theorem p_l_FnSchoolTables {args : List AV} {r : Pk} (b : Bool) (h1 : args.all AV.isD = true) (h2 : Nat.ble args.length 111 = true) (h3 : evFun (env b) orc k_l_FnSchoolTables [.bool] [.tmp 2] 111 b_l_FnSchoolTables args [] fun r' _ => r' = r) : orc.pc 6 args r :=
  pureC_of (envOk b) (orcOk b) Try.func6 (by rfl) rfl (by rfl) (by rfl) h1 (Nat.le_of_ble_eq_true h2) h3
/-- laws.FnGates -/
def n_l_FnGates : Nat := 7
noncomputable def b_l_FnGates : Code := (Try.f7.body).getD .skip
def k_l_FnGates : Nat → List Nat := fun n => lookN n [(28, [0, 3, 4, 5, 6, 7, 8, 9, 10, 11, 12, 13, 14, 15, 16, 17, 18, 19, 20, 21, 22, 23, 24, 25, 26, 27, 28, 29, 30, 31, 32]), (25, [0, 3, 4, 5, 6, 7, 8, 9, 10, 11, 12, 13, 14, 15, 16, 17, 18, 19, 20, 21, 22, 23, 24, 25, 26, 27, 28, 29, 31, 32])]
theorem p_l_FnGates {args : List AV} {r : Pk} (b : Bool) (h1 : args.all AV.isD = true) (h2 : Nat.ble args.length 208 = true) (h3 : evFun (env b) orc k_l_FnGates [.bool] [.tmp 2] 208 b_l_FnGates args [] fun r' _ => r' = r) : orc.pc 7 args r :=
  pureC_of (envOk b) (orcOk b) Try.func7 (by rfl) rfl (by rfl) (by rfl) h1 (Nat.le_of_ble_eq_true h2) h3
/-- laws.FnSwitches -/
def n_l_FnSwitches : Nat := 8
noncomputable def b_l_FnSwitches : Code := (Try.f8.body).getD .skip
def k_l_FnSwitches : Nat → List Nat := fun n => lookN n [(53, [0, 2, 3, 4, 5, 6, 7, 8, 9, 10, 11, 12, 13, 14, 15, 16, 17, 18, 19, 20, 21, 22, 23, 24, 25, 26, 27, 28, 29, 30, 31, 32, 33, 34, 35, 36, 37, 38, 39, 40, 42, 43, 44, 45, 46, 47, 48, 49]), (43, [0, 2, 3, 4, 5, 6, 7, 8, 9, 10, 11, 12, 13, 14, 15, 16, 17, 18, 19, 20, 21, 22, 23, 24, 25, 26, 27, 28, 29, 30, 31, 32, 33, 34, 35, 36, 37, 38, 39, 40, 41, 42, 43, 44, 45, 46, 47, 48, 49]), (39, [0, 3, 4, 5, 6, 7, 8, 9, 10, 11, 12, 13, 14, 15, 16, 17, 18, 19, 20, 21, 22, 23, 24, 25, 26, 27, 28, 29, 30, 31, 32, 33, 34, 35, 38, 39, 40, 41, 42, 43, 44, 45, 46, 47, 48, 49]), (28, [0, 3, 4, 5, 6, 7, 8, 9, 10, 11, 12, 13, 14, 15, 16, 17, 18, 19, 20, 21, 22, 23, 24, 25, 26, 27, 28, 31, 32, 33, 34, 35, 36, 37, 38, 39, 40, 41, 42, 43, 44, 45, 46, 47, 48, 49])]
theorem p_l_FnSwitches {args : List AV} {r : Pk} (b : Bool) (h1 : args.all AV.isD = true) (h2 : Nat.ble args.length 381 = true) (h3 : evFun (env b) orc k_l_FnSwitches [.bool] [.tmp 2] 381 b_l_FnSwitches args [] fun r' _ => r' = r) : orc.pc 8 args r :=
  pureC_of (envOk b) (orcOk b) Try.func8 (by rfl) rfl (by rfl) (by rfl) h1 (Nat.le_of_ble_eq_true h2) h3
/-- laws.rBig -/
def n_l_rBig : Nat := 9
noncomputable def b_l_rBig : Code := (Try.f9.body).getD .skip
def k_l_rBig : Nat → List Nat := fun n => lookN n []
theorem p_l_rBig {args : List AV} {r : Pk} (b : Bool) (h1 : args.all AV.isD = true) (h2 : Nat.ble args.length 6 = true) (h3 : evFun (env b) orc k_l_rBig [.bool] [.tmp 2] 6 b_l_rBig args [] fun r' _ => r' = r) : orc.pc 9 args r :=
  pureC_of (envOk b) (orcOk b) Try.func9 (by rfl) rfl (by rfl) (by rfl) h1 (Nat.le_of_ble_eq_true h2) h3
/-- spec.DrawHalvingSays -/
def n_s_DrawHalvingSays : Nat := 10
noncomputable def b_s_DrawHalvingSays : Code := (Try.f10.body).getD .skip
def k_s_DrawHalvingSays : Nat → List Nat := fun n => lookN n []
theorem p_s_DrawHalvingSays {args : List AV} {r : Pk} (b : Bool) (h1 : args.all AV.isD = true) (h2 : Nat.ble args.length 5 = true) (h3 : evFun (env b) orc k_s_DrawHalvingSays [.pair (.sl (.sl (.int .i64))) (.pair (.sl (.int .i64)) (.unit))] [.cell 2 27] 5 b_s_DrawHalvingSays args [] fun r' _ => r' = r) : orc.pc 10 args r :=
  pureC_of (envOk b) (orcOk b) Try.func10 (by rfl) rfl (by rfl) (by rfl) h1 (Nat.le_of_ble_eq_true h2) h3
/-- impl.HalvingSays -/
def n_i_HalvingSays : Nat := 11
noncomputable def b_i_HalvingSays : Code := (Try.f11.body).getD .skip
def k_i_HalvingSays : Nat → List Nat := fun n => lookN n []
theorem p_i_HalvingSays {args : List AV} {r : Pk} (b : Bool) (h1 : args.all AV.isD = true) (h2 : Nat.ble args.length 10 = true) (h3 : evFun (env b) orc k_i_HalvingSays [.sl (.int .i64), .bool] [.tmp 2, .tmp 3] 10 b_i_HalvingSays args [] fun r' _ => r' = r) : orc.pc 11 args r :=
  pureC_of (envOk b) (orcOk b) Try.func11 (by rfl) rfl (by rfl) (by rfl) h1 (Nat.le_of_ble_eq_true h2) h3
/-- spec.HalvingSays -/
def n_s_HalvingSays : Nat := 12
noncomputable def b_s_HalvingSays : Code := (Try.f12.body).getD .skip
def k_s_HalvingSays : Nat → List Nat := fun n => lookN n []
theorem p_s_HalvingSays {args : List AV} {r : Pk} (b : Bool) (h1 : args.all AV.isD = true) (h2 : Nat.ble args.length 10 = true) (h3 : evFun (env b) orc k_s_HalvingSays [.sl (.int .i64), .bool] [.tmp 2, .tmp 3] 10 b_s_HalvingSays args [] fun r' _ => r' = r) : orc.pc 12 args r :=
  pureC_of (envOk b) (orcOk b) Try.func12 (by rfl) rfl (by rfl) (by rfl) h1 (Nat.le_of_ble_eq_true h2) h3
/-- impl.IsPanel -/
def n_i_IsPanel : Nat := 13
noncomputable def b_i_IsPanel : Code := (Try.f13.body).getD .skip
def k_i_IsPanel : Nat → List Nat := fun n => lookN n [(4, [0, 1, 23, 24, 25])]
theorem p_i_IsPanel {args : List AV} {r : Pk} (b : Bool) (h1 : args.all AV.isD = true) (h2 : Nat.ble args.length 41 = true) (h3 : evFun (env b) orc k_i_IsPanel [.bool] [.tmp 2] 41 b_i_IsPanel args [] fun r' _ => r' = r) : orc.pc 13 args r :=
  pureC_of (envOk b) (orcOk b) Try.func13 (by rfl) rfl (by rfl) (by rfl) h1 (Nat.le_of_ble_eq_true h2) h3
/-- laws.rInts -/
def n_l_rInts : Nat := 14
noncomputable def b_l_rInts : Code := (Try.f14.body).getD .skip
def k_l_rInts : Nat → List Nat := fun n => lookN n [(4, [0, 1, 5])]
theorem p_l_rInts {args : List AV} {r : Pk} (b : Bool) (h1 : args.all AV.isD = true) (h2 : Nat.ble args.length 26 = true) (h3 : evFun (env b) orc k_l_rInts [.bool] [.tmp 4] 26 b_l_rInts args [] fun r' _ => r' = r) : orc.pc 14 args r :=
  pureC_of (envOk b) (orcOk b) Try.func14 (by rfl) rfl (by rfl) (by rfl) h1 (Nat.le_of_ble_eq_true h2) h3
/-- impl.HalvingWrong -/
def n_i_HalvingWrong : Nat := 15
noncomputable def b_i_HalvingWrong : Code := (Try.f15.body).getD .skip
def k_i_HalvingWrong : Nat → List Nat := fun n => lookN n [(6, [0, 1, 2, 3, 4, 5, 6, 16, 17, 18])]
theorem p_i_HalvingWrong {args : List AV} {r : Pk} (b : Bool) (h1 : args.all AV.isD = true) (h2 : Nat.ble args.length 34 = true) (h3 : evFun (env b) orc k_i_HalvingWrong [.int .i64, .bool] [.tmp 2, .tmp 3] 34 b_i_HalvingWrong args [] fun r' _ => r' = r) : orc.pc 15 args r :=
  pureC_of (envOk b) (orcOk b) Try.func15 (by rfl) rfl (by rfl) (by rfl) h1 (Nat.le_of_ble_eq_true h2) h3
/-- spec.HalvingWrong -/
def n_s_HalvingWrong : Nat := 16
noncomputable def b_s_HalvingWrong : Code := (Try.f16.body).getD .skip
def k_s_HalvingWrong : Nat → List Nat := fun n => lookN n [(5, [0, 1, 2, 3, 4, 5, 6])]
theorem p_s_HalvingWrong {args : List AV} {r : Pk} (b : Bool) (h1 : args.all AV.isD = true) (h2 : Nat.ble args.length 31 = true) (h3 : evFun (env b) orc k_s_HalvingWrong [.int .i64, .bool] [.tmp 2, .tmp 3] 31 b_s_HalvingWrong args [] fun r' _ => r' = r) : orc.pc 16 args r :=
  pureC_of (envOk b) (orcOk b) Try.func16 (by rfl) rfl (by rfl) (by rfl) h1 (Nat.le_of_ble_eq_true h2) h3
/-- impl.WrongDays -/
def n_i_WrongDays : Nat := 17
noncomputable def b_i_WrongDays : Code := (Try.f17.body).getD .skip
def k_i_WrongDays : Nat → List Nat := fun n => lookN n []
theorem p_i_WrongDays {args : List AV} {r : Pk} (b : Bool) (h1 : args.all AV.isD = true) (h2 : Nat.ble args.length 12 = true) (h3 : evFun (env b) orc k_i_WrongDays [.sl (.int .i64), .bool] [.tmp 2, .tmp 3] 12 b_i_WrongDays args [] fun r' _ => r' = r) : orc.pc 17 args r :=
  pureC_of (envOk b) (orcOk b) Try.func17 (by rfl) rfl (by rfl) (by rfl) h1 (Nat.le_of_ble_eq_true h2) h3
/-- spec.WrongDays -/
def n_s_WrongDays : Nat := 18
noncomputable def b_s_WrongDays : Code := (Try.f18.body).getD .skip
def k_s_WrongDays : Nat → List Nat := fun n => lookN n []
theorem p_s_WrongDays {args : List AV} {r : Pk} (b : Bool) (h1 : args.all AV.isD = true) (h2 : Nat.ble args.length 13 = true) (h3 : evFun (env b) orc k_s_WrongDays [.sl (.int .i64), .bool] [.tmp 2, .tmp 3] 13 b_s_WrongDays args [] fun r' _ => r' = r) : orc.pc 18 args r :=
  pureC_of (envOk b) (orcOk b) Try.func18 (by rfl) rfl (by rfl) (by rfl) h1 (Nat.le_of_ble_eq_true h2) h3
/-- impl.BestExpert -/
def n_i_BestExpert : Nat := 19
noncomputable def b_i_BestExpert : Code := (Try.f19.body).getD .skip
def k_i_BestExpert : Nat → List Nat := fun n => lookN n []
theorem p_i_BestExpert {args : List AV} {r : Pk} (b : Bool) (h1 : args.all AV.isD = true) (h2 : Nat.ble args.length 15 = true) (h3 : evFun (env b) orc k_i_BestExpert [.int .i64, .bool] [.tmp 2, .tmp 3] 15 b_i_BestExpert args [] fun r' _ => r' = r) : orc.pc 19 args r :=
  pureC_of (envOk b) (orcOk b) Try.func19 (by rfl) rfl (by rfl) (by rfl) h1 (Nat.le_of_ble_eq_true h2) h3
/-- spec.BestExpert -/
def n_s_BestExpert : Nat := 20
noncomputable def b_s_BestExpert : Code := (Try.f20.body).getD .skip
def k_s_BestExpert : Nat → List Nat := fun n => lookN n []
theorem p_s_BestExpert {args : List AV} {r : Pk} (b : Bool) (h1 : args.all AV.isD = true) (h2 : Nat.ble args.length 13 = true) (h3 : evFun (env b) orc k_s_BestExpert [.int .i64, .bool] [.tmp 2, .tmp 3] 13 b_s_BestExpert args [] fun r' _ => r' = r) : orc.pc 20 args r :=
  pureC_of (envOk b) (orcOk b) Try.func20 (by rfl) rfl (by rfl) (by rfl) h1 (Nat.le_of_ble_eq_true h2) h3
/-- impl.FollowingSays -/
def n_i_FollowingSays : Nat := 21
noncomputable def b_i_FollowingSays : Code := (Try.f21.body).getD .skip
def k_i_FollowingSays : Nat → List Nat := fun n => lookN n []
theorem p_i_FollowingSays {args : List AV} {r : Pk} (b : Bool) (h1 : args.all AV.isD = true) (h2 : Nat.ble args.length 10 = true) (h3 : evFun (env b) orc k_i_FollowingSays [.sl (.int .i64), .bool] [.tmp 2, .tmp 3] 10 b_i_FollowingSays args [] fun r' _ => r' = r) : orc.pc 21 args r :=
  pureC_of (envOk b) (orcOk b) Try.func21 (by rfl) rfl (by rfl) (by rfl) h1 (Nat.le_of_ble_eq_true h2) h3
/-- spec.FollowingSays -/
def n_s_FollowingSays : Nat := 22
noncomputable def b_s_FollowingSays : Code := (Try.f22.body).getD .skip
def k_s_FollowingSays : Nat → List Nat := fun n => lookN n [(5, [0, 1, 2, 3, 4, 5])]
theorem p_s_FollowingSays {args : List AV} {r : Pk} (b : Bool) (h1 : args.all AV.isD = true) (h2 : Nat.ble args.length 34 = true) (h3 : evFun (env b) orc k_s_FollowingSays [.sl (.int .i64), .bool] [.tmp 2, .tmp 3] 34 b_s_FollowingSays args [] fun r' _ => r' = r) : orc.pc 22 args r :=
  pureC_of (envOk b) (orcOk b) Try.func22 (by rfl) rfl (by rfl) (by rfl) h1 (Nat.le_of_ble_eq_true h2) h3
/-- impl.MajoritySays -/
def n_i_MajoritySays : Nat := 23
noncomputable def b_i_MajoritySays : Code := (Try.f23.body).getD .skip
def k_i_MajoritySays : Nat → List Nat := fun n => lookN n []
theorem p_i_MajoritySays {args : List AV} {r : Pk} (b : Bool) (h1 : args.all AV.isD = true) (h2 : Nat.ble args.length 10 = true) (h3 : evFun (env b) orc k_i_MajoritySays [.sl (.int .i64), .bool] [.tmp 2, .tmp 3] 10 b_i_MajoritySays args [] fun r' _ => r' = r) : orc.pc 23 args r :=
  pureC_of (envOk b) (orcOk b) Try.func23 (by rfl) rfl (by rfl) (by rfl) h1 (Nat.le_of_ble_eq_true h2) h3
/-- spec.MajoritySays -/
def n_s_MajoritySays : Nat := 24
noncomputable def b_s_MajoritySays : Code := (Try.f24.body).getD .skip
def k_s_MajoritySays : Nat → List Nat := fun n => lookN n [(9, [0, 1, 2, 3, 4, 5, 6, 7]), (5, [0, 1, 2, 3, 4, 5])]
theorem p_s_MajoritySays {args : List AV} {r : Pk} (b : Bool) (h1 : args.all AV.isD = true) (h2 : Nat.ble args.length 43 = true) (h3 : evFun (env b) orc k_s_MajoritySays [.sl (.int .i64), .bool] [.tmp 2, .tmp 3] 43 b_s_MajoritySays args [] fun r' _ => r' = r) : orc.pc 24 args r :=
  pureC_of (envOk b) (orcOk b) Try.func24 (by rfl) rfl (by rfl) (by rfl) h1 (Nat.le_of_ble_eq_true h2) h3
/-- laws.vBig -/
def n_l_vBig : Nat := 25
noncomputable def b_l_vBig : Code := (Try.f25.body).getD .skip
def k_l_vBig : Nat → List Nat := fun n => lookN n []
theorem p_l_vBig {args : List AV} {r : Pk} (b : Bool) (h1 : args.all AV.isD = true) (h2 : Nat.ble args.length 6 = true) (h3 : evFun (env b) orc k_l_vBig [.bool] [.tmp 2] 6 b_l_vBig args [] fun r' _ => r' = r) : orc.pc 25 args r :=
  pureC_of (envOk b) (orcOk b) Try.func25 (by rfl) rfl (by rfl) (by rfl) h1 (Nat.le_of_ble_eq_true h2) h3
/-- spec.DrawEvaluateNet -/
def n_s_DrawEvaluateNet : Nat := 26
noncomputable def b_s_DrawEvaluateNet : Code := (Try.f26.body).getD .skip
def k_s_DrawEvaluateNet : Nat → List Nat := fun n => lookN n []
theorem p_s_DrawEvaluateNet {args : List AV} {r : Pk} (b : Bool) (h1 : args.all AV.isD = true) (h2 : Nat.ble args.length 17 = true) (h3 : evFun (env b) orc k_s_DrawEvaluateNet [.pair (.int .i64) (.pair (.sl (.sl (.pair (.sl (.int .i64)) (.pair (.int .i64) (.unit))))) (.unit)), .sl (.int .i64)] [.cell 2 37, .tmp 3] 17 b_s_DrawEvaluateNet args [] fun r' _ => r' = r) : orc.pc 26 args r :=
  pureC_of (envOk b) (orcOk b) Try.func26 (by rfl) rfl (by rfl) (by rfl) h1 (Nat.le_of_ble_eq_true h2) h3
/-- impl.EvaluateNet -/
def n_i_EvaluateNet : Nat := 27
noncomputable def b_i_EvaluateNet : Code := (Try.f27.body).getD .skip
def k_i_EvaluateNet : Nat → List Nat := fun n => lookN n []
theorem p_i_EvaluateNet {args : List AV} {r : Pk} (b : Bool) (h1 : args.all AV.isD = true) (h2 : Nat.ble args.length 24 = true) (h3 : evFun (env b) orc k_i_EvaluateNet [.sl (.int .i64), .bool] [.tmp 4, .tmp 5] 24 b_i_EvaluateNet args [] fun r' _ => r' = r) : orc.pc 27 args r :=
  pureC_of (envOk b) (orcOk b) Try.func27 (by rfl) rfl (by rfl) (by rfl) h1 (Nat.le_of_ble_eq_true h2) h3
/-- spec.EvaluateNet -/
def n_s_EvaluateNet : Nat := 28
noncomputable def b_s_EvaluateNet : Code := (Try.f28.body).getD .skip
def k_s_EvaluateNet : Nat → List Nat := fun n => lookN n []
theorem p_s_EvaluateNet {args : List AV} {r : Pk} (b : Bool) (h1 : args.all AV.isD = true) (h2 : Nat.ble args.length 20 = true) (h3 : evFun (env b) orc k_s_EvaluateNet [.sl (.int .i64), .bool] [.tmp 4, .tmp 5] 20 b_s_EvaluateNet args [] fun r' _ => r' = r) : orc.pc 28 args r :=
  pureC_of (envOk b) (orcOk b) Try.func28 (by rfl) rfl (by rfl) (by rfl) h1 (Nat.le_of_ble_eq_true h2) h3
/-- impl.NetTables -/
def n_i_NetTables : Nat := 29
noncomputable def b_i_NetTables : Code := (Try.f29.body).getD .skip
def k_i_NetTables : Nat → List Nat := fun n => lookN n []
theorem p_i_NetTables {args : List AV} {r : Pk} (b : Bool) (h1 : args.all AV.isD = true) (h2 : Nat.ble args.length 9 = true) (h3 : evFun (env b) orc k_i_NetTables [.sl (.sl (.int .i64)), .bool] [.tmp 2, .tmp 3] 9 b_i_NetTables args [] fun r' _ => r' = r) : orc.pc 29 args r :=
  pureC_of (envOk b) (orcOk b) Try.func29 (by rfl) rfl (by rfl) (by rfl) h1 (Nat.le_of_ble_eq_true h2) h3
/-- spec.NetTables -/
def n_s_NetTables : Nat := 30
noncomputable def b_s_NetTables : Code := (Try.f30.body).getD .skip
def k_s_NetTables : Nat → List Nat := fun n => lookN n []
theorem p_s_NetTables {args : List AV} {r : Pk} (b : Bool) (h1 : args.all AV.isD = true) (h2 : Nat.ble args.length 10 = true) (h3 : evFun (env b) orc k_s_NetTables [.sl (.sl (.int .i64)), .bool] [.tmp 2, .tmp 3] 10 b_s_NetTables args [] fun r' _ => r' = r) : orc.pc 30 args r :=
  pureC_of (envOk b) (orcOk b) Try.func30 (by rfl) rfl (by rfl) (by rfl) h1 (Nat.le_of_ble_eq_true h2) h3
/-- spec.DrawJoinNets -/
def n_s_DrawJoinNets : Nat := 31
noncomputable def b_s_DrawJoinNets : Code := (Try.f31.body).getD .skip
def k_s_DrawJoinNets : Nat → List Nat := fun n => lookN n []
theorem p_s_DrawJoinNets {args : List AV} {r : Pk} (b : Bool) (h1 : args.all AV.isD = true) (h2 : Nat.ble args.length 45 = true) (h3 : evFun (env b) orc k_s_DrawJoinNets [.pair (.int .i64) (.pair (.sl (.sl (.pair (.sl (.int .i64)) (.pair (.int .i64) (.unit))))) (.unit)), .pair (.int .i64) (.pair (.sl (.sl (.pair (.sl (.int .i64)) (.pair (.int .i64) (.unit))))) (.unit))] [.cell 2 37, .cell 3 37] 45 b_s_DrawJoinNets args [] fun r' _ => r' = r) : orc.pc 31 args r :=
  pureC_of (envOk b) (orcOk b) Try.func31 (by rfl) rfl (by rfl) (by rfl) h1 (Nat.le_of_ble_eq_true h2) h3
/-- laws.vCut -/
def n_l_vCut : Nat := 32
noncomputable def b_l_vCut : Code := (Try.f32.body).getD .skip
def k_l_vCut : Nat → List Nat := fun n => lookN n []
theorem p_l_vCut {args : List AV} {r : Pk} (b : Bool) (h1 : args.all AV.isD = true) (h2 : Nat.ble args.length 20 = true) (h3 : evFun (env b) orc k_l_vCut [.sl (.int .u8)] [.tmp 4] 20 b_l_vCut args [] fun r' _ => r' = r) : orc.pc 32 args r :=
  pureC_of (envOk b) (orcOk b) Try.func32 (by rfl) rfl (by rfl) (by rfl) h1 (Nat.le_of_ble_eq_true h2) h3
/-- impl.JoinNets -/
def n_i_JoinNets : Nat := 33
noncomputable def b_i_JoinNets : Code := (Try.f33.body).getD .skip
def k_i_JoinNets : Nat → List Nat := fun n => lookN n [(15, [0, 1, 2, 3, 4, 5, 6, 7, 8, 9, 10, 42, 43, 84, 85]), (10, [0, 1, 2, 3, 4, 5, 6, 7, 8, 9, 11, 42, 43, 61, 62]), (5, [0, 1, 2, 3, 4, 5, 6, 42, 43])]
theorem p_i_JoinNets {args : List AV} {r : Pk} (b : Bool) (h1 : args.all AV.isD = true) (h2 : Nat.ble args.length 121 = true) (h3 : evFun (env b) orc k_i_JoinNets [.pair (.int .i64) (.pair (.sl (.sl (.pair (.sl (.int .i64)) (.pair (.int .i64) (.unit))))) (.unit)), .bool] [.cell 4 37, .tmp 5] 121 b_i_JoinNets args [] fun r' _ => r' = r) : orc.pc 33 args r :=
  pureC_of (envOk b) (orcOk b) Try.func33 (by rfl) rfl (by rfl) (by rfl) h1 (Nat.le_of_ble_eq_true h2) h3
/-- spec.JoinNets -/
def n_s_JoinNets : Nat := 34
noncomputable def b_s_JoinNets : Code := (Try.f34.body).getD .skip
def k_s_JoinNets : Nat → List Nat := fun n => lookN n [(6, [0, 1, 2, 3, 4, 6, 7, 8, 9])]
theorem p_s_JoinNets {args : List AV} {r : Pk} (b : Bool) (h1 : args.all AV.isD = true) (h2 : Nat.ble args.length 93 = true) (h3 : evFun (env b) orc k_s_JoinNets [.pair (.int .i64) (.pair (.sl (.sl (.pair (.sl (.int .i64)) (.pair (.int .i64) (.unit))))) (.unit)), .bool] [.cell 4 37, .tmp 5] 93 b_s_JoinNets args [] fun r' _ => r' = r) : orc.pc 34 args r :=
  pureC_of (envOk b) (orcOk b) Try.func34 (by rfl) rfl (by rfl) (by rfl) h1 (Nat.le_of_ble_eq_true h2) h3
/-- spec.DrawAfterNet -/
def n_s_DrawAfterNet : Nat := 35
noncomputable def b_s_DrawAfterNet : Code := (Try.f35.body).getD .skip
def k_s_DrawAfterNet : Nat → List Nat := fun n => lookN n []
theorem p_s_DrawAfterNet {args : List AV} {r : Pk} (b : Bool) (h1 : args.all AV.isD = true) (h2 : Nat.ble args.length 29 = true) (h3 : evFun (env b) orc k_s_DrawAfterNet [.pair (.int .i64) (.pair (.sl (.sl (.pair (.sl (.int .i64)) (.pair (.int .i64) (.unit))))) (.unit)), .pair (.int .i64) (.pair (.sl (.sl (.pair (.sl (.int .i64)) (.pair (.int .i64) (.unit))))) (.unit))] [.cell 2 37, .cell 3 37] 29 b_s_DrawAfterNet args [] fun r' _ => r' = r) : orc.pc 35 args r :=
  pureC_of (envOk b) (orcOk b) Try.func35 (by rfl) rfl (by rfl) (by rfl) h1 (Nat.le_of_ble_eq_true h2) h3
/-- impl.AfterNet -/
def n_i_AfterNet : Nat := 36
noncomputable def b_i_AfterNet : Code := (Try.f36.body).getD .skip
def k_i_AfterNet : Nat → List Nat := fun n => lookN n [(8, [0, 1, 2, 3, 4, 5, 6, 8, 35, 36, 39, 40, 41]), (5, [0, 1, 2, 3, 4, 5, 6, 35, 36])]
theorem p_i_AfterNet {args : List AV} {r : Pk} (b : Bool) (h1 : args.all AV.isD = true) (h2 : Nat.ble args.length 59 = true) (h3 : evFun (env b) orc k_i_AfterNet [.pair (.int .i64) (.pair (.sl (.sl (.pair (.sl (.int .i64)) (.pair (.int .i64) (.unit))))) (.unit)), .bool] [.cell 4 37, .tmp 5] 59 b_i_AfterNet args [] fun r' _ => r' = r) : orc.pc 36 args r :=
  pureC_of (envOk b) (orcOk b) Try.func36 (by rfl) rfl (by rfl) (by rfl) h1 (Nat.le_of_ble_eq_true h2) h3
/-- spec.AfterNet -/
def n_s_AfterNet : Nat := 37
noncomputable def b_s_AfterNet : Code := (Try.f37.body).getD .skip
def k_s_AfterNet : Nat → List Nat := fun n => lookN n []
theorem p_s_AfterNet {args : List AV} {r : Pk} (b : Bool) (h1 : args.all AV.isD = true) (h2 : Nat.ble args.length 50 = true) (h3 : evFun (env b) orc k_s_AfterNet [.pair (.int .i64) (.pair (.sl (.sl (.pair (.sl (.int .i64)) (.pair (.int .i64) (.unit))))) (.unit)), .bool] [.cell 4 37, .tmp 5] 50 b_s_AfterNet args [] fun r' _ => r' = r) : orc.pc 37 args r :=
  pureC_of (envOk b) (orcOk b) Try.func37 (by rfl) rfl (by rfl) (by rfl) h1 (Nat.le_of_ble_eq_true h2) h3
/-- laws.vInts -/
def n_l_vInts : Nat := 38
noncomputable def b_l_vInts : Code := (Try.f38.body).getD .skip
def k_l_vInts : Nat → List Nat := fun n => lookN n [(4, [0, 1, 5])]
theorem p_l_vInts {args : List AV} {r : Pk} (b : Bool) (h1 : args.all AV.isD = true) (h2 : Nat.ble args.length 26 = true) (h3 : evFun (env b) orc k_l_vInts [.bool] [.tmp 4] 26 b_l_vInts args [] fun r' _ => r' = r) : orc.pc 38 args r :=
  pureC_of (envOk b) (orcOk b) Try.func38 (by rfl) rfl (by rfl) (by rfl) h1 (Nat.le_of_ble_eq_true h2) h3
/-- laws.vTable -/
def n_l_vTable : Nat := 39
noncomputable def b_l_vTable : Code := (Try.f39.body).getD .skip
def k_l_vTable : Nat → List Nat := fun n => lookN n [(4, [0, 1, 5])]
theorem p_l_vTable {args : List AV} {r : Pk} (b : Bool) (h1 : args.all AV.isD = true) (h2 : Nat.ble args.length 27 = true) (h3 : evFun (env b) orc k_l_vTable [.bool] [.tmp 4] 27 b_l_vTable args [] fun r' _ => r' = r) : orc.pc 39 args r :=
  pureC_of (envOk b) (orcOk b) Try.func39 (by rfl) rfl (by rfl) (by rfl) h1 (Nat.le_of_ble_eq_true h2) h3
/-- laws.vNet -/
def n_l_vNet : Nat := 40
noncomputable def b_l_vNet : Code := (Try.f40.body).getD .skip
def k_l_vNet : Nat → List Nat := fun n => lookN n [(9, [0, 1, 2, 3, 5, 6]), (4, [0, 1, 2, 3, 5])]
theorem p_l_vNet {args : List AV} {r : Pk} (b : Bool) (h1 : args.all AV.isD = true) (h2 : Nat.ble args.length 69 = true) (h3 : evFun (env b) orc k_l_vNet [.bool] [.tmp 4] 69 b_l_vNet args [] fun r' _ => r' = r) : orc.pc 40 args r :=
  pureC_of (envOk b) (orcOk b) Try.func40 (by rfl) rfl (by rfl) (by rfl) h1 (Nat.le_of_ble_eq_true h2) h3
/-- impl.IsNet -/
def n_i_IsNet : Nat := 41
noncomputable def b_i_IsNet : Code := (Try.f41.body).getD .skip
def k_i_IsNet : Nat → List Nat := fun n => lookN n [(10, [0, 1, 3, 5, 22, 23, 24, 32, 33, 34]), (5, [0, 1, 3, 22, 23, 24])]
theorem p_i_IsNet {args : List AV} {r : Pk} (b : Bool) (h1 : args.all AV.isD = true) (h2 : Nat.ble args.length 52 = true) (h3 : evFun (env b) orc k_i_IsNet [.bool] [.tmp 2] 52 b_i_IsNet args [] fun r' _ => r' = r) : orc.pc 41 args r :=
  pureC_of (envOk b) (orcOk b) Try.func41 (by rfl) rfl (by rfl) (by rfl) h1 (Nat.le_of_ble_eq_true h2) h3
/-- spec.IsNet -/
def n_s_IsNet : Nat := 42
noncomputable def b_s_IsNet : Code := (Try.f42.body).getD .skip
def k_s_IsNet : Nat → List Nat := fun n => lookN n []
theorem p_s_IsNet {args : List AV} {r : Pk} (b : Bool) (h1 : args.all AV.isD = true) (h2 : Nat.ble args.length 5 = true) (h3 : evFun (env b) orc k_s_IsNet [.bool] [.tmp 2] 5 b_s_IsNet args [] fun r' _ => r' = r) : orc.pc 42 args r :=
  pureC_of (envOk b) (orcOk b) Try.func42 (by rfl) rfl (by rfl) (by rfl) h1 (Nat.le_of_ble_eq_true h2) h3
/-- impl.BitPoint -/
def n_i_BitPoint : Nat := 43
noncomputable def b_i_BitPoint : Code := (Try.f43.body).getD .skip
def k_i_BitPoint : Nat → List Nat := fun n => lookN n []
theorem p_i_BitPoint {args : List AV} {r : Pk} (b : Bool) (h1 : args.all AV.isD = true) (h2 : Nat.ble args.length 20 = true) (h3 : evFun (env b) orc k_i_BitPoint [.sl (.int .i64), .bool] [.tmp 4, .tmp 5] 20 b_i_BitPoint args [] fun r' _ => r' = r) : orc.pc 43 args r :=
  pureC_of (envOk b) (orcOk b) Try.func43 (by rfl) rfl (by rfl) (by rfl) h1 (Nat.le_of_ble_eq_true h2) h3
/-- spec.DrawRunPerceptron -/
def n_s_DrawRunPerceptron : Nat := 44
noncomputable def b_s_DrawRunPerceptron : Code := (Try.f44.body).getD .skip
def k_s_DrawRunPerceptron : Nat → List Nat := fun n => lookN n []
theorem p_s_DrawRunPerceptron {args : List AV} {r : Pk} (b : Bool) (h1 : args.all AV.isD = true) (h2 : Nat.ble args.length 14 = true) (h3 : evFun (env b) orc k_s_DrawRunPerceptron [.pair (.sl (.sl (.int .i64))) (.pair (.sl (.int .i64)) (.unit)), .int .i64] [.cell 2 53, .tmp 3] 14 b_s_DrawRunPerceptron args [] fun r' _ => r' = r) : orc.pc 44 args r :=
  pureC_of (envOk b) (orcOk b) Try.func44 (by rfl) rfl (by rfl) (by rfl) h1 (Nat.le_of_ble_eq_true h2) h3
/-- impl.RunPerceptron -/
def n_i_RunPerceptron : Nat := 45
noncomputable def b_i_RunPerceptron : Code := (Try.f45.body).getD .skip
def k_i_RunPerceptron : Nat → List Nat := fun n => lookN n []
theorem p_i_RunPerceptron {args : List AV} {r : Pk} (b : Bool) (h1 : args.all AV.isD = true) (h2 : Nat.ble args.length 28 = true) (h3 : evFun (env b) orc k_i_RunPerceptron [.pair (.sl (.int .i64)) (.pair (.int .i64) (.unit)), .sl (.int .i64), .bool] [.cell 4 57, .tmp 5, .tmp 6] 28 b_i_RunPerceptron args [] fun r' _ => r' = r) : orc.pc 45 args r :=
  pureC_of (envOk b) (orcOk b) Try.func45 (by rfl) rfl (by rfl) (by rfl) h1 (Nat.le_of_ble_eq_true h2) h3
/-- spec.RunPerceptron -/
def n_s_RunPerceptron : Nat := 46
noncomputable def b_s_RunPerceptron : Code := (Try.f46.body).getD .skip
def k_s_RunPerceptron : Nat → List Nat := fun n => lookN n []
theorem p_s_RunPerceptron {args : List AV} {r : Pk} (b : Bool) (h1 : args.all AV.isD = true) (h2 : Nat.ble args.length 29 = true) (h3 : evFun (env b) orc k_s_RunPerceptron [.pair (.sl (.int .i64)) (.pair (.int .i64) (.unit)), .sl (.int .i64), .bool] [.cell 4 57, .tmp 5, .tmp 6] 29 b_s_RunPerceptron args [] fun r' _ => r' = r) : orc.pc 46 args r :=
  pureC_of (envOk b) (orcOk b) Try.func46 (by rfl) rfl (by rfl) (by rfl) h1 (Nat.le_of_ble_eq_true h2) h3
/-- impl.PerceptronTrace -/
def n_i_PerceptronTrace : Nat := 47
noncomputable def b_i_PerceptronTrace : Code := (Try.f47.body).getD .skip
def k_i_PerceptronTrace : Nat → List Nat := fun n => lookN n []
theorem p_i_PerceptronTrace {args : List AV} {r : Pk} (b : Bool) (h1 : args.all AV.isD = true) (h2 : Nat.ble args.length 19 = true) (h3 : evFun (env b) orc k_i_PerceptronTrace [.sl (.int .i64), .bool] [.tmp 4, .tmp 5] 19 b_i_PerceptronTrace args [] fun r' _ => r' = r) : orc.pc 47 args r :=
  pureC_of (envOk b) (orcOk b) Try.func47 (by rfl) rfl (by rfl) (by rfl) h1 (Nat.le_of_ble_eq_true h2) h3
/-- spec.PerceptronTrace -/
def n_s_PerceptronTrace : Nat := 48
noncomputable def b_s_PerceptronTrace : Code := (Try.f48.body).getD .skip
def k_s_PerceptronTrace : Nat → List Nat := fun n => lookN n []
theorem p_s_PerceptronTrace {args : List AV} {r : Pk} (b : Bool) (h1 : args.all AV.isD = true) (h2 : Nat.ble args.length 19 = true) (h3 : evFun (env b) orc k_s_PerceptronTrace [.sl (.int .i64), .bool] [.tmp 4, .tmp 5] 19 b_s_PerceptronTrace args [] fun r' _ => r' = r) : orc.pc 48 args r :=
  pureC_of (envOk b) (orcOk b) Try.func48 (by rfl) rfl (by rfl) (by rfl) h1 (Nat.le_of_ble_eq_true h2) h3
/-- impl.DualCounts -/
def n_i_DualCounts : Nat := 49
noncomputable def b_i_DualCounts : Code := (Try.f49.body).getD .skip
def k_i_DualCounts : Nat → List Nat := fun n => lookN n [(6, [0, 1, 2, 4, 5, 6, 7, 8, 24, 25, 26])]
theorem p_i_DualCounts {args : List AV} {r : Pk} (b : Bool) (h1 : args.all AV.isD = true) (h2 : Nat.ble args.length 38 = true) (h3 : evFun (env b) orc k_i_DualCounts [.sl (.int .i64), .bool] [.tmp 4, .tmp 5] 38 b_i_DualCounts args [] fun r' _ => r' = r) : orc.pc 49 args r :=
  pureC_of (envOk b) (orcOk b) Try.func49 (by rfl) rfl (by rfl) (by rfl) h1 (Nat.le_of_ble_eq_true h2) h3
/-- spec.DualCounts -/
def n_s_DualCounts : Nat := 50
noncomputable def b_s_DualCounts : Code := (Try.f50.body).getD .skip
def k_s_DualCounts : Nat → List Nat := fun n => lookN n [(6, [0, 1, 2, 4, 5, 6, 7, 8, 9])]
theorem p_s_DualCounts {args : List AV} {r : Pk} (b : Bool) (h1 : args.all AV.isD = true) (h2 : Nat.ble args.length 41 = true) (h3 : evFun (env b) orc k_s_DualCounts [.sl (.int .i64), .bool] [.tmp 4, .tmp 5] 41 b_s_DualCounts args [] fun r' _ => r' = r) : orc.pc 50 args r :=
  pureC_of (envOk b) (orcOk b) Try.func50 (by rfl) rfl (by rfl) (by rfl) h1 (Nat.le_of_ble_eq_true h2) h3
/-- impl.PocketPlane -/
def n_i_PocketPlane : Nat := 51
noncomputable def b_i_PocketPlane : Code := (Try.f51.body).getD .skip
def k_i_PocketPlane : Nat → List Nat := fun n => lookN n [(6, [0, 1, 2, 4, 5, 6, 7, 8, 25, 26, 27])]
theorem p_i_PocketPlane {args : List AV} {r : Pk} (b : Bool) (h1 : args.all AV.isD = true) (h2 : Nat.ble args.length 43 = true) (h3 : evFun (env b) orc k_i_PocketPlane [.pair (.sl (.int .i64)) (.pair (.int .i64) (.unit)), .bool] [.cell 4 57, .tmp 5] 43 b_i_PocketPlane args [] fun r' _ => r' = r) : orc.pc 51 args r :=
  pureC_of (envOk b) (orcOk b) Try.func51 (by rfl) rfl (by rfl) (by rfl) h1 (Nat.le_of_ble_eq_true h2) h3
/-- spec.PocketPlane -/
def n_s_PocketPlane : Nat := 52
noncomputable def b_s_PocketPlane : Code := (Try.f52.body).getD .skip
def k_s_PocketPlane : Nat → List Nat := fun n => lookN n [(6, [0, 1, 2, 4, 5, 6, 7, 8, 9])]
theorem p_s_PocketPlane {args : List AV} {r : Pk} (b : Bool) (h1 : args.all AV.isD = true) (h2 : Nat.ble args.length 49 = true) (h3 : evFun (env b) orc k_s_PocketPlane [.pair (.sl (.int .i64)) (.pair (.int .i64) (.unit)), .bool] [.cell 4 57, .tmp 5] 49 b_s_PocketPlane args [] fun r' _ => r' = r) : orc.pc 52 args r :=
  pureC_of (envOk b) (orcOk b) Try.func52 (by rfl) rfl (by rfl) (by rfl) h1 (Nat.le_of_ble_eq_true h2) h3
/-- spec.DrawPlaneOfCounts -/
def n_s_DrawPlaneOfCounts : Nat := 53
noncomputable def b_s_DrawPlaneOfCounts : Code := (Try.f53.body).getD .skip
def k_s_DrawPlaneOfCounts : Nat → List Nat := fun n => lookN n [(8, [0, 2, 3, 4, 5, 6, 7, 8, 9, 12])]
theorem p_s_DrawPlaneOfCounts {args : List AV} {r : Pk} (b : Bool) (h1 : args.all AV.isD = true) (h2 : Nat.ble args.length 56 = true) (h3 : evFun (env b) orc k_s_DrawPlaneOfCounts [.pair (.sl (.sl (.int .i64))) (.pair (.sl (.int .i64)) (.unit)), .sl (.int .i64)] [.cell 2 53, .tmp 3] 56 b_s_DrawPlaneOfCounts args [] fun r' _ => r' = r) : orc.pc 53 args r :=
  pureC_of (envOk b) (orcOk b) Try.func53 (by rfl) rfl (by rfl) (by rfl) h1 (Nat.le_of_ble_eq_true h2) h3
/-- impl.PlaneOfCounts -/
def n_i_PlaneOfCounts : Nat := 54
noncomputable def b_i_PlaneOfCounts : Code := (Try.f54.body).getD .skip
def k_i_PlaneOfCounts : Nat → List Nat := fun n => lookN n [(9, [0, 1, 2, 4, 5, 6, 7, 8, 9, 43, 44, 45, 60, 61, 62]), (5, [0, 1, 2, 4, 5, 6, 43, 44, 45])]
theorem p_i_PlaneOfCounts {args : List AV} {r : Pk} (b : Bool) (h1 : args.all AV.isD = true) (h2 : Nat.ble args.length 89 = true) (h3 : evFun (env b) orc k_i_PlaneOfCounts [.pair (.sl (.int .i64)) (.pair (.int .i64) (.unit)), .bool] [.cell 4 57, .tmp 5] 89 b_i_PlaneOfCounts args [] fun r' _ => r' = r) : orc.pc 54 args r :=
  pureC_of (envOk b) (orcOk b) Try.func54 (by rfl) rfl (by rfl) (by rfl) h1 (Nat.le_of_ble_eq_true h2) h3
/-- spec.PlaneOfCounts -/
def n_s_PlaneOfCounts : Nat := 55
noncomputable def b_s_PlaneOfCounts : Code := (Try.f55.body).getD .skip
def k_s_PlaneOfCounts : Nat → List Nat := fun n => lookN n [(10, [0, 1, 2, 4, 5, 6, 7, 8]), (5, [0, 1, 2, 4, 6, 7])]
theorem p_s_PlaneOfCounts {args : List AV} {r : Pk} (b : Bool) (h1 : args.all AV.isD = true) (h2 : Nat.ble args.length 102 = true) (h3 : evFun (env b) orc k_s_PlaneOfCounts [.pair (.sl (.int .i64)) (.pair (.int .i64) (.unit)), .bool] [.cell 4 57, .tmp 5] 102 b_s_PlaneOfCounts args [] fun r' _ => r' = r) : orc.pc 55 args r :=
  pureC_of (envOk b) (orcOk b) Try.func55 (by rfl) rfl (by rfl) (by rfl) h1 (Nat.le_of_ble_eq_true h2) h3
/-- laws.vPlane -/
def n_l_vPlane : Nat := 56
noncomputable def b_l_vPlane : Code := (Try.f56.body).getD .skip
def k_l_vPlane : Nat → List Nat := fun n => lookN n []
theorem p_l_vPlane {args : List AV} {r : Pk} (b : Bool) (h1 : args.all AV.isD = true) (h2 : Nat.ble args.length 17 = true) (h3 : evFun (env b) orc k_l_vPlane [.bool] [.tmp 4] 17 b_l_vPlane args [] fun r' _ => r' = r) : orc.pc 56 args r :=
  pureC_of (envOk b) (orcOk b) Try.func56 (by rfl) rfl (by rfl) (by rfl) h1 (Nat.le_of_ble_eq_true h2) h3
/-- laws.vAdd -/
def n_l_vAdd : Nat := 57
noncomputable def b_l_vAdd : Code := (Try.f57.body).getD .skip
def k_l_vAdd : Nat → List Nat := fun n => lookN n [(3, [0, 2, 3, 4])]
theorem p_l_vAdd {args : List AV} {r : Pk} (b : Bool) (h1 : args.all AV.isD = true) (h2 : Nat.ble args.length 18 = true) (h3 : evFun (env b) orc k_l_vAdd [.int .i64] [.tmp 2] 18 b_l_vAdd args [] fun r' _ => r' = r) : orc.pc 57 args r :=
  pureC_of (envOk b) (orcOk b) Try.func57 (by rfl) rfl (by rfl) (by rfl) h1 (Nat.le_of_ble_eq_true h2) h3
/-- impl.MistakesOf -/
def n_i_MistakesOf : Nat := 58
noncomputable def b_i_MistakesOf : Code := (Try.f58.body).getD .skip
def k_i_MistakesOf : Nat → List Nat := fun n => lookN n []
theorem p_i_MistakesOf {args : List AV} {r : Pk} (b : Bool) (h1 : args.all AV.isD = true) (h2 : Nat.ble args.length 13 = true) (h3 : evFun (env b) orc k_i_MistakesOf [.sl (.int .i64), .bool] [.tmp 4, .tmp 5] 13 b_i_MistakesOf args [] fun r' _ => r' = r) : orc.pc 58 args r :=
  pureC_of (envOk b) (orcOk b) Try.func58 (by rfl) rfl (by rfl) (by rfl) h1 (Nat.le_of_ble_eq_true h2) h3
/-- impl.FitsSample -/
def n_i_FitsSample : Nat := 59
noncomputable def b_i_FitsSample : Code := (Try.f59.body).getD .skip
def k_i_FitsSample : Nat → List Nat := fun n => lookN n []
theorem p_i_FitsSample {args : List AV} {r : Pk} (b : Bool) (h1 : args.all AV.isD = true) (h2 : Nat.ble args.length 15 = true) (h3 : evFun (env b) orc k_i_FitsSample [.bool, .bool] [.tmp 4, .tmp 5] 15 b_i_FitsSample args [] fun r' _ => r' = r) : orc.pc 59 args r :=
  pureC_of (envOk b) (orcOk b) Try.func59 (by rfl) rfl (by rfl) (by rfl) h1 (Nat.le_of_ble_eq_true h2) h3
/-- impl.StepPerceptron -/
def n_i_StepPerceptron : Nat := 60
noncomputable def b_i_StepPerceptron : Code := (Try.f60.body).getD .skip
def k_i_StepPerceptron : Nat → List Nat := fun n => lookN n []
theorem p_i_StepPerceptron {args : List AV} {r : Pk} (b : Bool) (h1 : args.all AV.isD = true) (h2 : Nat.ble args.length 39 = true) (h3 : evFun (env b) orc k_i_StepPerceptron [.pair (.sl (.int .i64)) (.pair (.int .i64) (.unit)), .bool, .bool] [.cell 6 57, .tmp 7, .tmp 8] 39 b_i_StepPerceptron args [] fun r' _ => r' = r) : orc.pc 60 args r :=
  pureC_of (envOk b) (orcOk b) Try.func60 (by rfl) rfl (by rfl) (by rfl) h1 (Nat.le_of_ble_eq_true h2) h3
/-- spec.DrawOwnTable -/
def n_s_DrawOwnTable : Nat := 61
noncomputable def b_s_DrawOwnTable : Code := (Try.f61.body).getD .skip
def k_s_DrawOwnTable : Nat → List Nat := fun n => lookN n []
theorem p_s_DrawOwnTable {args : List AV} {r : Pk} (b : Bool) (h1 : args.all AV.isD = true) (h2 : Nat.ble args.length 5 = true) (h3 : evFun (env b) orc k_s_DrawOwnTable [.pair (.pair (.sl (.sl (.int .i64))) (.pair (.sl (.int .i64)) (.unit))) (.pair (.pair (.sl (.int .i64)) (.pair (.int .i64) (.unit))) (.pair (.int .i64) (.pair (.int .i64) (.unit))))] [.cell 2 74] 5 b_s_DrawOwnTable args [] fun r' _ => r' = r) : orc.pc 61 args r :=
  pureC_of (envOk b) (orcOk b) Try.func61 (by rfl) rfl (by rfl) (by rfl) h1 (Nat.le_of_ble_eq_true h2) h3
/-- impl.OwnTable -/
def n_i_OwnTable : Nat := 62
noncomputable def b_i_OwnTable : Code := (Try.f62.body).getD .skip
def k_i_OwnTable : Nat → List Nat := fun n => lookN n []
theorem p_i_OwnTable {args : List AV} {r : Pk} (b : Bool) (h1 : args.all AV.isD = true) (h2 : Nat.ble args.length 10 = true) (h3 : evFun (env b) orc k_i_OwnTable [.sl (.int .i64), .bool] [.tmp 2, .tmp 3] 10 b_i_OwnTable args [] fun r' _ => r' = r) : orc.pc 62 args r :=
  pureC_of (envOk b) (orcOk b) Try.func62 (by rfl) rfl (by rfl) (by rfl) h1 (Nat.le_of_ble_eq_true h2) h3
/-- spec.OwnTable -/
def n_s_OwnTable : Nat := 63
noncomputable def b_s_OwnTable : Code := (Try.f63.body).getD .skip
def k_s_OwnTable : Nat → List Nat := fun n => lookN n []
theorem p_s_OwnTable {args : List AV} {r : Pk} (b : Bool) (h1 : args.all AV.isD = true) (h2 : Nat.ble args.length 10 = true) (h3 : evFun (env b) orc k_s_OwnTable [.sl (.int .i64), .bool] [.tmp 2, .tmp 3] 10 b_s_OwnTable args [] fun r' _ => r' = r) : orc.pc 63 args r :=
  pureC_of (envOk b) (orcOk b) Try.func63 (by rfl) rfl (by rfl) (by rfl) h1 (Nat.le_of_ble_eq_true h2) h3
/-- impl.PlaneNumbers -/
def n_i_PlaneNumbers : Nat := 64
noncomputable def b_i_PlaneNumbers : Code := (Try.f64.body).getD .skip
def k_i_PlaneNumbers : Nat → List Nat := fun n => lookN n []
theorem p_i_PlaneNumbers {args : List AV} {r : Pk} (b : Bool) (h1 : args.all AV.isD = true) (h2 : Nat.ble args.length 16 = true) (h3 : evFun (env b) orc k_i_PlaneNumbers [.sl (.int .i64), .bool] [.tmp 2, .tmp 3] 16 b_i_PlaneNumbers args [] fun r' _ => r' = r) : orc.pc 64 args r :=
  pureC_of (envOk b) (orcOk b) Try.func64 (by rfl) rfl (by rfl) (by rfl) h1 (Nat.le_of_ble_eq_true h2) h3
/-- spec.PlaneNumbers -/
def n_s_PlaneNumbers : Nat := 65
noncomputable def b_s_PlaneNumbers : Code := (Try.f65.body).getD .skip
def k_s_PlaneNumbers : Nat → List Nat := fun n => lookN n []
theorem p_s_PlaneNumbers {args : List AV} {r : Pk} (b : Bool) (h1 : args.all AV.isD = true) (h2 : Nat.ble args.length 10 = true) (h3 : evFun (env b) orc k_s_PlaneNumbers [.sl (.int .i64), .bool] [.tmp 2, .tmp 3] 10 b_s_PlaneNumbers args [] fun r' _ => r' = r) : orc.pc 65 args r :=
  pureC_of (envOk b) (orcOk b) Try.func65 (by rfl) rfl (by rfl) (by rfl) h1 (Nat.le_of_ble_eq_true h2) h3
/-- spec.IsSchool -/
def n_s_IsSchool : Nat := 66
noncomputable def b_s_IsSchool : Code := (Try.f66.body).getD .skip
def k_s_IsSchool : Nat → List Nat := fun n => lookN n []
theorem p_s_IsSchool {args : List AV} {r : Pk} (b : Bool) (h1 : args.all AV.isD = true) (h2 : Nat.ble args.length 5 = true) (h3 : evFun (env b) orc k_s_IsSchool [.bool] [.tmp 2] 5 b_s_IsSchool args [] fun r' _ => r' = r) : orc.pc 66 args r :=
  pureC_of (envOk b) (orcOk b) Try.func66 (by rfl) rfl (by rfl) (by rfl) h1 (Nat.le_of_ble_eq_true h2) h3
/-- impl.PlaneTable -/
def n_i_PlaneTable : Nat := 67
noncomputable def b_i_PlaneTable : Code := (Try.f67.body).getD .skip
def k_i_PlaneTable : Nat → List Nat := fun n => lookN n []
theorem p_i_PlaneTable {args : List AV} {r : Pk} (b : Bool) (h1 : args.all AV.isD = true) (h2 : Nat.ble args.length 9 = true) (h3 : evFun (env b) orc k_i_PlaneTable [.sl (.int .i64), .bool] [.tmp 2, .tmp 3] 9 b_i_PlaneTable args [] fun r' _ => r' = r) : orc.pc 67 args r :=
  pureC_of (envOk b) (orcOk b) Try.func67 (by rfl) rfl (by rfl) (by rfl) h1 (Nat.le_of_ble_eq_true h2) h3
/-- impl.IsThreshold -/
def n_i_IsThreshold : Nat := 68
noncomputable def b_i_IsThreshold : Code := (Try.f68.body).getD .skip
def k_i_IsThreshold : Nat → List Nat := fun n => lookN n []
theorem p_i_IsThreshold {args : List AV} {r : Pk} (b : Bool) (h1 : args.all AV.isD = true) (h2 : Nat.ble args.length 13 = true) (h3 : evFun (env b) orc k_i_IsThreshold [.bool, .bool] [.tmp 4, .tmp 5] 13 b_i_IsThreshold args [] fun r' _ => r' = r) : orc.pc 68 args r :=
  pureC_of (envOk b) (orcOk b) Try.func68 (by rfl) rfl (by rfl) (by rfl) h1 (Nat.le_of_ble_eq_true h2) h3
/-- spec.DrawNegateNet -/
def n_s_DrawNegateNet : Nat := 69
noncomputable def b_s_DrawNegateNet : Code := (Try.f69.body).getD .skip
def k_s_DrawNegateNet : Nat → List Nat := fun n => lookN n []
theorem p_s_DrawNegateNet {args : List AV} {r : Pk} (b : Bool) (h1 : args.all AV.isD = true) (h2 : Nat.ble args.length 5 = true) (h3 : evFun (env b) orc k_s_DrawNegateNet [.pair (.int .i64) (.pair (.sl (.sl (.pair (.sl (.int .i64)) (.pair (.int .i64) (.unit))))) (.unit))] [.cell 2 37] 5 b_s_DrawNegateNet args [] fun r' _ => r' = r) : orc.pc 69 args r :=
  pureC_of (envOk b) (orcOk b) Try.func69 (by rfl) rfl (by rfl) (by rfl) h1 (Nat.le_of_ble_eq_true h2) h3
/-- impl.NegateNet -/
def n_i_NegateNet : Nat := 70
noncomputable def b_i_NegateNet : Code := (Try.f70.body).getD .skip
def k_i_NegateNet : Nat → List Nat := fun n => lookN n [(9, [0, 1, 2, 4, 5, 6, 7, 20, 21, 22, 29, 30, 31]), (5, [0, 1, 2, 4, 20, 21, 22])]
theorem p_i_NegateNet {args : List AV} {r : Pk} (b : Bool) (h1 : args.all AV.isD = true) (h2 : Nat.ble args.length 63 = true) (h3 : evFun (env b) orc k_i_NegateNet [.pair (.int .i64) (.pair (.sl (.sl (.pair (.sl (.int .i64)) (.pair (.int .i64) (.unit))))) (.unit)), .bool] [.cell 2 37, .tmp 3] 63 b_i_NegateNet args [] fun r' _ => r' = r) : orc.pc 70 args r :=
  pureC_of (envOk b) (orcOk b) Try.func70 (by rfl) rfl (by rfl) (by rfl) h1 (Nat.le_of_ble_eq_true h2) h3
/-- spec.NegateNet -/
def n_s_NegateNet : Nat := 71
noncomputable def b_s_NegateNet : Code := (Try.f71.body).getD .skip
def k_s_NegateNet : Nat → List Nat := fun n => lookN n [(6, [0, 1, 2, 4, 5, 6])]
theorem p_s_NegateNet {args : List AV} {r : Pk} (b : Bool) (h1 : args.all AV.isD = true) (h2 : Nat.ble args.length 45 = true) (h3 : evFun (env b) orc k_s_NegateNet [.pair (.int .i64) (.pair (.sl (.sl (.pair (.sl (.int .i64)) (.pair (.int .i64) (.unit))))) (.unit)), .bool] [.cell 2 37, .tmp 3] 45 b_s_NegateNet args [] fun r' _ => r' = r) : orc.pc 71 args r :=
  pureC_of (envOk b) (orcOk b) Try.func71 (by rfl) rfl (by rfl) (by rfl) h1 (Nat.le_of_ble_eq_true h2) h3
/-- impl.GateCount -/
def n_i_GateCount : Nat := 72
noncomputable def b_i_GateCount : Code := (Try.f72.body).getD .skip
def k_i_GateCount : Nat → List Nat := fun n => lookN n [(5, [0, 1, 2, 3, 4, 11, 12, 13])]
theorem p_i_GateCount {args : List AV} {r : Pk} (b : Bool) (h1 : args.all AV.isD = true) (h2 : Nat.ble args.length 23 = true) (h3 : evFun (env b) orc k_i_GateCount [.int .i64, .bool] [.tmp 2, .tmp 3] 23 b_i_GateCount args [] fun r' _ => r' = r) : orc.pc 72 args r :=
  pureC_of (envOk b) (orcOk b) Try.func72 (by rfl) rfl (by rfl) (by rfl) h1 (Nat.le_of_ble_eq_true h2) h3
/-- spec.GateCount -/
def n_s_GateCount : Nat := 73
noncomputable def b_s_GateCount : Code := (Try.f73.body).getD .skip
def k_s_GateCount : Nat → List Nat := fun n => lookN n [(5, [0, 1, 2, 3, 4, 5])]
theorem p_s_GateCount {args : List AV} {r : Pk} (b : Bool) (h1 : args.all AV.isD = true) (h2 : Nat.ble args.length 25 = true) (h3 : evFun (env b) orc k_s_GateCount [.int .i64, .bool] [.tmp 2, .tmp 3] 25 b_s_GateCount args [] fun r' _ => r' = r) : orc.pc 73 args r :=
  pureC_of (envOk b) (orcOk b) Try.func73 (by rfl) rfl (by rfl) (by rfl) h1 (Nat.le_of_ble_eq_true h2) h3
/-- impl.WeightSum -/
def n_i_WeightSum : Nat := 74
noncomputable def b_i_WeightSum : Code := (Try.f74.body).getD .skip
def k_i_WeightSum : Nat → List Nat := fun n => lookN n [(11, [0, 1, 2, 3, 4, 6, 8, 15, 16, 17, 21, 22, 23, 28, 29, 30]), (8, [0, 1, 2, 3, 4, 6, 15, 16, 17, 21, 22, 23]), (5, [0, 1, 2, 3, 4, 15, 16, 17])]
theorem p_i_WeightSum {args : List AV} {r : Pk} (b : Bool) (h1 : args.all AV.isD = true) (h2 : Nat.ble args.length 44 = true) (h3 : evFun (env b) orc k_i_WeightSum [.int .i64, .bool] [.tmp 2, .tmp 3] 44 b_i_WeightSum args [] fun r' _ => r' = r) : orc.pc 74 args r :=
  pureC_of (envOk b) (orcOk b) Try.func74 (by rfl) rfl (by rfl) (by rfl) h1 (Nat.le_of_ble_eq_true h2) h3
/-- spec.WeightSum -/
def n_s_WeightSum : Nat := 75
noncomputable def b_s_WeightSum : Code := (Try.f75.body).getD .skip
def k_s_WeightSum : Nat → List Nat := fun n => lookN n [(8, [0, 1, 2, 3, 4, 5, 6]), (5, [0, 1, 2, 3, 4, 5])]
theorem p_s_WeightSum {args : List AV} {r : Pk} (b : Bool) (h1 : args.all AV.isD = true) (h2 : Nat.ble args.length 40 = true) (h3 : evFun (env b) orc k_s_WeightSum [.int .i64, .bool] [.tmp 2, .tmp 3] 40 b_s_WeightSum args [] fun r' _ => r' = r) : orc.pc 75 args r :=
  pureC_of (envOk b) (orcOk b) Try.func75 (by rfl) rfl (by rfl) (by rfl) h1 (Nat.le_of_ble_eq_true h2) h3
/-- spec.DrawSinglePlane -/
def n_s_DrawSinglePlane : Nat := 76
noncomputable def b_s_DrawSinglePlane : Code := (Try.f76.body).getD .skip
def k_s_DrawSinglePlane : Nat → List Nat := fun n => lookN n []
theorem p_s_DrawSinglePlane {args : List AV} {r : Pk} (b : Bool) (h1 : args.all AV.isD = true) (h2 : Nat.ble args.length 38 = true) (h3 : evFun (env b) orc k_s_DrawSinglePlane [.pair (.int .i64) (.pair (.sl (.sl (.pair (.sl (.int .i64)) (.pair (.int .i64) (.unit))))) (.unit))] [.cell 2 37] 38 b_s_DrawSinglePlane args [] fun r' _ => r' = r) : orc.pc 76 args r :=
  pureC_of (envOk b) (orcOk b) Try.func76 (by rfl) rfl (by rfl) (by rfl) h1 (Nat.le_of_ble_eq_true h2) h3
/-- impl.SinglePlane -/
def n_i_SinglePlane : Nat := 77
noncomputable def b_i_SinglePlane : Code := (Try.f77.body).getD .skip
def k_i_SinglePlane : Nat → List Nat := fun n => lookN n []
theorem p_i_SinglePlane {args : List AV} {r : Pk} (b : Bool) (h1 : args.all AV.isD = true) (h2 : Nat.ble args.length 23 = true) (h3 : evFun (env b) orc k_i_SinglePlane [.pair (.sl (.int .i64)) (.pair (.int .i64) (.unit)), .bool] [.cell 2 57, .tmp 3] 23 b_i_SinglePlane args [] fun r' _ => r' = r) : orc.pc 77 args r :=
  pureC_of (envOk b) (orcOk b) Try.func77 (by rfl) rfl (by rfl) (by rfl) h1 (Nat.le_of_ble_eq_true h2) h3
/-- spec.SinglePlane -/
def n_s_SinglePlane : Nat := 78
noncomputable def b_s_SinglePlane : Code := (Try.f78.body).getD .skip
def k_s_SinglePlane : Nat → List Nat := fun n => lookN n []
theorem p_s_SinglePlane {args : List AV} {r : Pk} (b : Bool) (h1 : args.all AV.isD = true) (h2 : Nat.ble args.length 29 = true) (h3 : evFun (env b) orc k_s_SinglePlane [.pair (.sl (.int .i64)) (.pair (.int .i64) (.unit)), .bool] [.cell 2 57, .tmp 3] 29 b_s_SinglePlane args [] fun r' _ => r' = r) : orc.pc 78 args r :=
  pureC_of (envOk b) (orcOk b) Try.func78 (by rfl) rfl (by rfl) (by rfl) h1 (Nat.le_of_ble_eq_true h2) h3
/-- spec.DrawSwitchPlan -/
def n_s_DrawSwitchPlan : Nat := 79
noncomputable def b_s_DrawSwitchPlan : Code := (Try.f79.body).getD .skip
def k_s_DrawSwitchPlan : Nat → List Nat := fun n => lookN n []
theorem p_s_DrawSwitchPlan {args : List AV} {r : Pk} (b : Bool) (h1 : args.all AV.isD = true) (h2 : Nat.ble args.length 8 = true) (h3 : evFun (env b) orc k_s_DrawSwitchPlan [.pair (.sl (.sl (.int .i64))) (.pair (.sl (.int .i64)) (.unit)), .int .i64] [.cell 2 27, .tmp 3] 8 b_s_DrawSwitchPlan args [] fun r' _ => r' = r) : orc.pc 79 args r :=
  pureC_of (envOk b) (orcOk b) Try.func79 (by rfl) rfl (by rfl) (by rfl) h1 (Nat.le_of_ble_eq_true h2) h3
/-- impl.SwitchPlan -/
def n_i_SwitchPlan : Nat := 80
noncomputable def b_i_SwitchPlan : Code := (Try.f80.body).getD .skip
def k_i_SwitchPlan : Nat → List Nat := fun n => lookN n [(9, [0, 1, 2, 4, 5, 6, 7, 8, 9, 33, 34, 39, 40]), (6, [0, 1, 2, 4, 5, 6, 7, 8, 33, 34])]
theorem p_i_SwitchPlan {args : List AV} {r : Pk} (b : Bool) (h1 : args.all AV.isD = true) (h2 : Nat.ble args.length 87 = true) (h3 : evFun (env b) orc k_i_SwitchPlan [.sl (.int .i64), .bool] [.tmp 4, .tmp 5] 87 b_i_SwitchPlan args [] fun r' _ => r' = r) : orc.pc 80 args r :=
  pureC_of (envOk b) (orcOk b) Try.func80 (by rfl) rfl (by rfl) (by rfl) h1 (Nat.le_of_ble_eq_true h2) h3
/-- spec.SwitchPlan -/
def n_s_SwitchPlan : Nat := 81
noncomputable def b_s_SwitchPlan : Code := (Try.f81.body).getD .skip
def k_s_SwitchPlan : Nat → List Nat := fun n => lookN n [(10, [0, 1, 2, 4, 5, 6, 7, 8, 9, 10, 11]), (7, [0, 1, 2, 4, 5, 6, 7, 8, 9, 10])]
theorem p_s_SwitchPlan {args : List AV} {r : Pk} (b : Bool) (h1 : args.all AV.isD = true) (h2 : Nat.ble args.length 93 = true) (h3 : evFun (env b) orc k_s_SwitchPlan [.sl (.int .i64), .bool] [.tmp 4, .tmp 5] 93 b_s_SwitchPlan args [] fun r' _ => r' = r) : orc.pc 81 args r :=
  pureC_of (envOk b) (orcOk b) Try.func81 (by rfl) rfl (by rfl) (by rfl) h1 (Nat.le_of_ble_eq_true h2) h3
/-- impl.SwitchWrong -/
def n_i_SwitchWrong : Nat := 82
noncomputable def b_i_SwitchWrong : Code := (Try.f82.body).getD .skip
def k_i_SwitchWrong : Nat → List Nat := fun n => lookN n []
theorem p_i_SwitchWrong {args : List AV} {r : Pk} (b : Bool) (h1 : args.all AV.isD = true) (h2 : Nat.ble args.length 23 = true) (h3 : evFun (env b) orc k_i_SwitchWrong [.int .i64, .bool] [.tmp 4, .tmp 5] 23 b_i_SwitchWrong args [] fun r' _ => r' = r) : orc.pc 82 args r :=
  pureC_of (envOk b) (orcOk b) Try.func82 (by rfl) rfl (by rfl) (by rfl) h1 (Nat.le_of_ble_eq_true h2) h3
/-- spec.SwitchWrong -/
def n_s_SwitchWrong : Nat := 83
noncomputable def b_s_SwitchWrong : Code := (Try.f83.body).getD .skip
def k_s_SwitchWrong : Nat → List Nat := fun n => lookN n []
theorem p_s_SwitchWrong {args : List AV} {r : Pk} (b : Bool) (h1 : args.all AV.isD = true) (h2 : Nat.ble args.length 21 = true) (h3 : evFun (env b) orc k_s_SwitchWrong [.int .i64, .bool] [.tmp 4, .tmp 5] 21 b_s_SwitchWrong args [] fun r' _ => r' = r) : orc.pc 83 args r :=
  pureC_of (envOk b) (orcOk b) Try.func83 (by rfl) rfl (by rfl) (by rfl) h1 (Nat.le_of_ble_eq_true h2) h3
/-- spec.DrawPanelOf -/
def n_s_DrawPanelOf : Nat := 84
noncomputable def b_s_DrawPanelOf : Code := (Try.f84.body).getD .skip
def k_s_DrawPanelOf : Nat → List Nat := fun n => lookN n []
theorem p_s_DrawPanelOf {args : List AV} {r : Pk} (b : Bool) (h1 : args.all AV.isD = true) (h2 : Nat.ble args.length 36 = true) (h3 : evFun (env b) orc k_s_DrawPanelOf [.pair (.sl (.sl (.int .i64))) (.pair (.sl (.int .i64)) (.unit)), .sl (.pair (.sl (.int .i64)) (.pair (.int .i64) (.unit)))] [.cell 2 53, .tmp 3] 36 b_s_DrawPanelOf args [] fun r' _ => r' = r) : orc.pc 84 args r :=
  pureC_of (envOk b) (orcOk b) Try.func84 (by rfl) rfl (by rfl) (by rfl) h1 (Nat.le_of_ble_eq_true h2) h3
/-- impl.PanelOf -/
def n_i_PanelOf : Nat := 85
noncomputable def b_i_PanelOf : Code := (Try.f85.body).getD .skip
def k_i_PanelOf : Nat → List Nat := fun n => lookN n [(5, [0, 1, 2, 4, 5, 6, 32, 33, 34])]
theorem p_i_PanelOf {args : List AV} {r : Pk} (b : Bool) (h1 : args.all AV.isD = true) (h2 : Nat.ble args.length 52 = true) (h3 : evFun (env b) orc k_i_PanelOf [.pair (.sl (.sl (.int .i64))) (.pair (.sl (.int .i64)) (.unit)), .bool] [.cell 4 27, .tmp 5] 52 b_i_PanelOf args [] fun r' _ => r' = r) : orc.pc 85 args r :=
  pureC_of (envOk b) (orcOk b) Try.func85 (by rfl) rfl (by rfl) (by rfl) h1 (Nat.le_of_ble_eq_true h2) h3
/-- spec.PanelOf -/
def n_s_PanelOf : Nat := 86
noncomputable def b_s_PanelOf : Code := (Try.f86.body).getD .skip
def k_s_PanelOf : Nat → List Nat := fun n => lookN n [(5, [0, 1, 2, 4, 5, 6, 7])]
theorem p_s_PanelOf {args : List AV} {r : Pk} (b : Bool) (h1 : args.all AV.isD = true) (h2 : Nat.ble args.length 48 = true) (h3 : evFun (env b) orc k_s_PanelOf [.pair (.sl (.sl (.int .i64))) (.pair (.sl (.int .i64)) (.unit)), .bool] [.cell 4 27, .tmp 5] 48 b_s_PanelOf args [] fun r' _ => r' = r) : orc.pc 86 args r :=
  pureC_of (envOk b) (orcOk b) Try.func86 (by rfl) rfl (by rfl) (by rfl) h1 (Nat.le_of_ble_eq_true h2) h3
/-- laws.rPanel -/
def n_l_rPanel : Nat := 87
noncomputable def b_l_rPanel : Code := (Try.f87.body).getD .skip
def k_l_rPanel : Nat → List Nat := fun n => lookN n []
theorem p_l_rPanel {args : List AV} {r : Pk} (b : Bool) (h1 : args.all AV.isD = true) (h2 : Nat.ble args.length 17 = true) (h3 : evFun (env b) orc k_l_rPanel [.bool] [.tmp 4] 17 b_l_rPanel args [] fun r' _ => r' = r) : orc.pc 87 args r :=
  pureC_of (envOk b) (orcOk b) Try.func87 (by rfl) rfl (by rfl) (by rfl) h1 (Nat.le_of_ble_eq_true h2) h3
/-- spec.DrawWithOpposites -/
def n_s_DrawWithOpposites : Nat := 88
noncomputable def b_s_DrawWithOpposites : Code := (Try.f88.body).getD .skip
def k_s_DrawWithOpposites : Nat → List Nat := fun n => lookN n []
theorem p_s_DrawWithOpposites {args : List AV} {r : Pk} (b : Bool) (h1 : args.all AV.isD = true) (h2 : Nat.ble args.length 12 = true) (h3 : evFun (env b) orc k_s_DrawWithOpposites [.pair (.sl (.sl (.int .i64))) (.pair (.sl (.int .i64)) (.unit))] [.cell 2 27] 12 b_s_DrawWithOpposites args [] fun r' _ => r' = r) : orc.pc 88 args r :=
  pureC_of (envOk b) (orcOk b) Try.func88 (by rfl) rfl (by rfl) (by rfl) h1 (Nat.le_of_ble_eq_true h2) h3
/-- impl.WithOpposites -/
def n_i_WithOpposites : Nat := 89
noncomputable def b_i_WithOpposites : Code := (Try.f89.body).getD .skip
def k_i_WithOpposites : Nat → List Nat := fun n => lookN n [(9, [0, 1, 2, 3, 4, 6, 7, 27, 28, 29, 36, 37]), (5, [0, 1, 2, 3, 4, 27, 28, 29])]
theorem p_i_WithOpposites {args : List AV} {r : Pk} (b : Bool) (h1 : args.all AV.isD = true) (h2 : Nat.ble args.length 55 = true) (h3 : evFun (env b) orc k_i_WithOpposites [.pair (.sl (.sl (.int .i64))) (.pair (.sl (.int .i64)) (.unit)), .bool] [.cell 2 27, .tmp 3] 55 b_i_WithOpposites args [] fun r' _ => r' = r) : orc.pc 89 args r :=
  pureC_of (envOk b) (orcOk b) Try.func89 (by rfl) rfl (by rfl) (by rfl) h1 (Nat.le_of_ble_eq_true h2) h3
/-- spec.WithOpposites -/
def n_s_WithOpposites : Nat := 90
noncomputable def b_s_WithOpposites : Code := (Try.f90.body).getD .skip
def k_s_WithOpposites : Nat → List Nat := fun n => lookN n [(5, [0, 1, 2, 3, 4, 5])]
theorem p_s_WithOpposites {args : List AV} {r : Pk} (b : Bool) (h1 : args.all AV.isD = true) (h2 : Nat.ble args.length 43 = true) (h3 : evFun (env b) orc k_s_WithOpposites [.pair (.sl (.sl (.int .i64))) (.pair (.sl (.int .i64)) (.unit)), .bool] [.cell 2 27, .tmp 3] 43 b_s_WithOpposites args [] fun r' _ => r' = r) : orc.pc 90 args r :=
  pureC_of (envOk b) (orcOk b) Try.func90 (by rfl) rfl (by rfl) (by rfl) h1 (Nat.le_of_ble_eq_true h2) h3
/-- spec.DrawIsPanel -/
def n_s_DrawIsPanel : Nat := 91
noncomputable def b_s_DrawIsPanel : Code := (Try.f91.body).getD .skip
def k_s_DrawIsPanel : Nat → List Nat := fun n => lookN n []
theorem p_s_DrawIsPanel {args : List AV} {r : Pk} (b : Bool) (h1 : args.all AV.isD = true) (h2 : Nat.ble args.length 9 = true) (h3 : evFun (env b) orc k_s_DrawIsPanel [.pair (.sl (.sl (.int .i64))) (.pair (.sl (.int .i64)) (.unit))] [.cell 2 27] 9 b_s_DrawIsPanel args [] fun r' _ => r' = r) : orc.pc 91 args r :=
  pureC_of (envOk b) (orcOk b) Try.func91 (by rfl) rfl (by rfl) (by rfl) h1 (Nat.le_of_ble_eq_true h2) h3
/-- (impl.Panel).forecast -/
def n_i_Panel_forecast : Nat := 92
noncomputable def b_i_Panel_forecast : Code := (Try.f92.body).getD .skip
def k_i_Panel_forecast : Nat → List Nat := fun n => lookN n [(3, [0, 1, 2, 4, 5, 10, 11])]
theorem p_i_Panel_forecast {args : List AV} {r : Pk} (b : Bool) (h1 : args.all AV.isD = true) (h2 : Nat.ble args.length 25 = true) (h3 : evFun (env b) orc k_i_Panel_forecast [.sl (.int .i64)] [.tmp 4] 25 b_i_Panel_forecast args [] fun r' _ => r' = r) : orc.pc 92 args r :=
  pureC_of (envOk b) (orcOk b) Try.func92 (by rfl) rfl (by rfl) (by rfl) h1 (Nat.le_of_ble_eq_true h2) h3
/-- impl.HalvingSays$1 -/
def n_i_HalvingSays_1 : Nat := 93
noncomputable def b_i_HalvingSays_1 : Code := (Try.f93.body).getD .skip
def k_i_HalvingSays_1 : Nat → List Nat := fun n => lookN n [(3, [0, 1, 2, 5, 6, 9, 10, 11])]
theorem p_i_HalvingSays_1 {args : List AV} {r : Pk} (b : Bool) (h1 : args.all AV.isD = true) (h2 : Nat.ble args.length 32 = true) (h3 : evFun (env b) orc k_i_HalvingSays_1 [.int .i64] [.tmp 5] 32 b_i_HalvingSays_1 args [] fun r' _ => r' = r) : orc.pc 93 args r :=
  pureC_of (envOk b) (orcOk b) Try.func93 (by rfl) rfl (by rfl) (by rfl) h1 (Nat.le_of_ble_eq_true h2) h3
/-- impl.sign -/
def n_i_sign : Nat := 94
noncomputable def b_i_sign : Code := (Try.f94.body).getD .skip
def k_i_sign : Nat → List Nat := fun n => lookN n []
theorem p_i_sign {args : List AV} {r : Pk} (b : Bool) (h1 : args.all AV.isD = true) (h2 : Nat.ble args.length 5 = true) (h3 : evFun (env b) orc k_i_sign [.int .i64] [.tmp 2] 5 b_i_sign args [] fun r' _ => r' = r) : orc.pc 94 args r :=
  pureC_of (envOk b) (orcOk b) Try.func94 (by rfl) rfl (by rfl) (by rfl) h1 (Nat.le_of_ble_eq_true h2) h3
/-- spec.l11Panel -/
def n_s_l11Panel : Nat := 95
noncomputable def b_s_l11Panel : Code := (Try.f95.body).getD .skip
def k_s_l11Panel : Nat → List Nat := fun n => lookN n [(2, [0, 1, 3])]
theorem p_s_l11Panel {args : List AV} {r : Pk} (b : Bool) (h1 : args.all AV.isD = true) (h2 : Nat.ble args.length 36 = true) (h3 : evFun (env b) orc k_s_l11Panel [.bool] [.tmp 2] 36 b_s_l11Panel args [] fun r' _ => r' = r) : orc.pc 95 args r :=
  pureC_of (envOk b) (orcOk b) Try.func95 (by rfl) rfl (by rfl) (by rfl) h1 (Nat.le_of_ble_eq_true h2) h3
/-- spec.l11Halving -/
def n_s_l11Halving : Nat := 96
noncomputable def b_s_l11Halving : Code := (Try.f96.body).getD .skip
def k_s_l11Halving : Nat → List Nat := fun n => lookN n [(7, [0, 1, 2, 3, 4, 5, 6, 7]), (3, [0, 1, 2, 3, 4])]
theorem p_s_l11Halving {args : List AV} {r : Pk} (b : Bool) (h1 : args.all AV.isD = true) (h2 : Nat.ble args.length 48 = true) (h3 : evFun (env b) orc k_s_l11Halving [.sl (.int .i64)] [.tmp 2] 48 b_s_l11Halving args [] fun r' _ => r' = r) : orc.pc 96 args r :=
  pureC_of (envOk b) (orcOk b) Try.func96 (by rfl) rfl (by rfl) (by rfl) h1 (Nat.le_of_ble_eq_true h2) h3
/-- impl.within -/
def n_i_within : Nat := 97
noncomputable def b_i_within : Code := (Try.f97.body).getD .skip
def k_i_within : Nat → List Nat := fun n => lookN n []
theorem p_i_within {args : List AV} {r : Pk} (b : Bool) (h1 : args.all AV.isD = true) (h2 : Nat.ble args.length 15 = true) (h3 : evFun (env b) orc k_i_within [.bool] [.tmp 6] 15 b_i_within args [] fun r' _ => r' = r) : orc.pc 97 args r :=
  pureC_of (envOk b) (orcOk b) Try.func97 (by rfl) rfl (by rfl) (by rfl) h1 (Nat.le_of_ble_eq_true h2) h3
/-- impl.areLabels -/
def n_i_areLabels : Nat := 98
noncomputable def b_i_areLabels : Code := (Try.f98.body).getD .skip
def k_i_areLabels : Nat → List Nat := fun n => lookN n [(2, [0, 5, 6, 7])]
theorem p_i_areLabels {args : List AV} {r : Pk} (b : Bool) (h1 : args.all AV.isD = true) (h2 : Nat.ble args.length 15 = true) (h3 : evFun (env b) orc k_i_areLabels [.bool] [.tmp 2] 15 b_i_areLabels args [] fun r' _ => r' = r) : orc.pc 98 args r :=
  pureC_of (envOk b) (orcOk b) Try.func98 (by rfl) rfl (by rfl) (by rfl) h1 (Nat.le_of_ble_eq_true h2) h3
/-- impl.allWithin -/
def n_i_allWithin : Nat := 99
noncomputable def b_i_allWithin : Code := (Try.f99.body).getD .skip
def k_i_allWithin : Nat → List Nat := fun n => lookN n [(2, [0, 1, 2, 9, 10, 11])]
theorem p_i_allWithin {args : List AV} {r : Pk} (b : Bool) (h1 : args.all AV.isD = true) (h2 : Nat.ble args.length 21 = true) (h3 : evFun (env b) orc k_i_allWithin [.bool] [.tmp 6] 21 b_i_allWithin args [] fun r' _ => r' = r) : orc.pc 99 args r :=
  pureC_of (envOk b) (orcOk b) Try.func99 (by rfl) rfl (by rfl) (by rfl) h1 (Nat.le_of_ble_eq_true h2) h3
/-- (impl.Panel).wrongBefore -/
def n_i_Panel_wrongBefore : Nat := 100
noncomputable def b_i_Panel_wrongBefore : Code := (Try.f100.body).getD .skip
def k_i_Panel_wrongBefore : Nat → List Nat := fun n => lookN n [(6, [0, 1, 2, 4, 5, 6, 13, 14, 17, 18]), (3, [0, 1, 2, 4, 5, 13, 14])]
theorem p_i_Panel_wrongBefore {args : List AV} {r : Pk} (b : Bool) (h1 : args.all AV.isD = true) (h2 : Nat.ble args.length 34 = true) (h3 : evFun (env b) orc k_i_Panel_wrongBefore [.sl (.int .i64)] [.tmp 4] 34 b_i_Panel_wrongBefore args [] fun r' _ => r' = r) : orc.pc 100 args r :=
  pureC_of (envOk b) (orcOk b) Try.func100 (by rfl) rfl (by rfl) (by rfl) h1 (Nat.le_of_ble_eq_true h2) h3
/-- spec.l11Days -/
def n_s_l11Days : Nat := 101
noncomputable def b_s_l11Days : Code := (Try.f101.body).getD .skip
def k_s_l11Days : Nat → List Nat := fun n => lookN n [(6, [0, 1, 2, 4, 5, 6, 7]), (3, [0, 1, 2, 4, 5, 6])]
theorem p_s_l11Days {args : List AV} {r : Pk} (b : Bool) (h1 : args.all AV.isD = true) (h2 : Nat.ble args.length 45 = true) (h3 : evFun (env b) orc k_s_l11Days [.sl (.int .i64)] [.tmp 4] 45 b_s_l11Days args [] fun r' _ => r' = r) : orc.pc 101 args r :=
  pureC_of (envOk b) (orcOk b) Try.func101 (by rfl) rfl (by rfl) (by rfl) h1 (Nat.le_of_ble_eq_true h2) h3
/-- impl.firstLeast -/
def n_i_firstLeast : Nat := 102
noncomputable def b_i_firstLeast : Code := (Try.f102.body).getD .skip
def k_i_firstLeast : Nat → List Nat := fun n => lookN n []
theorem p_i_firstLeast {args : List AV} {r : Pk} (b : Bool) (h1 : args.all AV.isD = true) (h2 : Nat.ble args.length 7 = true) (h3 : evFun (env b) orc k_i_firstLeast [.int .i64] [.tmp 2] 7 b_i_firstLeast args [] fun r' _ => r' = r) : orc.pc 102 args r :=
  pureC_of (envOk b) (orcOk b) Try.func102 (by rfl) rfl (by rfl) (by rfl) h1 (Nat.le_of_ble_eq_true h2) h3
/-- spec.l11First -/
def n_s_l11First : Nat := 103
noncomputable def b_s_l11First : Code := (Try.f103.body).getD .skip
def k_s_l11First : Nat → List Nat := fun n => lookN n [(3, [0, 2, 3, 4])]
theorem p_s_l11First {args : List AV} {r : Pk} (b : Bool) (h1 : args.all AV.isD = true) (h2 : Nat.ble args.length 22 = true) (h3 : evFun (env b) orc k_s_l11First [.int .i64] [.tmp 2] 22 b_s_l11First args [] fun r' _ => r' = r) : orc.pc 103 args r :=
  pureC_of (envOk b) (orcOk b) Try.func103 (by rfl) rfl (by rfl) (by rfl) h1 (Nat.le_of_ble_eq_true h2) h3
/-- impl.FollowingSays$1 -/
def n_i_FollowingSays_1 : Nat := 104
noncomputable def b_i_FollowingSays_1 : Code := (Try.f104.body).getD .skip
def k_i_FollowingSays_1 : Nat → List Nat := fun n => lookN n []
theorem p_i_FollowingSays_1 {args : List AV} {r : Pk} (b : Bool) (h1 : args.all AV.isD = true) (h2 : Nat.ble args.length 16 = true) (h3 : evFun (env b) orc k_i_FollowingSays_1 [.int .i64] [.tmp 5] 16 b_i_FollowingSays_1 args [] fun r' _ => r' = r) : orc.pc 104 args r :=
  pureC_of (envOk b) (orcOk b) Try.func104 (by rfl) rfl (by rfl) (by rfl) h1 (Nat.le_of_ble_eq_true h2) h3
/-- spec.l11Sign -/
def n_s_l11Sign : Nat := 105
noncomputable def b_s_l11Sign : Code := (Try.f105.body).getD .skip
def k_s_l11Sign : Nat → List Nat := fun n => lookN n []
theorem p_s_l11Sign {args : List AV} {r : Pk} (b : Bool) (h1 : args.all AV.isD = true) (h2 : Nat.ble args.length 5 = true) (h3 : evFun (env b) orc k_s_l11Sign [.int .i64] [.tmp 2] 5 b_s_l11Sign args [] fun r' _ => r' = r) : orc.pc 105 args r :=
  pureC_of (envOk b) (orcOk b) Try.func105 (by rfl) rfl (by rfl) (by rfl) h1 (Nat.le_of_ble_eq_true h2) h3
/-- impl.MajoritySays$1 -/
def n_i_MajoritySays_1 : Nat := 106
noncomputable def b_i_MajoritySays_1 : Code := (Try.f106.body).getD .skip
def k_i_MajoritySays_1 : Nat → List Nat := fun n => lookN n [(3, [0, 1, 5, 6, 10, 11, 12])]
theorem p_i_MajoritySays_1 {args : List AV} {r : Pk} (b : Bool) (h1 : args.all AV.isD = true) (h2 : Nat.ble args.length 25 = true) (h3 : evFun (env b) orc k_i_MajoritySays_1 [.int .i64] [.tmp 5] 25 b_i_MajoritySays_1 args [] fun r' _ => r' = r) : orc.pc 106 args r :=
  pureC_of (envOk b) (orcOk b) Try.func106 (by rfl) rfl (by rfl) (by rfl) h1 (Nat.le_of_ble_eq_true h2) h3
/-- (*spec.l1Cur).someNet -/
def n_s_l1Cur_someNet : Nat := 107
noncomputable def b_s_l1Cur_someNet : Code := (Try.f107.body).getD .skip
def k_s_l1Cur_someNet : Nat → List Nat := fun n => lookN n []
theorem p_s_l1Cur_someNet {vs : List AV} {st : St} {r : AV} {st2 : St} (b : Bool) (hst : 0 < st.length) (h1 : vs.all (fun v => !v.isBad) = true) (h2 : Nat.ble vs.length 8 = true) (h3 : evInl (env b) orc k_s_l1Cur_someNet [.pair (.int .i64) (.pair (.sl (.sl (.pair (.sl (.int .i64)) (.pair (.int .i64) (.unit))))) (.unit))] [.cell 2 37] 8 b_s_l1Cur_someNet (vs.map AV.inner) st fun r' st' => r' = r ∧ st' = st2) : orc.ic 107 vs st r st2 :=
  inlC_of (envOk b) (orcOk b) Try.func107 (by rfl) rfl (by rfl) (by rfl) hst h1 (Nat.le_of_ble_eq_true h2) h3
/-- (*spec.l1Cur).row3 -/
def n_s_l1Cur_row3 : Nat := 108
noncomputable def b_s_l1Cur_row3 : Code := (Try.f108.body).getD .skip
def k_s_l1Cur_row3 : Nat → List Nat := fun n => lookN n [(3, [0, 1, 4, 5, 6])]
theorem p_s_l1Cur_row3 {vs : List AV} {st : St} {r : AV} {st2 : St} (b : Bool) (hst : 0 < st.length) (h1 : vs.all (fun v => !v.isBad) = true) (h2 : Nat.ble vs.length 31 = true) (h3 : evInl (env b) orc k_s_l1Cur_row3 [.sl (.int .i64)] [.tmp 4] 31 b_s_l1Cur_row3 (vs.map AV.inner) st fun r' st' => r' = r ∧ st' = st2) : orc.ic 108 vs st r st2 :=
  inlC_of (envOk b) (orcOk b) Try.func108 (by rfl) rfl (by rfl) (by rfl) hst h1 (Nat.le_of_ble_eq_true h2) h3
/-- spec.l1Least -/
def n_s_l1Least : Nat := 109
noncomputable def b_s_l1Least : Code := (Try.f109.body).getD .skip
def k_s_l1Least : Nat → List Nat := fun n => lookN n []
theorem p_s_l1Least {args : List AV} {r : Pk} (b : Bool) (h1 : args.all AV.isD = true) (h2 : Nat.ble args.length 10 = true) (h3 : evFun (env b) orc k_s_l1Least [.int .i64] [.tmp 4] 10 b_s_l1Least args [] fun r' _ => r' = r) : orc.pc 109 args r :=
  pureC_of (envOk b) (orcOk b) Try.func109 (by rfl) rfl (by rfl) (by rfl) h1 (Nat.le_of_ble_eq_true h2) h3
/-- (impl.Net).gives -/
def n_i_Net_gives : Nat := 110
noncomputable def b_i_Net_gives : Code := (Try.f110.body).getD .skip
def k_i_Net_gives : Nat → List Nat := fun n => lookN n [(7, [0, 1, 2, 4, 5, 7, 8, 14, 15, 16, 21, 22, 23]), (3, [0, 1, 2, 4, 5, 14, 15, 16])]
theorem p_i_Net_gives {args : List AV} {r : Pk} (b : Bool) (h1 : args.all AV.isD = true) (h2 : Nat.ble args.length 39 = true) (h3 : evFun (env b) orc k_i_Net_gives [.sl (.int .i64)] [.tmp 4] 39 b_i_Net_gives args [] fun r' _ => r' = r) : orc.pc 110 args r :=
  pureC_of (envOk b) (orcOk b) Try.func110 (by rfl) rfl (by rfl) (by rfl) h1 (Nat.le_of_ble_eq_true h2) h3
/-- spec.l9Good -/
def n_s_l9Good : Nat := 111
noncomputable def b_s_l9Good : Code := (Try.f111.body).getD .skip
def k_s_l9Good : Nat → List Nat := fun n => lookN n [(8, [0, 1, 3, 4, 5]), (5, [0, 1, 3, 4])]
theorem p_s_l9Good {args : List AV} {r : Pk} (b : Bool) (h1 : args.all AV.isD = true) (h2 : Nat.ble args.length 69 = true) (h3 : evFun (env b) orc k_s_l9Good [.bool] [.tmp 2] 69 b_s_l9Good args [] fun r' _ => r' = r) : orc.pc 111 args r :=
  pureC_of (envOk b) (orcOk b) Try.func111 (by rfl) rfl (by rfl) (by rfl) h1 (Nat.le_of_ble_eq_true h2) h3
/-- spec.l3Row -/
def n_s_l3Row : Nat := 112
noncomputable def b_s_l3Row : Code := (Try.f112.body).getD .skip
def k_s_l3Row : Nat → List Nat := fun n => lookN n [(2, [0, 1, 5])]
theorem p_s_l3Row {args : List AV} {r : Pk} (b : Bool) (h1 : args.all AV.isD = true) (h2 : Nat.ble args.length 22 = true) (h3 : evFun (env b) orc k_s_l3Row [.bool] [.tmp 4] 22 b_s_l3Row args [] fun r' _ => r' = r) : orc.pc 112 args r :=
  pureC_of (envOk b) (orcOk b) Try.func112 (by rfl) rfl (by rfl) (by rfl) h1 (Nat.le_of_ble_eq_true h2) h3
/-- spec.l9Run -/
def n_s_l9Run : Nat := 113
noncomputable def b_s_l9Run : Code := (Try.f113.body).getD .skip
def k_s_l9Run : Nat → List Nat := fun n => lookN n [(3, [0, 1, 2, 4, 5, 6])]
theorem p_s_l9Run {args : List AV} {r : Pk} (b : Bool) (h1 : args.all AV.isD = true) (h2 : Nat.ble args.length 24 = true) (h3 : evFun (env b) orc k_s_l9Run [.sl (.int .i64)] [.tmp 4] 24 b_s_l9Run args [] fun r' _ => r' = r) : orc.pc 113 args r :=
  pureC_of (envOk b) (orcOk b) Try.func113 (by rfl) rfl (by rfl) (by rfl) h1 (Nat.le_of_ble_eq_true h2) h3
/-- (impl.Net).tables -/
def n_i_Net_tables : Nat := 114
noncomputable def b_i_Net_tables : Code := (Try.f114.body).getD .skip
def k_i_Net_tables : Nat → List Nat := fun n => lookN n [(6, [0, 1, 2, 3, 4, 13, 14, 22, 23, 24]), (3, [0, 1, 2, 3, 13, 14])]
theorem p_i_Net_tables {args : List AV} {r : Pk} (b : Bool) (h1 : args.all AV.isD = true) (h2 : Nat.ble args.length 42 = true) (h3 : evFun (env b) orc k_i_Net_tables [.sl (.sl (.int .i64))] [.tmp 2] 42 b_i_Net_tables args [] fun r' _ => r' = r) : orc.pc 114 args r :=
  pureC_of (envOk b) (orcOk b) Try.func114 (by rfl) rfl (by rfl) (by rfl) h1 (Nat.le_of_ble_eq_true h2) h3
/-- spec.l9Tables -/
def n_s_l9Tables : Nat := 115
noncomputable def b_s_l9Tables : Code := (Try.f115.body).getD .skip
def k_s_l9Tables : Nat → List Nat := fun n => lookN n [(7, [0, 1, 2, 3, 4, 5, 6]), (3, [0, 1, 2, 3, 4])]
theorem p_s_l9Tables {args : List AV} {r : Pk} (b : Bool) (h1 : args.all AV.isD = true) (h2 : Nat.ble args.length 50 = true) (h3 : evFun (env b) orc k_s_l9Tables [.sl (.sl (.int .i64))] [.tmp 2] 50 b_s_l9Tables args [] fun r' _ => r' = r) : orc.pc 115 args r :=
  pureC_of (envOk b) (orcOk b) Try.func115 (by rfl) rfl (by rfl) (by rfl) h1 (Nat.le_of_ble_eq_true h2) h3
/-- (*spec.l1Cur).net9 -/
def n_s_l1Cur_net9 : Nat := 116
noncomputable def b_s_l1Cur_net9 : Code := (Try.f116.body).getD .skip
def k_s_l1Cur_net9 : Nat → List Nat := fun n => lookN n [(26, [0, 1, 4, 5, 6, 7, 8, 9, 10, 11, 61, 67, 75, 86]), (12, [0, 1, 4, 5, 6, 7, 8, 9, 10, 11, 61, 67, 75, 86]), (8, [0, 1, 4, 5, 6, 7, 8, 9, 61, 67, 75, 86]), (4, [0, 1, 4, 5, 6, 7, 61, 67, 75, 86])]
theorem p_s_l1Cur_net9 {vs : List AV} {st : St} {r : AV} {st2 : St} (b : Bool) (hst : 0 < st.length) (h1 : vs.all (fun v => !v.isBad) = true) (h2 : Nat.ble vs.length 110 = true) (h3 : evInl (env b) orc k_s_l1Cur_net9 [.pair (.int .i64) (.pair (.sl (.sl (.pair (.sl (.int .i64)) (.pair (.int .i64) (.unit))))) (.unit))] [.cell 4 37] 110 b_s_l1Cur_net9 (vs.map AV.inner) st fun r' st' => r' = r ∧ st' = st2) : orc.ic 116 vs st r st2 :=
  inlC_of (envOk b) (orcOk b) Try.func116 (by rfl) rfl (by rfl) (by rfl) hst h1 (Nat.le_of_ble_eq_true h2) h3
/-- spec.l1Most -/
def n_s_l1Most : Nat := 117
noncomputable def b_s_l1Most : Code := (Try.f117.body).getD .skip
def k_s_l1Most : Nat → List Nat := fun n => lookN n []
theorem p_s_l1Most {args : List AV} {r : Pk} (b : Bool) (h1 : args.all AV.isD = true) (h2 : Nat.ble args.length 10 = true) (h3 : evFun (env b) orc k_s_l1Most [.int .i64] [.tmp 4] 10 b_s_l1Most args [] fun r' _ => r' = r) : orc.pc 117 args r :=
  pureC_of (envOk b) (orcOk b) Try.func117 (by rfl) rfl (by rfl) (by rfl) h1 (Nat.le_of_ble_eq_true h2) h3
/-- (*spec.l1Cur).one -/
def n_s_l1Cur_one : Nat := 118
noncomputable def b_s_l1Cur_one : Code := (Try.f118.body).getD .skip
def k_s_l1Cur_one : Nat → List Nat := fun n => lookN n []
theorem p_s_l1Cur_one {vs : List AV} {st : St} {r : AV} {st2 : St} (b : Bool) (hst : 0 < st.length) (h1 : vs.all (fun v => !v.isBad) = true) (h2 : Nat.ble vs.length 9 = true) (h3 : evInl (env b) orc k_s_l1Cur_one [.bool] [.tmp 4] 9 b_s_l1Cur_one (vs.map AV.inner) st fun r' st' => r' = r ∧ st' = st2) : orc.ic 118 vs st r st2 :=
  inlC_of (envOk b) (orcOk b) Try.func118 (by rfl) rfl (by rfl) (by rfl) hst h1 (Nat.le_of_ble_eq_true h2) h3
/-- impl.own -/
def n_i_own : Nat := 119
noncomputable def b_i_own : Code := (Try.f119.body).getD .skip
def k_i_own : Nat → List Nat := fun n => lookN n [(3, [0, 2, 3, 7, 8, 9])]
theorem p_i_own {args : List AV} {r : Pk} (b : Bool) (h1 : args.all AV.isD = true) (h2 : Nat.ble args.length 24 = true) (h3 : evFun (env b) orc k_i_own [.sl (.pair (.sl (.int .i64)) (.pair (.int .i64) (.unit)))] [.tmp 2] 24 b_i_own args [] fun r' _ => r' = r) : orc.pc 119 args r :=
  pureC_of (envOk b) (orcOk b) Try.func119 (by rfl) rfl (by rfl) (by rfl) h1 (Nat.le_of_ble_eq_true h2) h3
/-- spec.l9Wide -/
def n_s_l9Wide : Nat := 120
noncomputable def b_s_l9Wide : Code := (Try.f120.body).getD .skip
def k_s_l9Wide : Nat → List Nat := fun n => lookN n [(3, [0, 1, 2, 6, 7, 8])]
theorem p_s_l9Wide {args : List AV} {r : Pk} (b : Bool) (h1 : args.all AV.isD = true) (h2 : Nat.ble args.length 38 = true) (h3 : evFun (env b) orc k_s_l9Wide [.sl (.pair (.sl (.int .i64)) (.pair (.int .i64) (.unit)))] [.tmp 6] 38 b_s_l9Wide args [] fun r' _ => r' = r) : orc.pc 120 args r :=
  pureC_of (envOk b) (orcOk b) Try.func120 (by rfl) rfl (by rfl) (by rfl) h1 (Nat.le_of_ble_eq_true h2) h3
/-- (impl.Net).last -/
def n_i_Net_last : Nat := 121
noncomputable def b_i_Net_last : Code := (Try.f121.body).getD .skip
def k_i_Net_last : Nat → List Nat := fun n => lookN n []
theorem p_i_Net_last {args : List AV} {r : Pk} (b : Bool) (h1 : args.all AV.isD = true) (h2 : Nat.ble args.length 11 = true) (h3 : evFun (env b) orc k_i_Net_last [.sl (.pair (.sl (.int .i64)) (.pair (.int .i64) (.unit)))] [.tmp 2] 11 b_i_Net_last args [] fun r' _ => r' = r) : orc.pc 121 args r :=
  pureC_of (envOk b) (orcOk b) Try.func121 (by rfl) rfl (by rfl) (by rfl) h1 (Nat.le_of_ble_eq_true h2) h3
/-- spec.l9Own -/
def n_s_l9Own : Nat := 122
noncomputable def b_s_l9Own : Code := (Try.f122.body).getD .skip
def k_s_l9Own : Nat → List Nat := fun n => lookN n [(7, [0, 1, 2, 3, 4, 5, 6]), (3, [0, 1, 2, 3, 4])]
theorem p_s_l9Own {args : List AV} {r : Pk} (b : Bool) (h1 : args.all AV.isD = true) (h2 : Nat.ble args.length 59 = true) (h3 : evFun (env b) orc k_s_l9Own [.pair (.int .i64) (.pair (.sl (.sl (.pair (.sl (.int .i64)) (.pair (.int .i64) (.unit))))) (.unit))] [.cell 2 37] 59 b_s_l9Own args [] fun r' _ => r' = r) : orc.pc 122 args r :=
  pureC_of (envOk b) (orcOk b) Try.func122 (by rfl) rfl (by rfl) (by rfl) h1 (Nat.le_of_ble_eq_true h2) h3
/-- impl.IsPlane -/
def n_i_IsPlane : Nat := 123
noncomputable def b_i_IsPlane : Code := (Try.f123.body).getD .skip
def k_i_IsPlane : Nat → List Nat := fun n => lookN n []
theorem p_i_IsPlane {args : List AV} {r : Pk} (b : Bool) (h1 : args.all AV.isD = true) (h2 : Nat.ble args.length 17 = true) (h3 : evFun (env b) orc k_i_IsPlane [.bool] [.tmp 2] 17 b_i_IsPlane args [] fun r' _ => r' = r) : orc.pc 123 args r :=
  pureC_of (envOk b) (orcOk b) Try.func123 (by rfl) rfl (by rfl) (by rfl) h1 (Nat.le_of_ble_eq_true h2) h3
/-- impl.bitPoint -/
def n_i_bitPoint : Nat := 124
noncomputable def b_i_bitPoint : Code := (Try.f124.body).getD .skip
def k_i_bitPoint : Nat → List Nat := fun n => lookN n [(3, [0, 1, 4, 5, 8, 9])]
theorem p_i_bitPoint {args : List AV} {r : Pk} (b : Bool) (h1 : args.all AV.isD = true) (h2 : Nat.ble args.length 21 = true) (h3 : evFun (env b) orc k_i_bitPoint [.sl (.int .i64)] [.tmp 4] 21 b_i_bitPoint args [] fun r' _ => r' = r) : orc.pc 124 args r :=
  pureC_of (envOk b) (orcOk b) Try.func124 (by rfl) rfl (by rfl) (by rfl) h1 (Nat.le_of_ble_eq_true h2) h3
/-- (*spec.l1Cur).someSample -/
def n_s_l1Cur_someSample : Nat := 125
noncomputable def b_s_l1Cur_someSample : Code := (Try.f125.body).getD .skip
def k_s_l1Cur_someSample : Nat → List Nat := fun n => lookN n [(20, [0, 1, 2, 6, 7, 8, 9, 10, 11, 12, 13, 75, 82, 95]), (4, [0, 1, 2, 6, 7, 8, 9, 10, 11, 75, 82, 95])]
theorem p_s_l1Cur_someSample {vs : List AV} {st : St} {r : AV} {st2 : St} (b : Bool) (hst : 0 < st.length) (h1 : vs.all (fun v => !v.isBad) = true) (h2 : Nat.ble vs.length 114 = true) (h3 : evInl (env b) orc k_s_l1Cur_someSample [.pair (.sl (.sl (.int .i64))) (.pair (.sl (.int .i64)) (.unit))] [.cell 6 53] 114 b_s_l1Cur_someSample (vs.map AV.inner) st fun r' st' => r' = r ∧ st' = st2) : orc.ic 125 vs st r st2 :=
  inlC_of (envOk b) (orcOk b) Try.func125 (by rfl) rfl (by rfl) (by rfl) hst h1 (Nat.le_of_ble_eq_true h2) h3
/-- (*spec.l1Cur).space -/
def n_s_l1Cur_space : Nat := 126
noncomputable def b_s_l1Cur_space : Code := (Try.f126.body).getD .skip
def k_s_l1Cur_space : Nat → List Nat := fun n => lookN n []
theorem p_s_l1Cur_space {vs : List AV} {st : St} {r : AV} {st2 : St} (b : Bool) (hst : 0 < st.length) (h1 : vs.all (fun v => !v.isBad) = true) (h2 : Nat.ble vs.length 6 = true) (h3 : evInl (env b) orc k_s_l1Cur_space [.int .i64] [.tmp 2] 6 b_s_l1Cur_space (vs.map AV.inner) st fun r' st' => r' = r ∧ st' = st2) : orc.ic 126 vs st r st2 :=
  inlC_of (envOk b) (orcOk b) Try.func126 (by rfl) rfl (by rfl) (by rfl) hst h1 (Nat.le_of_ble_eq_true h2) h3
/-- (*spec.l1Cur).rounds3 -/
def n_s_l1Cur_rounds3 : Nat := 127
noncomputable def b_s_l1Cur_rounds3 : Code := (Try.f127.body).getD .skip
def k_s_l1Cur_rounds3 : Nat → List Nat := fun n => lookN n []
theorem p_s_l1Cur_rounds3 {vs : List AV} {st : St} {r : AV} {st2 : St} (b : Bool) (hst : 0 < st.length) (h1 : vs.all (fun v => !v.isBad) = true) (h2 : Nat.ble vs.length 11 = true) (h3 : evInl (env b) orc k_s_l1Cur_rounds3 [.int .i64] [.tmp 2] 11 b_s_l1Cur_rounds3 (vs.map AV.inner) st fun r' st' => r' = r ∧ st' = st2) : orc.ic 127 vs st r st2 :=
  inlC_of (envOk b) (orcOk b) Try.func127 (by rfl) rfl (by rfl) (by rfl) hst h1 (Nat.le_of_ble_eq_true h2) h3
/-- impl.runOf -/
def n_i_runOf : Nat := 128
noncomputable def b_i_runOf : Code := (Try.f128.body).getD .skip
def k_i_runOf : Nat → List Nat := fun n => lookN n [(9, [0, 1, 2, 4, 6, 7, 8, 38, 39, 42, 43, 44]), (6, [0, 1, 2, 4, 6, 7, 38, 39]), (1000003, [1006]), (1000011, [1011])]
theorem p_i_runOf {args : List AV} {r : Pk} (b : Bool) (h1 : args.all AV.isD = true) (h2 : Nat.ble args.length 91 = true) (h3 : evFun (env b) orc k_i_runOf [.pair (.sl (.pair (.sl (.int .i64)) (.pair (.int .i64) (.unit)))) (.pair (.sl (.int .i64)) (.pair (.sl (.int .i64)) (.unit))), .bool] [.cell 4 127, .tmp 5] 91 b_i_runOf args [] fun r' _ => r' = r) : orc.pc 128 args r :=
  pureC_of (envOk b) (orcOk b) Try.func128 (by rfl) rfl (by rfl) (by rfl) h1 (Nat.le_of_ble_eq_true h2) h3
/-- spec.l3Made -/
def n_s_l3Made : Nat := 129
noncomputable def b_s_l3Made : Code := (Try.f129.body).getD .skip
def k_s_l3Made : Nat → List Nat := fun n => lookN n [(9, [0, 1, 2, 4, 6, 7, 8, 9]), (5, [0, 1, 2, 4, 6, 7]), (1000011, [1010])]
theorem p_s_l3Made {args : List AV} {r : Pk} (b : Bool) (h1 : args.all AV.isD = true) (h2 : Nat.ble args.length 100 = true) (h3 : evFun (env b) orc k_s_l3Made [.pair (.sl (.pair (.sl (.int .i64)) (.pair (.int .i64) (.unit)))) (.pair (.sl (.int .i64)) (.pair (.sl (.int .i64)) (.unit))), .bool] [.cell 4 131, .tmp 5] 100 b_s_l3Made args [] fun r' _ => r' = r) : orc.pc 129 args r :=
  pureC_of (envOk b) (orcOk b) Try.func129 (by rfl) rfl (by rfl) (by rfl) h1 (Nat.le_of_ble_eq_true h2) h3
/-- impl.copied -/
def n_i_copied : Nat := 130
noncomputable def b_i_copied : Code := (Try.f130.body).getD .skip
def k_i_copied : Nat → List Nat := fun n => lookN n []
theorem p_i_copied {args : List AV} {r : Pk} (b : Bool) (h1 : args.all AV.isD = true) (h2 : Nat.ble args.length 6 = true) (h3 : evFun (env b) orc k_i_copied [.sl (.int .i64)] [.tmp 2] 6 b_i_copied args [] fun r' _ => r' = r) : orc.pc 130 args r :=
  pureC_of (envOk b) (orcOk b) Try.func130 (by rfl) rfl (by rfl) (by rfl) h1 (Nat.le_of_ble_eq_true h2) h3
/-- (impl.Plane).mistakes -/
def n_i_Plane_mistakes : Nat := 131
noncomputable def b_i_Plane_mistakes : Code := (Try.f131.body).getD .skip
def k_i_Plane_mistakes : Nat → List Nat := fun n => lookN n [(3, [0, 1, 2, 3, 4, 5, 10, 11, 12])]
theorem p_i_Plane_mistakes {args : List AV} {r : Pk} (b : Bool) (h1 : args.all AV.isD = true) (h2 : Nat.ble args.length 32 = true) (h3 : evFun (env b) orc k_i_Plane_mistakes [.sl (.int .i64)] [.tmp 4] 32 b_i_Plane_mistakes args [] fun r' _ => r' = r) : orc.pc 131 args r :=
  pureC_of (envOk b) (orcOk b) Try.func131 (by rfl) rfl (by rfl) (by rfl) h1 (Nat.le_of_ble_eq_true h2) h3
/-- spec.l2Mistakes -/
def n_s_l2Mistakes : Nat := 132
noncomputable def b_s_l2Mistakes : Code := (Try.f132.body).getD .skip
def k_s_l2Mistakes : Nat → List Nat := fun n => lookN n [(3, [0, 1, 2, 3, 4, 5, 6])]
theorem p_s_l2Mistakes {args : List AV} {r : Pk} (b : Bool) (h1 : args.all AV.isD = true) (h2 : Nat.ble args.length 33 = true) (h3 : evFun (env b) orc k_s_l2Mistakes [.sl (.int .i64)] [.tmp 4] 33 b_s_l2Mistakes args [] fun r' _ => r' = r) : orc.pc 132 args r :=
  pureC_of (envOk b) (orcOk b) Try.func132 (by rfl) rfl (by rfl) (by rfl) h1 (Nat.le_of_ble_eq_true h2) h3
/-- (*spec.l1Cur).pick -/
def n_s_l1Cur_pick : Nat := 133
noncomputable def b_s_l1Cur_pick : Code := (Try.f133.body).getD .skip
def k_s_l1Cur_pick : Nat → List Nat := fun n => lookN n []
theorem p_s_l1Cur_pick {vs : List AV} {st : St} {r : AV} {st2 : St} (b : Bool) (hst : 0 < st.length) (h1 : vs.all (fun v => !v.isBad) = true) (h2 : Nat.ble vs.length 20 = true) (h3 : evInl (env b) orc k_s_l1Cur_pick [.int .i64] [.tmp 4] 20 b_s_l1Cur_pick (vs.map AV.inner) st fun r' st' => r' = r ∧ st' = st2) : orc.ic 133 vs st r st2 :=
  inlC_of (envOk b) (orcOk b) Try.func133 (by rfl) rfl (by rfl) (by rfl) hst h1 (Nat.le_of_ble_eq_true h2) h3
/-- (*spec.l1Cur).among -/
def n_s_l1Cur_among : Nat := 134
noncomputable def b_s_l1Cur_among : Code := (Try.f134.body).getD .skip
def k_s_l1Cur_among : Nat → List Nat := fun n => lookN n []
theorem p_s_l1Cur_among {vs : List AV} {st : St} {r : AV} {st2 : St} (b : Bool) (hst : 0 < st.length) (h1 : vs.all (fun v => !v.isBad) = true) (h2 : Nat.ble vs.length 12 = true) (h3 : evInl (env b) orc k_s_l1Cur_among [.int .i64] [.tmp 4] 12 b_s_l1Cur_among (vs.map AV.inner) st fun r' st' => r' = r ∧ st' = st2) : orc.ic 134 vs st r st2 :=
  inlC_of (envOk b) (orcOk b) Try.func134 (by rfl) rfl (by rfl) (by rfl) hst h1 (Nat.le_of_ble_eq_true h2) h3
/-- impl.IsSample -/
def n_i_IsSample : Nat := 135
noncomputable def b_i_IsSample : Code := (Try.f135.body).getD .skip
def k_i_IsSample : Nat → List Nat := fun n => lookN n [(4, [0, 1, 19, 20, 21])]
theorem p_i_IsSample {args : List AV} {r : Pk} (b : Bool) (h1 : args.all AV.isD = true) (h2 : Nat.ble args.length 49 = true) (h3 : evFun (env b) orc k_i_IsSample [.bool] [.tmp 2] 49 b_i_IsSample args [] fun r' _ => r' = r) : orc.pc 135 args r :=
  pureC_of (envOk b) (orcOk b) Try.func135 (by rfl) rfl (by rfl) (by rfl) h1 (Nat.le_of_ble_eq_true h2) h3
/-- spec.l2Sample -/
def n_s_l2Sample : Nat := 136
noncomputable def b_s_l2Sample : Code := (Try.f136.body).getD .skip
def k_s_l2Sample : Nat → List Nat := fun n => lookN n [(4, [0, 1, 3])]
theorem p_s_l2Sample {args : List AV} {r : Pk} (b : Bool) (h1 : args.all AV.isD = true) (h2 : Nat.ble args.length 51 = true) (h3 : evFun (env b) orc k_s_l2Sample [.bool] [.tmp 2] 51 b_s_l2Sample args [] fun r' _ => r' = r) : orc.pc 136 args r :=
  pureC_of (envOk b) (orcOk b) Try.func136 (by rfl) rfl (by rfl) (by rfl) h1 (Nat.le_of_ble_eq_true h2) h3
/-- spec.l1In -/
def n_s_l1In : Nat := 137
noncomputable def b_s_l1In : Code := (Try.f137.body).getD .skip
def k_s_l1In : Nat → List Nat := fun n => lookN n []
theorem p_s_l1In {args : List AV} {r : Pk} (b : Bool) (h1 : args.all AV.isD = true) (h2 : Nat.ble args.length 15 = true) (h3 : evFun (env b) orc k_s_l1In [.bool] [.tmp 6] 15 b_s_l1In args [] fun r' _ => r' = r) : orc.pc 137 args r :=
  pureC_of (envOk b) (orcOk b) Try.func137 (by rfl) rfl (by rfl) (by rfl) h1 (Nat.le_of_ble_eq_true h2) h3
/-- spec.l2Plane -/
def n_s_l2Plane : Nat := 138
noncomputable def b_s_l2Plane : Code := (Try.f138.body).getD .skip
def k_s_l2Plane : Nat → List Nat := fun n => lookN n []
theorem p_s_l2Plane {args : List AV} {r : Pk} (b : Bool) (h1 : args.all AV.isD = true) (h2 : Nat.ble args.length 17 = true) (h3 : evFun (env b) orc k_s_l2Plane [.bool] [.tmp 2] 17 b_s_l2Plane args [] fun r' _ => r' = r) : orc.pc 138 args r :=
  pureC_of (envOk b) (orcOk b) Try.func138 (by rfl) rfl (by rfl) (by rfl) h1 (Nat.le_of_ble_eq_true h2) h3
/-- impl.suits -/
def n_i_suits : Nat := 139
noncomputable def b_i_suits : Code := (Try.f139.body).getD .skip
def k_i_suits : Nat → List Nat := fun n => lookN n []
theorem p_i_suits {args : List AV} {r : Pk} (b : Bool) (h1 : args.all AV.isD = true) (h2 : Nat.ble args.length 28 = true) (h3 : evFun (env b) orc k_i_suits [.bool] [.tmp 4] 28 b_i_suits args [] fun r' _ => r' = r) : orc.pc 139 args r :=
  pureC_of (envOk b) (orcOk b) Try.func139 (by rfl) rfl (by rfl) (by rfl) h1 (Nat.le_of_ble_eq_true h2) h3
/-- impl.meets -/
def n_i_meets : Nat := 140
noncomputable def b_i_meets : Code := (Try.f140.body).getD .skip
def k_i_meets : Nat → List Nat := fun n => lookN n []
theorem p_i_meets {args : List AV} {r : Pk} (b : Bool) (h1 : args.all AV.isD = true) (h2 : Nat.ble args.length 19 = true) (h3 : evFun (env b) orc k_i_meets [.bool] [.tmp 4] 19 b_i_meets args [] fun r' _ => r' = r) : orc.pc 140 args r :=
  pureC_of (envOk b) (orcOk b) Try.func140 (by rfl) rfl (by rfl) (by rfl) h1 (Nat.le_of_ble_eq_true h2) h3
/-- impl.isLabel -/
def n_i_isLabel : Nat := 141
noncomputable def b_i_isLabel : Code := (Try.f141.body).getD .skip
def k_i_isLabel : Nat → List Nat := fun n => lookN n []
theorem p_i_isLabel {args : List AV} {r : Pk} (b : Bool) (h1 : args.all AV.isD = true) (h2 : Nat.ble args.length 9 = true) (h3 : evFun (env b) orc k_i_isLabel [.bool] [.tmp 2] 9 b_i_isLabel args [] fun r' _ => r' = r) : orc.pc 141 args r :=
  pureC_of (envOk b) (orcOk b) Try.func141 (by rfl) rfl (by rfl) (by rfl) h1 (Nat.le_of_ble_eq_true h2) h3
/-- (impl.Plane).step -/
def n_i_Plane_step : Nat := 142
noncomputable def b_i_Plane_step : Code := (Try.f142.body).getD .skip
def k_i_Plane_step : Nat → List Nat := fun n => lookN n [(5, [0, 1, 2, 3, 6, 7, 8, 25, 26, 27])]
theorem p_i_Plane_step {args : List AV} {r : Pk} (b : Bool) (h1 : args.all AV.isD = true) (h2 : Nat.ble args.length 44 = true) (h3 : evFun (env b) orc k_i_Plane_step [.pair (.sl (.int .i64)) (.pair (.int .i64) (.unit)), .bool] [.cell 6 57, .tmp 7] 44 b_i_Plane_step args [] fun r' _ => r' = r) : orc.pc 142 args r :=
  pureC_of (envOk b) (orcOk b) Try.func142 (by rfl) rfl (by rfl) (by rfl) h1 (Nat.le_of_ble_eq_true h2) h3
/-- spec.DrawIsSchool -/
def n_s_DrawIsSchool : Nat := 143
noncomputable def b_s_DrawIsSchool : Code := (Try.f143.body).getD .skip
def k_s_DrawIsSchool : Nat → List Nat := fun n => lookN n []
theorem p_s_DrawIsSchool {args : List AV} {r : Pk} (b : Bool) (h1 : args.all AV.isD = true) (h2 : Nat.ble args.length 9 = true) (h3 : evFun (env b) orc k_s_DrawIsSchool [.pair (.pair (.sl (.sl (.int .i64))) (.pair (.sl (.int .i64)) (.unit))) (.pair (.pair (.sl (.int .i64)) (.pair (.int .i64) (.unit))) (.pair (.int .i64) (.pair (.int .i64) (.unit))))] [.cell 2 74] 9 b_s_DrawIsSchool args [] fun r' _ => r' = r) : orc.pc 143 args r :=
  pureC_of (envOk b) (orcOk b) Try.func143 (by rfl) rfl (by rfl) (by rfl) h1 (Nat.le_of_ble_eq_true h2) h3
/-- impl.IsSchool -/
def n_i_IsSchool : Nat := 144
noncomputable def b_i_IsSchool : Code := (Try.f144.body).getD .skip
def k_i_IsSchool : Nat → List Nat := fun n => lookN n []
theorem p_i_IsSchool {args : List AV} {r : Pk} (b : Bool) (h1 : args.all AV.isD = true) (h2 : Nat.ble args.length 18 = true) (h3 : evFun (env b) orc k_i_IsSchool [.bool] [.tmp 2] 18 b_i_IsSchool args [] fun r' _ => r' = r) : orc.pc 144 args r :=
  pureC_of (envOk b) (orcOk b) Try.func144 (by rfl) rfl (by rfl) (by rfl) h1 (Nat.le_of_ble_eq_true h2) h3
/-- (impl.Plane).table -/
def n_i_Plane_table : Nat := 145
noncomputable def b_i_Plane_table : Code := (Try.f145.body).getD .skip
def k_i_Plane_table : Nat → List Nat := fun n => lookN n [(3, [0, 1, 2, 3, 4, 11, 12])]
theorem p_i_Plane_table {args : List AV} {r : Pk} (b : Bool) (h1 : args.all AV.isD = true) (h2 : Nat.ble args.length 27 = true) (h3 : evFun (env b) orc k_i_Plane_table [.sl (.int .i64)] [.tmp 2] 27 b_i_Plane_table args [] fun r' _ => r' = r) : orc.pc 145 args r :=
  pureC_of (envOk b) (orcOk b) Try.func145 (by rfl) rfl (by rfl) (by rfl) h1 (Nat.le_of_ble_eq_true h2) h3
/-- spec.l12Good -/
def n_s_l12Good : Nat := 146
noncomputable def b_s_l12Good : Code := (Try.f146.body).getD .skip
def k_s_l12Good : Nat → List Nat := fun n => lookN n []
theorem p_s_l12Good {args : List AV} {r : Pk} (b : Bool) (h1 : args.all AV.isD = true) (h2 : Nat.ble args.length 18 = true) (h3 : evFun (env b) orc k_s_l12Good [.bool] [.tmp 2] 18 b_s_l12Good args [] fun r' _ => r' = r) : orc.pc 146 args r :=
  pureC_of (envOk b) (orcOk b) Try.func146 (by rfl) rfl (by rfl) (by rfl) h1 (Nat.le_of_ble_eq_true h2) h3
/-- spec.l12Table -/
def n_s_l12Table : Nat := 147
noncomputable def b_s_l12Table : Code := (Try.f147.body).getD .skip
def k_s_l12Table : Nat → List Nat := fun n => lookN n []
theorem p_s_l12Table {args : List AV} {r : Pk} (b : Bool) (h1 : args.all AV.isD = true) (h2 : Nat.ble args.length 10 = true) (h3 : evFun (env b) orc k_s_l12Table [.sl (.int .i64)] [.tmp 2] 10 b_s_l12Table args [] fun r' _ => r' = r) : orc.pc 147 args r :=
  pureC_of (envOk b) (orcOk b) Try.func147 (by rfl) rfl (by rfl) (by rfl) h1 (Nat.le_of_ble_eq_true h2) h3
/-- spec.l12Numbers -/
def n_s_l12Numbers : Nat := 148
noncomputable def b_s_l12Numbers : Code := (Try.f148.body).getD .skip
def k_s_l12Numbers : Nat → List Nat := fun n => lookN n []
theorem p_s_l12Numbers {args : List AV} {r : Pk} (b : Bool) (h1 : args.all AV.isD = true) (h2 : Nat.ble args.length 12 = true) (h3 : evFun (env b) orc k_s_l12Numbers [.sl (.int .i64)] [.tmp 2] 12 b_s_l12Numbers args [] fun r' _ => r' = r) : orc.pc 148 args r :=
  pureC_of (envOk b) (orcOk b) Try.func148 (by rfl) rfl (by rfl) (by rfl) h1 (Nat.le_of_ble_eq_true h2) h3
/-- impl.isTable -/
def n_i_isTable : Nat := 149
noncomputable def b_i_isTable : Code := (Try.f149.body).getD .skip
def k_i_isTable : Nat → List Nat := fun n => lookN n []
theorem p_i_isTable {args : List AV} {r : Pk} (b : Bool) (h1 : args.all AV.isD = true) (h2 : Nat.ble args.length 18 = true) (h3 : evFun (env b) orc k_i_isTable [.bool] [.tmp 4] 18 b_i_isTable args [] fun r' _ => r' = r) : orc.pc 149 args r :=
  pureC_of (envOk b) (orcOk b) Try.func149 (by rfl) rfl (by rfl) (by rfl) h1 (Nat.le_of_ble_eq_true h2) h3
/-- impl.isThreshold -/
def n_i_isThreshold : Nat := 150
noncomputable def b_i_isThreshold : Code := (Try.f150.body).getD .skip
def k_i_isThreshold : Nat → List Nat := fun n => lookN n []
theorem p_i_isThreshold {args : List AV} {r : Pk} (b : Bool) (h1 : args.all AV.isD = true) (h2 : Nat.ble args.length 18 = true) (h3 : evFun (env b) orc k_i_isThreshold [.bool] [.tmp 4] 18 b_i_isThreshold args [] fun r' _ => r' = r) : orc.pc 150 args r :=
  pureC_of (envOk b) (orcOk b) Try.func150 (by rfl) rfl (by rfl) (by rfl) h1 (Nat.le_of_ble_eq_true h2) h3
/-- spec.DrawIsNet -/
def n_s_DrawIsNet : Nat := 151
noncomputable def b_s_DrawIsNet : Code := (Try.f151.body).getD .skip
def k_s_DrawIsNet : Nat → List Nat := fun n => lookN n []
theorem p_s_DrawIsNet {args : List AV} {r : Pk} (b : Bool) (h1 : args.all AV.isD = true) (h2 : Nat.ble args.length 9 = true) (h3 : evFun (env b) orc k_s_DrawIsNet [.pair (.int .i64) (.pair (.sl (.sl (.pair (.sl (.int .i64)) (.pair (.int .i64) (.unit))))) (.unit))] [.cell 2 37] 9 b_s_DrawIsNet args [] fun r' _ => r' = r) : orc.pc 151 args r :=
  pureC_of (envOk b) (orcOk b) Try.func151 (by rfl) rfl (by rfl) (by rfl) h1 (Nat.le_of_ble_eq_true h2) h3
/-- impl.TurnPlane -/
def n_i_TurnPlane : Nat := 152
noncomputable def b_i_TurnPlane : Code := (Try.f152.body).getD .skip
def k_i_TurnPlane : Nat → List Nat := fun n => lookN n [(5, [0, 1, 2, 3, 4, 16, 17, 18])]
theorem p_i_TurnPlane {args : List AV} {r : Pk} (b : Bool) (h1 : args.all AV.isD = true) (h2 : Nat.ble args.length 35 = true) (h3 : evFun (env b) orc k_i_TurnPlane [.pair (.sl (.int .i64)) (.pair (.int .i64) (.unit)), .bool] [.cell 2 57, .tmp 3] 35 b_i_TurnPlane args [] fun r' _ => r' = r) : orc.pc 152 args r :=
  pureC_of (envOk b) (orcOk b) Try.func152 (by rfl) rfl (by rfl) (by rfl) h1 (Nat.le_of_ble_eq_true h2) h3
/-- spec.TurnPlane -/
def n_s_TurnPlane : Nat := 153
noncomputable def b_s_TurnPlane : Code := (Try.f153.body).getD .skip
def k_s_TurnPlane : Nat → List Nat := fun n => lookN n []
theorem p_s_TurnPlane {args : List AV} {r : Pk} (b : Bool) (h1 : args.all AV.isD = true) (h2 : Nat.ble args.length 18 = true) (h3 : evFun (env b) orc k_s_TurnPlane [.pair (.sl (.int .i64)) (.pair (.int .i64) (.unit)), .bool] [.cell 2 57, .tmp 3] 18 b_s_TurnPlane args [] fun r' _ => r' = r) : orc.pc 153 args r :=
  pureC_of (envOk b) (orcOk b) Try.func153 (by rfl) rfl (by rfl) (by rfl) h1 (Nat.le_of_ble_eq_true h2) h3
/-- spec.l5Size -/
def n_s_l5Size : Nat := 154
noncomputable def b_s_l5Size : Code := (Try.f154.body).getD .skip
def k_s_l5Size : Nat → List Nat := fun n => lookN n [(3, [0, 2, 3, 4])]
theorem p_s_l5Size {args : List AV} {r : Pk} (b : Bool) (h1 : args.all AV.isD = true) (h2 : Nat.ble args.length 24 = true) (h3 : evFun (env b) orc k_s_l5Size [.int .i64] [.tmp 2] 24 b_s_l5Size args [] fun r' _ => r' = r) : orc.pc 154 args r :=
  pureC_of (envOk b) (orcOk b) Try.func154 (by rfl) rfl (by rfl) (by rfl) h1 (Nat.le_of_ble_eq_true h2) h3
/-- impl.LeastPlane -/
def n_i_LeastPlane : Nat := 155
noncomputable def b_i_LeastPlane : Code := (Try.f155.body).getD .skip
def k_i_LeastPlane : Nat → List Nat := fun n => lookN n []
theorem p_i_LeastPlane {args : List AV} {r : Pk} (b : Bool) (h1 : args.all AV.isD = true) (h2 : Nat.ble args.length 29 = true) (h3 : evFun (env b) orc k_i_LeastPlane [.pair (.sl (.int .i64)) (.pair (.int .i64) (.unit)), .bool] [.cell 4 57, .tmp 5] 29 b_i_LeastPlane args [] fun r' _ => r' = r) : orc.pc 155 args r :=
  pureC_of (envOk b) (orcOk b) Try.func155 (by rfl) rfl (by rfl) (by rfl) h1 (Nat.le_of_ble_eq_true h2) h3
/-- spec.LeastPlane -/
def n_s_LeastPlane : Nat := 156
noncomputable def b_s_LeastPlane : Code := (Try.f156.body).getD .skip
def k_s_LeastPlane : Nat → List Nat := fun n => lookN n []
theorem p_s_LeastPlane {args : List AV} {r : Pk} (b : Bool) (h1 : args.all AV.isD = true) (h2 : Nat.ble args.length 20 = true) (h3 : evFun (env b) orc k_s_LeastPlane [.pair (.sl (.int .i64)) (.pair (.int .i64) (.unit)), .bool] [.cell 4 57, .tmp 5] 20 b_s_LeastPlane args [] fun r' _ => r' = r) : orc.pc 156 args r :=
  pureC_of (envOk b) (orcOk b) Try.func156 (by rfl) rfl (by rfl) (by rfl) h1 (Nat.le_of_ble_eq_true h2) h3
/-- spec.DrawSwitchWrong -/
def n_s_DrawSwitchWrong : Nat := 157
noncomputable def b_s_DrawSwitchWrong : Code := (Try.f157.body).getD .skip
def k_s_DrawSwitchWrong : Nat → List Nat := fun n => lookN n []
theorem p_s_DrawSwitchWrong {args : List AV} {r : Pk} (b : Bool) (h1 : args.all AV.isD = true) (h2 : Nat.ble args.length 13 = true) (h3 : evFun (env b) orc k_s_DrawSwitchWrong [.pair (.sl (.sl (.int .i64))) (.pair (.sl (.int .i64)) (.unit)), .int .i64] [.cell 2 27, .tmp 3] 13 b_s_DrawSwitchWrong args [] fun r' _ => r' = r) : orc.pc 157 args r :=
  pureC_of (envOk b) (orcOk b) Try.func157 (by rfl) rfl (by rfl) (by rfl) h1 (Nat.le_of_ble_eq_true h2) h3
/-- (impl.Panel).switches -/
def n_i_Panel_switches : Nat := 158
noncomputable def b_i_Panel_switches : Code := (Try.f158.body).getD .skip
def k_i_Panel_switches : Nat → List Nat := fun n => lookN n [(11, [0, 1, 2, 4, 5, 6, 7, 8, 9, 10, 27, 28, 34, 35]), (7, [0, 1, 2, 4, 5, 6, 7, 8, 27, 28]), (4, [0, 1, 2, 4, 5, 6, 7, 8])]
theorem p_i_Panel_switches {args : List AV} {r : Pk} (b : Bool) (h1 : args.all AV.isD = true) (h2 : Nat.ble args.length 98 = true) (h3 : evFun (env b) orc k_i_Panel_switches [.sl (.sl (.sl (.int .i64)))] [.tmp 4] 98 b_i_Panel_switches args [] fun r' _ => r' = r) : orc.pc 158 args r :=
  pureC_of (envOk b) (orcOk b) Try.func158 (by rfl) rfl (by rfl) (by rfl) h1 (Nat.le_of_ble_eq_true h2) h3
/-- slices.Min[[]int,int] -/
def n_slices_Min : Nat := 159
noncomputable def b_slices_Min : Code := (Try.f159.body).getD .skip
def k_slices_Min : Nat → List Nat := fun n => lookN n [(5, [0, 2, 3, 4])]
theorem x_slices_Min : ∃ fn, Try.prog.funcs[159]? = some fn ∧ (fn.name == "runtime.NumGoroutine") = false ∧ fn.body.isNone = false := ⟨_, Try.func159, by rfl, by rfl⟩
theorem p_slices_Min {args : List AV} {r : Pk} (b : Bool) (h1 : args.all AV.isD = true) (h2 : Nat.ble args.length 25 = true) (h3 : evFun (env b) orc k_slices_Min [.int .i64] [.tmp 2] 25 b_slices_Min args [] fun r' _ => r' = r) : orc.pc 159 args r :=
  pureC_of (envOk b) (orcOk b) Try.func159 (by rfl) rfl (by rfl) (by rfl) h1 (Nat.le_of_ble_eq_true h2) h3
/-- (impl.Panel).wrong -/
def n_i_Panel_wrong : Nat := 160
noncomputable def b_i_Panel_wrong : Code := (Try.f160.body).getD .skip
def k_i_Panel_wrong : Nat → List Nat := fun n => lookN n []
theorem p_i_Panel_wrong {args : List AV} {r : Pk} (b : Bool) (h1 : args.all AV.isD = true) (h2 : Nat.ble args.length 22 = true) (h3 : evFun (env b) orc k_i_Panel_wrong [.bool] [.tmp 6] 22 b_i_Panel_wrong args [] fun r' _ => r' = r) : orc.pc 160 args r :=
  pureC_of (envOk b) (orcOk b) Try.func160 (by rfl) rfl (by rfl) (by rfl) h1 (Nat.le_of_ble_eq_true h2) h3
/-- spec.l11Switch -/
def n_s_l11Switch : Nat := 161
noncomputable def b_s_l11Switch : Code := (Try.f161.body).getD .skip
def k_s_l11Switch : Nat → List Nat := fun n => lookN n [(15, [0, 1, 2, 4, 5, 6, 7, 8, 9, 10, 11, 12, 13]), (11, [0, 1, 2, 4, 5, 6, 7, 8, 9, 10, 11]), (7, [0, 1, 2, 4, 5, 6, 7, 8, 9]), (4, [0, 1, 2, 4, 5, 6, 7, 8])]
theorem p_s_l11Switch {args : List AV} {r : Pk} (b : Bool) (h1 : args.all AV.isD = true) (h2 : Nat.ble args.length 111 = true) (h3 : evFun (env b) orc k_s_l11Switch [.sl (.sl (.sl (.int .i64)))] [.tmp 4] 111 b_s_l11Switch args [] fun r' _ => r' = r) : orc.pc 161 args r :=
  pureC_of (envOk b) (orcOk b) Try.func161 (by rfl) rfl (by rfl) (by rfl) h1 (Nat.le_of_ble_eq_true h2) h3
/-- spec.l11Begin -/
def n_s_l11Begin : Nat := 162
noncomputable def b_s_l11Begin : Code := (Try.f162.body).getD .skip
def k_s_l11Begin : Nat → List Nat := fun n => lookN n [(3, [0, 1, 4, 5, 6])]
theorem p_s_l11Begin {args : List AV} {r : Pk} (b : Bool) (h1 : args.all AV.isD = true) (h2 : Nat.ble args.length 29 = true) (h3 : evFun (env b) orc k_s_l11Begin [.int .i64] [.tmp 4] 29 b_s_l11Begin args [] fun r' _ => r' = r) : orc.pc 162 args r :=
  pureC_of (envOk b) (orcOk b) Try.func162 (by rfl) rfl (by rfl) (by rfl) h1 (Nat.le_of_ble_eq_true h2) h3
/-- spec.l11Wrong -/
def n_s_l11Wrong : Nat := 163
noncomputable def b_s_l11Wrong : Code := (Try.f163.body).getD .skip
def k_s_l11Wrong : Nat → List Nat := fun n => lookN n []
theorem p_s_l11Wrong {args : List AV} {r : Pk} (b : Bool) (h1 : args.all AV.isD = true) (h2 : Nat.ble args.length 12 = true) (h3 : evFun (env b) orc k_s_l11Wrong [.bool] [.tmp 4] 12 b_s_l11Wrong args [] fun r' _ => r' = r) : orc.pc 163 args r :=
  pureC_of (envOk b) (orcOk b) Try.func163 (by rfl) rfl (by rfl) (by rfl) h1 (Nat.le_of_ble_eq_true h2) h3
/-- (*spec.l1Cur).sample -/
def n_s_l1Cur_sample : Nat := 164
noncomputable def b_s_l1Cur_sample : Code := (Try.f164.body).getD .skip
def k_s_l1Cur_sample : Nat → List Nat := fun n => lookN n []
theorem p_s_l1Cur_sample {vs : List AV} {st : St} {r : AV} {st2 : St} (b : Bool) (hst : 0 < st.length) (h1 : vs.all (fun v => !v.isBad) = true) (h2 : Nat.ble vs.length 7 = true) (h3 : evInl (env b) orc k_s_l1Cur_sample [.pair (.sl (.sl (.int .i64))) (.pair (.sl (.int .i64)) (.unit))] [.cell 2 53] 7 b_s_l1Cur_sample (vs.map AV.inner) st fun r' st' => r' = r ∧ st' = st2) : orc.ic 164 vs st r st2 :=
  inlC_of (envOk b) (orcOk b) Try.func164 (by rfl) rfl (by rfl) (by rfl) hst h1 (Nat.le_of_ble_eq_true h2) h3
/-- spec.BoostRounds -/
def n_s_BoostRounds : Nat := 165
noncomputable def b_s_BoostRounds : Code := (Try.f165.body).getD .skip
def k_s_BoostRounds : Nat → List Nat := fun n => lookN n []
theorem p_s_BoostRounds {args : List AV} {r : Pk} (b : Bool) (h1 : args.all AV.isD = true) (h2 : Nat.ble args.length 27 = true) (h3 : evFun (env b) orc k_s_BoostRounds [.sl (.pair (.sl (.int .i64)) (.pair (.int .i64) (.unit))), .sl (.int .i64), .bool] [.tmp 4, .tmp 5, .tmp 6] 27 b_s_BoostRounds args [] fun r' _ => r' = r) : orc.pc 165 args r :=
  pureC_of (envOk b) (orcOk b) Try.func165 (by rfl) rfl (by rfl) (by rfl) h1 (Nat.le_of_ble_eq_true h2) h3
/-- (*spec.l1Cur).jury -/
def n_s_l1Cur_jury : Nat := 166
noncomputable def b_s_l1Cur_jury : Code := (Try.f166.body).getD .skip
def k_s_l1Cur_jury : Nat → List Nat := fun n => lookN n [(3, [0, 1, 4, 5, 6])]
theorem p_s_l1Cur_jury {vs : List AV} {st : St} {r : AV} {st2 : St} (b : Bool) (hst : 0 < st.length) (h1 : vs.all (fun v => !v.isBad) = true) (h2 : Nat.ble vs.length 22 = true) (h3 : evInl (env b) orc k_s_l1Cur_jury [.sl (.pair (.sl (.int .i64)) (.pair (.int .i64) (.unit)))] [.tmp 4] 22 b_s_l1Cur_jury (vs.map AV.inner) st fun r' st' => r' = r ∧ st' = st2) : orc.ic 166 vs st r st2 :=
  inlC_of (envOk b) (orcOk b) Try.func166 (by rfl) rfl (by rfl) (by rfl) hst h1 (Nat.le_of_ble_eq_true h2) h3
/-- (*spec.l1Cur).lengthOf -/
def n_s_l1Cur_lengthOf : Nat := 167
noncomputable def b_s_l1Cur_lengthOf : Code := (Try.f167.body).getD .skip
def k_s_l1Cur_lengthOf : Nat → List Nat := fun n => lookN n []
theorem p_s_l1Cur_lengthOf {vs : List AV} {st : St} {r : AV} {st2 : St} (b : Bool) (hst : 0 < st.length) (h1 : vs.all (fun v => !v.isBad) = true) (h2 : Nat.ble vs.length 29 = true) (h3 : evInl (env b) orc k_s_l1Cur_lengthOf [.int .i64] [.tmp 4] 29 b_s_l1Cur_lengthOf (vs.map AV.inner) st fun r' st' => r' = r ∧ st' = st2) : orc.ic 167 vs st r st2 :=
  inlC_of (envOk b) (orcOk b) Try.func167 (by rfl) rfl (by rfl) (by rfl) hst h1 (Nat.le_of_ble_eq_true h2) h3
/-- impl.isJury -/
def n_i_isJury : Nat := 168
noncomputable def b_i_isJury : Code := (Try.f168.body).getD .skip
def k_i_isJury : Nat → List Nat := fun n => lookN n [(2, [0, 5, 6, 7])]
theorem p_i_isJury {args : List AV} {r : Pk} (b : Bool) (h1 : args.all AV.isD = true) (h2 : Nat.ble args.length 29 = true) (h3 : evFun (env b) orc k_i_isJury [.bool] [.tmp 2] 29 b_i_isJury args [] fun r' _ => r' = r) : orc.pc 168 args r :=
  pureC_of (envOk b) (orcOk b) Try.func168 (by rfl) rfl (by rfl) (by rfl) h1 (Nat.le_of_ble_eq_true h2) h3
/-- impl.SidesOf -/
def n_i_SidesOf : Nat := 169
noncomputable def b_i_SidesOf : Code := (Try.f169.body).getD .skip
def k_i_SidesOf : Nat → List Nat := fun n => lookN n [(5, [0, 1, 2, 3, 4, 5, 6, 15, 16, 17])]
theorem p_i_SidesOf {args : List AV} {r : Pk} (b : Bool) (h1 : args.all AV.isD = true) (h2 : Nat.ble args.length 29 = true) (h3 : evFun (env b) orc k_i_SidesOf [.sl (.int .i64), .bool] [.tmp 4, .tmp 5] 29 b_i_SidesOf args [] fun r' _ => r' = r) : orc.pc 169 args r :=
  pureC_of (envOk b) (orcOk b) Try.func169 (by rfl) rfl (by rfl) (by rfl) h1 (Nat.le_of_ble_eq_true h2) h3
/-- spec.l8Jury -/
def n_s_l8Jury : Nat := 170
noncomputable def b_s_l8Jury : Code := (Try.f170.body).getD .skip
def k_s_l8Jury : Nat → List Nat := fun n => lookN n [(2, [0, 3])]
theorem p_s_l8Jury {args : List AV} {r : Pk} (b : Bool) (h1 : args.all AV.isD = true) (h2 : Nat.ble args.length 33 = true) (h3 : evFun (env b) orc k_s_l8Jury [.bool] [.tmp 2] 33 b_s_l8Jury args [] fun r' _ => r' = r) : orc.pc 170 args r :=
  pureC_of (envOk b) (orcOk b) Try.func170 (by rfl) rfl (by rfl) (by rfl) h1 (Nat.le_of_ble_eq_true h2) h3
/-- spec.l2Both -/
def n_s_l2Both : Nat := 171
noncomputable def b_s_l2Both : Code := (Try.f171.body).getD .skip
def k_s_l2Both : Nat → List Nat := fun n => lookN n []
theorem p_s_l2Both {args : List AV} {r : Pk} (b : Bool) (h1 : args.all AV.isD = true) (h2 : Nat.ble args.length 28 = true) (h3 : evFun (env b) orc k_s_l2Both [.bool] [.tmp 4] 28 b_s_l2Both args [] fun r' _ => r' = r) : orc.pc 171 args r :=
  pureC_of (envOk b) (orcOk b) Try.func171 (by rfl) rfl (by rfl) (by rfl) h1 (Nat.le_of_ble_eq_true h2) h3
/-- spec.l1Own -/
def n_s_l1Own : Nat := 172
noncomputable def b_s_l1Own : Code := (Try.f172.body).getD .skip
def k_s_l1Own : Nat → List Nat := fun n => lookN n []
theorem p_s_l1Own {args : List AV} {r : Pk} (b : Bool) (h1 : args.all AV.isD = true) (h2 : Nat.ble args.length 6 = true) (h3 : evFun (env b) orc k_s_l1Own [.sl (.int .i64)] [.tmp 2] 6 b_s_l1Own args [] fun r' _ => r' = r) : orc.pc 172 args r :=
  pureC_of (envOk b) (orcOk b) Try.func172 (by rfl) rfl (by rfl) (by rfl) h1 (Nat.le_of_ble_eq_true h2) h3
/-- spec.l2Sides -/
def n_s_l2Sides : Nat := 173
noncomputable def b_s_l2Sides : Code := (Try.f173.body).getD .skip
def k_s_l2Sides : Nat → List Nat := fun n => lookN n [(3, [0, 1, 2, 3, 4, 5, 6])]
theorem p_s_l2Sides {args : List AV} {r : Pk} (b : Bool) (h1 : args.all AV.isD = true) (h2 : Nat.ble args.length 26 = true) (h3 : evFun (env b) orc k_s_l2Sides [.sl (.int .i64)] [.tmp 4] 26 b_s_l2Sides args [] fun r' _ => r' = r) : orc.pc 173 args r :=
  pureC_of (envOk b) (orcOk b) Try.func173 (by rfl) rfl (by rfl) (by rfl) h1 (Nat.le_of_ble_eq_true h2) h3
/-- laws.rTable -/
def n_l_rTable : Nat := 174
noncomputable def b_l_rTable : Code := (Try.f174.body).getD .skip
def k_l_rTable : Nat → List Nat := fun n => lookN n [(4, [0, 1, 5])]
theorem p_l_rTable {args : List AV} {r : Pk} (b : Bool) (h1 : args.all AV.isD = true) (h2 : Nat.ble args.length 27 = true) (h3 : evFun (env b) orc k_l_rTable [.bool] [.tmp 4] 27 b_l_rTable args [] fun r' _ => r' = r) : orc.pc 174 args r :=
  pureC_of (envOk b) (orcOk b) Try.func174 (by rfl) rfl (by rfl) (by rfl) h1 (Nat.le_of_ble_eq_true h2) h3
/-- (*spec.l1Cur).panel -/
def n_s_l1Cur_panel : Nat := 175
noncomputable def b_s_l1Cur_panel : Code := (Try.f175.body).getD .skip
def k_s_l1Cur_panel : Nat → List Nat := fun n => lookN n [(30, [0, 1, 4, 5, 6, 7, 8, 9, 10, 11, 12, 13, 83, 90, 105, 118, 131]), (11, [0, 1, 4, 5, 6, 7, 8, 9, 10, 11, 12, 83, 90, 105, 118, 131]), (7, [0, 1, 4, 5, 6, 7, 8, 9, 83, 90, 105, 118, 131]), (3, [0, 1, 4, 5, 6, 7, 8, 9, 10, 11, 12, 13, 83, 90, 105, 118, 131])]
theorem p_s_l1Cur_panel {vs : List AV} {st : St} {r : AV} {st2 : St} (b : Bool) (hst : 0 < st.length) (h1 : vs.all (fun v => !v.isBad) = true) (h2 : Nat.ble vs.length 135 = true) (h3 : evInl (env b) orc k_s_l1Cur_panel [.pair (.sl (.sl (.int .i64))) (.pair (.sl (.int .i64)) (.unit))] [.cell 4 27] 135 b_s_l1Cur_panel (vs.map AV.inner) st fun r' st' => r' = r ∧ st' = st2) : orc.ic 175 vs st r st2 :=
  inlC_of (envOk b) (orcOk b) Try.func175 (by rfl) rfl (by rfl) (by rfl) hst h1 (Nat.le_of_ble_eq_true h2) h3
/-- impl.copies -/
def n_i_copies : Nat := 176
noncomputable def b_i_copies : Code := (Try.f176.body).getD .skip
def k_i_copies : Nat → List Nat := fun n => lookN n [(3, [0, 2, 3, 7, 8, 9])]
theorem p_i_copies {args : List AV} {r : Pk} (b : Bool) (h1 : args.all AV.isD = true) (h2 : Nat.ble args.length 20 = true) (h3 : evFun (env b) orc k_i_copies [.sl (.sl (.int .i64))] [.tmp 2] 20 b_i_copies args [] fun r' _ => r' = r) : orc.pc 176 args r :=
  pureC_of (envOk b) (orcOk b) Try.func176 (by rfl) rfl (by rfl) (by rfl) h1 (Nat.le_of_ble_eq_true h2) h3
/-- spec.l2Rows -/
def n_s_l2Rows : Nat := 177
noncomputable def b_s_l2Rows : Code := (Try.f177.body).getD .skip
def k_s_l2Rows : Nat → List Nat := fun n => lookN n [(3, [0, 2, 3, 4])]
theorem p_s_l2Rows {args : List AV} {r : Pk} (b : Bool) (h1 : args.all AV.isD = true) (h2 : Nat.ble args.length 21 = true) (h3 : evFun (env b) orc k_s_l2Rows [.sl (.sl (.int .i64))] [.tmp 2] 21 b_s_l2Rows args [] fun r' _ => r' = r) : orc.pc 177 args r :=
  pureC_of (envOk b) (orcOk b) Try.func177 (by rfl) rfl (by rfl) (by rfl) h1 (Nat.le_of_ble_eq_true h2) h3
/-- spec.l2Minus -/
def n_s_l2Minus : Nat := 178
noncomputable def b_s_l2Minus : Code := (Try.f178.body).getD .skip
def k_s_l2Minus : Nat → List Nat := fun n => lookN n [(3, [0, 2, 3, 4])]
theorem p_s_l2Minus {args : List AV} {r : Pk} (b : Bool) (h1 : args.all AV.isD = true) (h2 : Nat.ble args.length 21 = true) (h3 : evFun (env b) orc k_s_l2Minus [.sl (.int .i64)] [.tmp 2] 21 b_s_l2Minus args [] fun r' _ => r' = r) : orc.pc 178 args r :=
  pureC_of (envOk b) (orcOk b) Try.func178 (by rfl) rfl (by rfl) (by rfl) h1 (Nat.le_of_ble_eq_true h2) h3
/-- spec.l11Says -/
def n_s_l11Says : Nat := 179
noncomputable def b_s_l11Says : Code := (Try.f179.body).getD .skip
def k_s_l11Says : Nat → List Nat := fun n => lookN n [(2, [0, 1, 5])]
theorem p_s_l11Says {args : List AV} {r : Pk} (b : Bool) (h1 : args.all AV.isD = true) (h2 : Nat.ble args.length 22 = true) (h3 : evFun (env b) orc k_s_l11Says [.bool] [.tmp 4] 22 b_s_l11Says args [] fun r' _ => r' = r) : orc.pc 179 args r :=
  pureC_of (envOk b) (orcOk b) Try.func179 (by rfl) rfl (by rfl) (by rfl) h1 (Nat.le_of_ble_eq_true h2) h3
/-- spec.l2Labels -/
def n_s_l2Labels : Nat := 180
noncomputable def b_s_l2Labels : Code := (Try.f180.body).getD .skip
def k_s_l2Labels : Nat → List Nat := fun n => lookN n [(2, [0, 3])]
theorem p_s_l2Labels {args : List AV} {r : Pk} (b : Bool) (h1 : args.all AV.isD = true) (h2 : Nat.ble args.length 22 = true) (h3 : evFun (env b) orc k_s_l2Labels [.bool] [.tmp 2] 22 b_s_l2Labels args [] fun r' _ => r' = r) : orc.pc 180 args r :=
  pureC_of (envOk b) (orcOk b) Try.func180 (by rfl) rfl (by rfl) (by rfl) h1 (Nat.le_of_ble_eq_true h2) h3
/-- slices.Index[[]int,int] -/
def n_slices_Index : Nat := 181
noncomputable def b_slices_Index : Code := (Try.f181.body).getD .skip
def k_slices_Index : Nat → List Nat := fun n => lookN n [(2, [0, 1, 7, 8])]
theorem x_slices_Index : ∃ fn, Try.prog.funcs[181]? = some fn ∧ (fn.name == "runtime.NumGoroutine") = false ∧ fn.body.isNone = false := ⟨_, Try.func181, by rfl, by rfl⟩
theorem p_slices_Index {args : List AV} {r : Pk} (b : Bool) (h1 : args.all AV.isD = true) (h2 : Nat.ble args.length 19 = true) (h3 : evFun (env b) orc k_slices_Index [.int .i64] [.tmp 4] 19 b_slices_Index args [] fun r' _ => r' = r) : orc.pc 181 args r :=
  pureC_of (envOk b) (orcOk b) Try.func181 (by rfl) rfl (by rfl) (by rfl) h1 (Nat.le_of_ble_eq_true h2) h3
/-- (impl.Plane).side -/
def n_i_Plane_side : Nat := 182
noncomputable def b_i_Plane_side : Code := (Try.f182.body).getD .skip
def k_i_Plane_side : Nat → List Nat := fun n => lookN n []
theorem p_i_Plane_side {args : List AV} {r : Pk} (b : Bool) (h1 : args.all AV.isD = true) (h2 : Nat.ble args.length 12 = true) (h3 : evFun (env b) orc k_i_Plane_side [.int .i64] [.tmp 4] 12 b_i_Plane_side args [] fun r' _ => r' = r) : orc.pc 182 args r :=
  pureC_of (envOk b) (orcOk b) Try.func182 (by rfl) rfl (by rfl) (by rfl) h1 (Nat.le_of_ble_eq_true h2) h3
/-- spec.l9Give -/
def n_s_l9Give : Nat := 183
noncomputable def b_s_l9Give : Code := (Try.f183.body).getD .skip
def k_s_l9Give : Nat → List Nat := fun n => lookN n [(3, [0, 1, 4, 5, 6])]
theorem p_s_l9Give {args : List AV} {r : Pk} (b : Bool) (h1 : args.all AV.isD = true) (h2 : Nat.ble args.length 28 = true) (h3 : evFun (env b) orc k_s_l9Give [.sl (.int .i64)] [.tmp 4] 28 b_s_l9Give args [] fun r' _ => r' = r) : orc.pc 183 args r :=
  pureC_of (envOk b) (orcOk b) Try.func183 (by rfl) rfl (by rfl) (by rfl) h1 (Nat.le_of_ble_eq_true h2) h3
/-- spec.l2BitPoint -/
def n_s_l2BitPoint : Nat := 184
noncomputable def b_s_l2BitPoint : Code := (Try.f184.body).getD .skip
def k_s_l2BitPoint : Nat → List Nat := fun n => lookN n [(3, [0, 1, 4, 5, 6])]
theorem p_s_l2BitPoint {args : List AV} {r : Pk} (b : Bool) (h1 : args.all AV.isD = true) (h2 : Nat.ble args.length 21 = true) (h3 : evFun (env b) orc k_s_l2BitPoint [.sl (.int .i64)] [.tmp 4] 21 b_s_l2BitPoint args [] fun r' _ => r' = r) : orc.pc 184 args r :=
  pureC_of (envOk b) (orcOk b) Try.func184 (by rfl) rfl (by rfl) (by rfl) h1 (Nat.le_of_ble_eq_true h2) h3
/-- (*spec.l1Cur).plane -/
def n_s_l1Cur_plane : Nat := 185
noncomputable def b_s_l1Cur_plane : Code := (Try.f185.body).getD .skip
def k_s_l1Cur_plane : Nat → List Nat := fun n => lookN n [(3, [0, 1, 4, 5, 6, 7, 40, 46, 59])]
theorem p_s_l1Cur_plane {vs : List AV} {st : St} {r : AV} {st2 : St} (b : Bool) (hst : 0 < st.length) (h1 : vs.all (fun v => !v.isBad) = true) (h2 : Nat.ble vs.length 67 = true) (h3 : evInl (env b) orc k_s_l1Cur_plane [.pair (.sl (.int .i64)) (.pair (.int .i64) (.unit))] [.cell 4 57] 67 b_s_l1Cur_plane (vs.map AV.inner) st fun r' st' => r' = r ∧ st' = st2) : orc.ic 185 vs st r st2 :=
  inlC_of (envOk b) (orcOk b) Try.func185 (by rfl) rfl (by rfl) (by rfl) hst h1 (Nat.le_of_ble_eq_true h2) h3
/-- (*spec.l1Cur).point -/
def n_s_l1Cur_point : Nat := 186
noncomputable def b_s_l1Cur_point : Code := (Try.f186.body).getD .skip
def k_s_l1Cur_point : Nat → List Nat := fun n => lookN n [(3, [0, 1, 4, 5, 6, 7])]
theorem p_s_l1Cur_point {vs : List AV} {st : St} {r : AV} {st2 : St} (b : Bool) (hst : 0 < st.length) (h1 : vs.all (fun v => !v.isBad) = true) (h2 : Nat.ble vs.length 47 = true) (h3 : evInl (env b) orc k_s_l1Cur_point [.sl (.int .i64)] [.tmp 4] 47 b_s_l1Cur_point (vs.map AV.inner) st fun r' st' => r' = r ∧ st' = st2) : orc.ic 186 vs st r st2 :=
  inlC_of (envOk b) (orcOk b) Try.func186 (by rfl) rfl (by rfl) (by rfl) hst h1 (Nat.le_of_ble_eq_true h2) h3
/-- spec.l2One -/
def n_s_l2One : Nat := 187
noncomputable def b_s_l2One : Code := (Try.f187.body).getD .skip
def k_s_l2One : Nat → List Nat := fun n => lookN n []
theorem p_s_l2One {args : List AV} {r : Pk} (b : Bool) (h1 : args.all AV.isD = true) (h2 : Nat.ble args.length 19 = true) (h3 : evFun (env b) orc k_s_l2One [.bool] [.tmp 4] 19 b_s_l2One args [] fun r' _ => r' = r) : orc.pc 187 args r :=
  pureC_of (envOk b) (orcOk b) Try.func187 (by rfl) rfl (by rfl) (by rfl) h1 (Nat.le_of_ble_eq_true h2) h3
/-- spec.l2Side -/
def n_s_l2Side : Nat := 188
noncomputable def b_s_l2Side : Code := (Try.f188.body).getD .skip
def k_s_l2Side : Nat → List Nat := fun n => lookN n []
theorem p_s_l2Side {args : List AV} {r : Pk} (b : Bool) (h1 : args.all AV.isD = true) (h2 : Nat.ble args.length 12 = true) (h3 : evFun (env b) orc k_s_l2Side [.int .i64] [.tmp 4] 12 b_s_l2Side args [] fun r' _ => r' = r) : orc.pc 188 args r :=
  pureC_of (envOk b) (orcOk b) Try.func188 (by rfl) rfl (by rfl) (by rfl) h1 (Nat.le_of_ble_eq_true h2) h3
/-- spec.l3Step -/
def n_s_l3Step : Nat := 189
noncomputable def b_s_l3Step : Code := (Try.f189.body).getD .skip
def k_s_l3Step : Nat → List Nat := fun n => lookN n [(5, [0, 1, 2, 3, 6, 7, 8, 9])]
theorem p_s_l3Step {args : List AV} {r : Pk} (b : Bool) (h1 : args.all AV.isD = true) (h2 : Nat.ble args.length 47 = true) (h3 : evFun (env b) orc k_s_l3Step [.pair (.sl (.int .i64)) (.pair (.int .i64) (.unit)), .bool] [.cell 6 57, .tmp 7] 47 b_s_l3Step args [] fun r' _ => r' = r) : orc.pc 189 args r :=
  pureC_of (envOk b) (orcOk b) Try.func189 (by rfl) rfl (by rfl) (by rfl) h1 (Nat.le_of_ble_eq_true h2) h3
/-- (*spec.l1Cur).next -/
def n_s_l1Cur_next : Nat := 190
noncomputable def b_s_l1Cur_next : Code := (Try.f190.body).getD .skip
def k_s_l1Cur_next : Nat → List Nat := fun n => lookN n []
theorem p_s_l1Cur_next {vs : List AV} {st : St} {r : AV} {st2 : St} (b : Bool) (hst : 0 < st.length) (h1 : vs.all (fun v => !v.isBad) = true) (h2 : Nat.ble vs.length 62 = true) (h3 : evInl (env b) orc k_s_l1Cur_next [.int .i64] [.tmp 2] 62 b_s_l1Cur_next (vs.map AV.inner) st fun r' st' => r' = r ∧ st' = st2) : orc.ic 190 vs st r st2 :=
  inlC_of (envOk b) (orcOk b) Try.func190 (by rfl) rfl (by rfl) (by rfl) hst h1 (Nat.le_of_ble_eq_true h2) h3
/-- impl.IsPoint -/
def n_i_IsPoint : Nat := 191
noncomputable def b_i_IsPoint : Code := (Try.f191.body).getD .skip
def k_i_IsPoint : Nat → List Nat := fun n => lookN n []
theorem p_i_IsPoint {args : List AV} {r : Pk} (b : Bool) (h1 : args.all AV.isD = true) (h2 : Nat.ble args.length 10 = true) (h3 : evFun (env b) orc k_i_IsPoint [.bool] [.tmp 2] 10 b_i_IsPoint args [] fun r' _ => r' = r) : orc.pc 191 args r :=
  pureC_of (envOk b) (orcOk b) Try.func191 (by rfl) rfl (by rfl) (by rfl) h1 (Nat.le_of_ble_eq_true h2) h3
/-- spec.l2Point -/
def n_s_l2Point : Nat := 192
noncomputable def b_s_l2Point : Code := (Try.f192.body).getD .skip
def k_s_l2Point : Nat → List Nat := fun n => lookN n []
theorem p_s_l2Point {args : List AV} {r : Pk} (b : Bool) (h1 : args.all AV.isD = true) (h2 : Nat.ble args.length 10 = true) (h3 : evFun (env b) orc k_s_l2Point [.bool] [.tmp 2] 10 b_s_l2Point args [] fun r' _ => r' = r) : orc.pc 192 args r :=
  pureC_of (envOk b) (orcOk b) Try.func192 (by rfl) rfl (by rfl) (by rfl) h1 (Nat.le_of_ble_eq_true h2) h3
/-- spec.l2Numbers -/
def n_s_l2Numbers : Nat := 193
noncomputable def b_s_l2Numbers : Code := (Try.f193.body).getD .skip
def k_s_l2Numbers : Nat → List Nat := fun n => lookN n [(2, [0, 1, 5])]
theorem p_s_l2Numbers {args : List AV} {r : Pk} (b : Bool) (h1 : args.all AV.isD = true) (h2 : Nat.ble args.length 21 = true) (h3 : evFun (env b) orc k_s_l2Numbers [.bool] [.tmp 4] 21 b_s_l2Numbers args [] fun r' _ => r' = r) : orc.pc 193 args r :=
  pureC_of (envOk b) (orcOk b) Try.func193 (by rfl) rfl (by rfl) (by rfl) h1 (Nat.le_of_ble_eq_true h2) h3
/-- (*spec.l1Cur).school -/
def n_s_l1Cur_school : Nat := 194
noncomputable def b_s_l1Cur_school : Code := (Try.f194.body).getD .skip
def k_s_l1Cur_school : Nat → List Nat := fun n => lookN n [(4, [0, 2, 3, 4, 5, 6, 39, 45, 51, 61])]
theorem p_s_l1Cur_school {vs : List AV} {st : St} {r : AV} {st2 : St} (b : Bool) (hst : 0 < st.length) (h1 : vs.all (fun v => !v.isBad) = true) (h2 : Nat.ble vs.length 72 = true) (h3 : evInl (env b) orc k_s_l1Cur_school [.pair (.pair (.sl (.sl (.int .i64))) (.pair (.sl (.int .i64)) (.unit))) (.pair (.pair (.sl (.int .i64)) (.pair (.int .i64) (.unit))) (.pair (.int .i64) (.pair (.int .i64) (.unit))))] [.cell 2 74] 72 b_s_l1Cur_school (vs.map AV.inner) st fun r' st' => r' = r ∧ st' = st2) : orc.ic 194 vs st r st2 :=
  inlC_of (envOk b) (orcOk b) Try.func194 (by rfl) rfl (by rfl) (by rfl) hst h1 (Nat.le_of_ble_eq_true h2) h3
/-- spec.l2TableOf -/
def n_s_l2TableOf : Nat := 195
noncomputable def b_s_l2TableOf : Code := (Try.f195.body).getD .skip
def k_s_l2TableOf : Nat → List Nat := fun n => lookN n [(3, [0, 1, 3, 4, 5, 6])]
theorem p_s_l2TableOf {args : List AV} {r : Pk} (b : Bool) (h1 : args.all AV.isD = true) (h2 : Nat.ble args.length 25 = true) (h3 : evFun (env b) orc k_s_l2TableOf [.sl (.int .i64)] [.tmp 4] 25 b_s_l2TableOf args [] fun r' _ => r' = r) : orc.pc 195 args r :=
  pureC_of (envOk b) (orcOk b) Try.func195 (by rfl) rfl (by rfl) (by rfl) h1 (Nat.le_of_ble_eq_true h2) h3
/-- impl.leastPlane -/
def n_i_leastPlane : Nat := 196
noncomputable def b_i_leastPlane : Code := (Try.f196.body).getD .skip
def k_i_leastPlane : Nat → List Nat := fun n => lookN n []
theorem p_i_leastPlane {args : List AV} {r : Pk} (b : Bool) (h1 : args.all AV.isD = true) (h2 : Nat.ble args.length 17 = true) (h3 : evFun (env b) orc k_i_leastPlane [.pair (.sl (.int .i64)) (.pair (.int .i64) (.unit)), .int .i64, .bool] [.cell 4 57, .tmp 5, .tmp 6] 17 b_i_leastPlane args [] fun r' _ => r' = r) : orc.pc 196 args r :=
  pureC_of (envOk b) (orcOk b) Try.func196 (by rfl) rfl (by rfl) (by rfl) h1 (Nat.le_of_ble_eq_true h2) h3
/-- spec.l2KeptPlane -/
def n_s_l2KeptPlane : Nat := 197
noncomputable def b_s_l2KeptPlane : Code := (Try.f197.body).getD .skip
def k_s_l2KeptPlane : Nat → List Nat := fun n => lookN n []
theorem p_s_l2KeptPlane {vs : List AV} {st : St} {r : AV} {st2 : St} (b : Bool) (hst : 0 < st.length) (h1 : vs.all (fun v => !v.isBad) = true) (h2 : Nat.ble vs.length 9 = true) (h3 : evInl (env b) orc k_s_l2KeptPlane [.pair (.sl (.int .i64)) (.pair (.int .i64) (.unit)), .bool] [.cell 2 57, .tmp 3] 9 b_s_l2KeptPlane (vs.map AV.inner) st fun r' st' => r' = r ∧ st' = st2) : orc.ic 197 vs st r st2 :=
  inlC_of (envOk b) (orcOk b) Try.func197 (by rfl) rfl (by rfl) (by rfl) hst h1 (Nat.le_of_ble_eq_true h2) h3
/-- spec.l2Table -/
def n_s_l2Table : Nat := 198
noncomputable def b_s_l2Table : Code := (Try.f198.body).getD .skip
def k_s_l2Table : Nat → List Nat := fun n => lookN n [(4, [0, 1, 5])]
theorem p_s_l2Table {args : List AV} {r : Pk} (b : Bool) (h1 : args.all AV.isD = true) (h2 : Nat.ble args.length 28 = true) (h3 : evFun (env b) orc k_s_l2Table [.bool] [.tmp 4] 28 b_s_l2Table args [] fun r' _ => r' = r) : orc.pc 198 args r :=
  pureC_of (envOk b) (orcOk b) Try.func198 (by rfl) rfl (by rfl) (by rfl) h1 (Nat.le_of_ble_eq_true h2) h3
/-- spec.l5Plane -/
def n_s_l5Plane : Nat := 199
noncomputable def b_s_l5Plane : Code := (Try.f199.body).getD .skip
def k_s_l5Plane : Nat → List Nat := fun n => lookN n []
theorem p_s_l5Plane {args : List AV} {r : Pk} (b : Bool) (h1 : args.all AV.isD = true) (h2 : Nat.ble args.length 38 = true) (h3 : evFun (env b) orc k_s_l5Plane [.pair (.sl (.int .i64)) (.pair (.int .i64) (.unit)), .bool] [.cell 4 57, .tmp 5] 38 b_s_l5Plane args [] fun r' _ => r' = r) : orc.pc 199 args r :=
  pureC_of (envOk b) (orcOk b) Try.func199 (by rfl) rfl (by rfl) (by rfl) h1 (Nat.le_of_ble_eq_true h2) h3
/-- spec.l8Some -/
def n_s_l8Some : Nat := 200
noncomputable def b_s_l8Some : Code := (Try.f200.body).getD .skip
def k_s_l8Some : Nat → List Nat := fun n => lookN n []
theorem p_s_l8Some {args : List AV} {r : Pk} (b : Bool) (h1 : args.all AV.isD = true) (h2 : Nat.ble args.length 11 = true) (h3 : evFun (env b) orc k_s_l8Some [.bool] [.tmp 2] 11 b_s_l8Some args [] fun r' _ => r' = r) : orc.pc 200 args r :=
  pureC_of (envOk b) (orcOk b) Try.func200 (by rfl) rfl (by rfl) (by rfl) h1 (Nat.le_of_ble_eq_true h2) h3
/-- spec.l8Boost -/
def n_s_l8Boost : Nat := 201
noncomputable def b_s_l8Boost : Code := (Try.f201.body).getD .skip
def k_s_l8Boost : Nat → List Nat := fun n => lookN n [(9, [0, 1, 2, 4, 5, 6, 7, 8, 9, 10, 11]), (3, [0, 1, 2, 4, 5, 6, 7, 8])]
theorem p_s_l8Boost {args : List AV} {r : Pk} (b : Bool) (h1 : args.all AV.isD = true) (h2 : Nat.ble args.length 52 = true) (h3 : evFun (env b) orc k_s_l8Boost [.sl (.pair (.sl (.int .i64)) (.pair (.int .i64) (.unit))), .sl (.int .i64)] [.tmp 4, .tmp 5] 52 b_s_l8Boost args [] fun r' _ => r' = r) : orc.pc 201 args r :=
  pureC_of (envOk b) (orcOk b) Try.func201 (by rfl) rfl (by rfl) (by rfl) h1 (Nat.le_of_ble_eq_true h2) h3
/-- impl.product -/
def n_i_product : Nat := 202
noncomputable def b_i_product : Code := (Try.f202.body).getD .skip
def k_i_product : Nat → List Nat := fun n => lookN n [(3, [0, 1, 4, 5, 8, 9, 10])]
theorem p_i_product {args : List AV} {r : Pk} (b : Bool) (h1 : args.all AV.isD = true) (h2 : Nat.ble args.length 25 = true) (h3 : evFun (env b) orc k_i_product [.int .i64] [.tmp 4] 25 b_i_product args [] fun r' _ => r' = r) : orc.pc 202 args r :=
  pureC_of (envOk b) (orcOk b) Try.func202 (by rfl) rfl (by rfl) (by rfl) h1 (Nat.le_of_ble_eq_true h2) h3
/-- spec.l2Dot -/
def n_s_l2Dot : Nat := 203
noncomputable def b_s_l2Dot : Code := (Try.f203.body).getD .skip
def k_s_l2Dot : Nat → List Nat := fun n => lookN n [(3, [0, 1, 4, 5, 6])]
theorem p_s_l2Dot {args : List AV} {r : Pk} (b : Bool) (h1 : args.all AV.isD = true) (h2 : Nat.ble args.length 25 = true) (h3 : evFun (env b) orc k_s_l2Dot [.int .i64] [.tmp 4] 25 b_s_l2Dot args [] fun r' _ => r' = r) : orc.pc 203 args r :=
  pureC_of (envOk b) (orcOk b) Try.func203 (by rfl) rfl (by rfl) (by rfl) h1 (Nat.le_of_ble_eq_true h2) h3
/-- spec.NewSchool -/
def n_s_NewSchool : Nat := 204
noncomputable def b_s_NewSchool : Code := (Try.f204.body).getD .skip
def k_s_NewSchool : Nat → List Nat := fun n => lookN n []
theorem p_s_NewSchool {args : List AV} {r : Pk} (b : Bool) (h1 : args.all AV.isD = true) (h2 : Nat.ble args.length 13 = true) (h3 : evFun (env b) orc k_s_NewSchool [.pair (.pair (.sl (.sl (.int .i64))) (.pair (.sl (.int .i64)) (.unit))) (.pair (.pair (.sl (.int .i64)) (.pair (.int .i64) (.unit))) (.pair (.int .i64) (.pair (.int .i64) (.unit)))), .bool] [.cell 2 74, .tmp 3] 13 b_s_NewSchool args [] fun r' _ => r' = r) : orc.pc 204 args r :=
  pureC_of (envOk b) (orcOk b) Try.func204 (by rfl) rfl (by rfl) (by rfl) h1 (Nat.le_of_ble_eq_true h2) h3
/-- spec.l12Do -/
def n_s_l12Do : Nat := 205
noncomputable def b_s_l12Do : Code := (Try.f205.body).getD .skip
def k_s_l12Do : Nat → List Nat := fun n => lookN n []
theorem p_s_l12Do {args : List AV} {r : Pk} (b : Bool) (h1 : args.all AV.isD = true) (h2 : Nat.ble args.length 33 = true) (h3 : evFun (env b) orc k_s_l12Do [.pair (.pair (.sl (.sl (.int .i64))) (.pair (.sl (.int .i64)) (.unit))) (.pair (.pair (.sl (.int .i64)) (.pair (.int .i64) (.unit))) (.pair (.int .i64) (.pair (.int .i64) (.unit)))), .bool] [.cell 4 74, .tmp 5] 33 b_s_l12Do args [] fun r' _ => r' = r) : orc.pc 205 args r :=
  pureC_of (envOk b) (orcOk b) Try.func205 (by rfl) rfl (by rfl) (by rfl) h1 (Nat.le_of_ble_eq_true h2) h3
/-- (*spec.l1Cur).lesson12 -/
def n_s_l1Cur_lesson12 : Nat := 206
noncomputable def b_s_l1Cur_lesson12 : Code := (Try.f206.body).getD .skip
def k_s_l1Cur_lesson12 : Nat → List Nat := fun n => lookN n []
theorem p_s_l1Cur_lesson12 {vs : List AV} {st : St} {r : AV} {st2 : St} (b : Bool) (hst : 0 < st.length) (h1 : vs.all (fun v => !v.isBad) = true) (h2 : Nat.ble vs.length 83 = true) (h3 : evInl (env b) orc k_s_l1Cur_lesson12 [.pair (.int .i64) (.pair (.int .i64) (.pair (.int .i64) (.pair (.sl (.int .i64)) (.unit))))] [.cell 4 176] 83 b_s_l1Cur_lesson12 (vs.map AV.inner) st fun r' st' => r' = r ∧ st' = st2) : orc.ic 206 vs st r st2 :=
  inlC_of (envOk b) (orcOk b) Try.func206 (by rfl) rfl (by rfl) (by rfl) hst h1 (Nat.le_of_ble_eq_true h2) h3
/-- impl.smallWeights -/
def n_i_smallWeights : Nat := 207
noncomputable def b_i_smallWeights : Code := (Try.f207.body).getD .skip
def k_i_smallWeights : Nat → List Nat := fun n => lookN n [(8, [0, 1, 2, 6, 7, 8]), (6, [0, 1, 2, 6, 7]), (2, [0, 1, 2, 6, 8, 12, 13])]
theorem p_i_smallWeights {args : List AV} {r : Pk} (b : Bool) (h1 : args.all AV.isD = true) (h2 : Nat.ble args.length 52 = true) (h3 : evFun (env b) orc k_i_smallWeights [] [] 52 b_i_smallWeights args [] fun r' _ => r' = r) : orc.pc 207 args r :=
  pureC_of (envOk b) (orcOk b) Try.func207 (by rfl) rfl (by rfl) (by rfl) h1 (Nat.le_of_ble_eq_true h2) h3
/-- impl.leastPlane$1 -/
def n_i_leastPlane_1 : Nat := 208
noncomputable def b_i_leastPlane_1 : Code := (Try.f208.body).getD .skip
def k_i_leastPlane_1 : Nat → List Nat := fun n => lookN n [(2, [0, 1, 2, 3, 4, 6, 9, 10, 11, 12, 13])]
theorem p_i_leastPlane_1 {args : List AV} {r : Pk} (b : Bool) (h1 : args.all AV.isD = true) (h2 : Nat.ble args.length 47 = true) (h3 : evFun (env b) orc k_i_leastPlane_1 [] [] 47 b_i_leastPlane_1 args [] fun r' _ => r' = r) : orc.pc 208 args r :=
  pureC_of (envOk b) (orcOk b) Try.func208 (by rfl) rfl (by rfl) (by rfl) h1 (Nat.le_of_ble_eq_true h2) h3
/-- impl.gap -/
def n_i_gap : Nat := 209
noncomputable def b_i_gap : Code := (Try.f209.body).getD .skip
def k_i_gap : Nat → List Nat := fun n => lookN n [(3, [0, 1, 4, 5, 6, 7, 10, 11, 12])]
theorem p_i_gap {args : List AV} {r : Pk} (b : Bool) (h1 : args.all AV.isD = true) (h2 : Nat.ble args.length 34 = true) (h3 : evFun (env b) orc k_i_gap [.int .i64, .int .i64] [.tmp 4, .tmp 5] 34 b_i_gap args [] fun r' _ => r' = r) : orc.pc 209 args r :=
  pureC_of (envOk b) (orcOk b) Try.func209 (by rfl) rfl (by rfl) (by rfl) h1 (Nat.le_of_ble_eq_true h2) h3
/-- impl.productsOf -/
def n_i_productsOf : Nat := 210
noncomputable def b_i_productsOf : Code := (Try.f210.body).getD .skip
def k_i_productsOf : Nat → List Nat := fun n => lookN n [(3, [0, 1, 4, 5, 9, 10])]
theorem p_i_productsOf {args : List AV} {r : Pk} (b : Bool) (h1 : args.all AV.isD = true) (h2 : Nat.ble args.length 23 = true) (h3 : evFun (env b) orc k_i_productsOf [.sl (.int .i64)] [.tmp 4] 23 b_i_productsOf args [] fun r' _ => r' = r) : orc.pc 210 args r :=
  pureC_of (envOk b) (orcOk b) Try.func210 (by rfl) rfl (by rfl) (by rfl) h1 (Nat.le_of_ble_eq_true h2) h3
/-- spec.l5Least -/
def n_s_l5Least : Nat := 211
noncomputable def b_s_l5Least : Code := (Try.f211.body).getD .skip
def k_s_l5Least : Nat → List Nat := fun n => lookN n [(4, [0, 1, 4, 5, 6, 7, 8, 9])]
theorem p_s_l5Least {args : List AV} {r : Pk} (b : Bool) (h1 : args.all AV.isD = true) (h2 : Nat.ble args.length 51 = true) (h3 : evFun (env b) orc k_s_l5Least [.sl (.int .i64), .bool] [.tmp 4, .tmp 5] 51 b_s_l5Least args [] fun r' _ => r' = r) : orc.pc 211 args r :=
  pureC_of (envOk b) (orcOk b) Try.func211 (by rfl) rfl (by rfl) (by rfl) h1 (Nat.le_of_ble_eq_true h2) h3
/-- spec.l5Parts -/
def n_s_l5Parts : Nat := 212
noncomputable def b_s_l5Parts : Code := (Try.f212.body).getD .skip
def k_s_l5Parts : Nat → List Nat := fun n => lookN n [(3, [0, 1, 2, 6, 7, 8, 9, 10, 11, 12, 13])]
theorem p_s_l5Parts {args : List AV} {r : Pk} (b : Bool) (h1 : args.all AV.isD = true) (h2 : Nat.ble args.length 64 = true) (h3 : evFun (env b) orc k_s_l5Parts [.int .i64, .int .i64, .bool] [.tmp 6, .tmp 7, .tmp 8] 64 b_s_l5Parts args [] fun r' _ => r' = r) : orc.pc 212 args r :=
  pureC_of (envOk b) (orcOk b) Try.func212 (by rfl) rfl (by rfl) (by rfl) h1 (Nat.le_of_ble_eq_true h2) h3
/-- spec.l1Has -/
def n_s_l1Has : Nat := 213
noncomputable def b_s_l1Has : Code := (Try.f213.body).getD .skip
def k_s_l1Has : Nat → List Nat := fun n => lookN n [(2, [0, 1, 5])]
theorem p_s_l1Has {args : List AV} {r : Pk} (b : Bool) (h1 : args.all AV.isD = true) (h2 : Nat.ble args.length 18 = true) (h3 : evFun (env b) orc k_s_l1Has [.bool] [.tmp 4] 18 b_s_l1Has args [] fun r' _ => r' = r) : orc.pc 213 args r :=
  pureC_of (envOk b) (orcOk b) Try.func213 (by rfl) rfl (by rfl) (by rfl) h1 (Nat.le_of_ble_eq_true h2) h3
/-- spec.l8Ones -/
def n_s_l8Ones : Nat := 214
noncomputable def b_s_l8Ones : Code := (Try.f214.body).getD .skip
def k_s_l8Ones : Nat → List Nat := fun n => lookN n [(3, [0, 1, 2, 3, 4])]
theorem p_s_l8Ones {args : List AV} {r : Pk} (b : Bool) (h1 : args.all AV.isD = true) (h2 : Nat.ble args.length 17 = true) (h3 : evFun (env b) orc k_s_l8Ones [.sl (.int .i64)] [.tmp 2] 17 b_s_l8Ones args [] fun r' _ => r' = r) : orc.pc 214 args r :=
  pureC_of (envOk b) (orcOk b) Try.func214 (by rfl) rfl (by rfl) (by rfl) h1 (Nat.le_of_ble_eq_true h2) h3
/-- spec.l8Best -/
def n_s_l8Best : Nat := 215
noncomputable def b_s_l8Best : Code := (Try.f215.body).getD .skip
def k_s_l8Best : Nat → List Nat := fun n => lookN n [(4, [0, 1, 2, 4, 5, 6, 7])]
theorem p_s_l8Best {args : List AV} {r : Pk} (b : Bool) (h1 : args.all AV.isD = true) (h2 : Nat.ble args.length 36 = true) (h3 : evFun (env b) orc k_s_l8Best [.pair (.sl (.int .i64)) (.pair (.int .i64) (.unit))] [.cell 4 57] 36 b_s_l8Best args [] fun r' _ => r' = r) : orc.pc 215 args r :=
  pureC_of (envOk b) (orcOk b) Try.func215 (by rfl) rfl (by rfl) (by rfl) h1 (Nat.le_of_ble_eq_true h2) h3
/-- spec.l12Own -/
def n_s_l12Own : Nat := 216
noncomputable def b_s_l12Own : Code := (Try.f216.body).getD .skip
def k_s_l12Own : Nat → List Nat := fun n => lookN n [(4, [0, 1, 2, 3, 4])]
theorem p_s_l12Own {args : List AV} {r : Pk} (b : Bool) (h1 : args.all AV.isD = true) (h2 : Nat.ble args.length 42 = true) (h3 : evFun (env b) orc k_s_l12Own [.pair (.pair (.sl (.sl (.int .i64))) (.pair (.sl (.int .i64)) (.unit))) (.pair (.pair (.sl (.int .i64)) (.pair (.int .i64) (.unit))) (.pair (.int .i64) (.pair (.int .i64) (.unit))))] [.cell 2 74] 42 b_s_l12Own args [] fun r' _ => r' = r) : orc.pc 216 args r :=
  pureC_of (envOk b) (orcOk b) Try.func216 (by rfl) rfl (by rfl) (by rfl) h1 (Nat.le_of_ble_eq_true h2) h3
/-- spec.l12May -/
def n_s_l12May : Nat := 217
noncomputable def b_s_l12May : Code := (Try.f217.body).getD .skip
def k_s_l12May : Nat → List Nat := fun n => lookN n []
theorem p_s_l12May {args : List AV} {r : Pk} (b : Bool) (h1 : args.all AV.isD = true) (h2 : Nat.ble args.length 83 = true) (h3 : evFun (env b) orc k_s_l12May [.bool] [.tmp 4] 83 b_s_l12May args [] fun r' _ => r' = r) : orc.pc 217 args r :=
  pureC_of (envOk b) (orcOk b) Try.func217 (by rfl) rfl (by rfl) (by rfl) h1 (Nat.le_of_ble_eq_true h2) h3
/-- spec.l12Make -/
def n_s_l12Make : Nat := 218
noncomputable def b_s_l12Make : Code := (Try.f218.body).getD .skip
def k_s_l12Make : Nat → List Nat := fun n => lookN n []
theorem p_s_l12Make {args : List AV} {r : Pk} (b : Bool) (h1 : args.all AV.isD = true) (h2 : Nat.ble args.length 124 = true) (h3 : evFun (env b) orc k_s_l12Make [.pair (.pair (.sl (.sl (.int .i64))) (.pair (.sl (.int .i64)) (.unit))) (.pair (.pair (.sl (.int .i64)) (.pair (.int .i64) (.unit))) (.pair (.int .i64) (.pair (.int .i64) (.unit)))), .bool] [.cell 4 74, .tmp 5] 124 b_s_l12Make args [] fun r' _ => r' = r) : orc.pc 218 args r :=
  pureC_of (envOk b) (orcOk b) Try.func218 (by rfl) rfl (by rfl) (by rfl) h1 (Nat.le_of_ble_eq_true h2) h3
/-- spec.l5Weights -/
def n_s_l5Weights : Nat := 219
noncomputable def b_s_l5Weights : Code := (Try.f219.body).getD .skip
def k_s_l5Weights : Nat → List Nat := fun n => lookN n [(10, [0, 2, 3, 4, 5, 6, 7]), (7, [0, 2, 3, 4, 5, 6]), (3, [0, 2, 3, 4])]
theorem p_s_l5Weights {args : List AV} {r : Pk} (b : Bool) (h1 : args.all AV.isD = true) (h2 : Nat.ble args.length 39 = true) (h3 : evFun (env b) orc k_s_l5Weights [.sl (.sl (.int .i64))] [.tmp 2] 39 b_s_l5Weights args [] fun r' _ => r' = r) : orc.pc 219 args r :=
  pureC_of (envOk b) (orcOk b) Try.func219 (by rfl) rfl (by rfl) (by rfl) h1 (Nat.le_of_ble_eq_true h2) h3
/-- spec.l8Stumps -/
def n_s_l8Stumps : Nat := 220
noncomputable def b_s_l8Stumps : Code := (Try.f220.body).getD .skip
def k_s_l8Stumps : Nat → List Nat := fun n => lookN n [(15, [0, 1, 2, 3, 4, 5, 6, 7, 8, 9]), (10, [0, 1, 2, 3, 4, 5, 6, 7, 8, 9]), (6, [0, 1, 2, 3, 4, 5, 6]), (3, [0, 1, 2, 3, 4, 5])]
theorem p_s_l8Stumps {args : List AV} {r : Pk} (b : Bool) (h1 : args.all AV.isD = true) (h2 : Nat.ble args.length 74 = true) (h3 : evFun (env b) orc k_s_l8Stumps [.sl (.pair (.sl (.int .i64)) (.pair (.int .i64) (.unit)))] [.tmp 2] 74 b_s_l8Stumps args [] fun r' _ => r' = r) : orc.pc 220 args r :=
  pureC_of (envOk b) (orcOk b) Try.func220 (by rfl) rfl (by rfl) (by rfl) h1 (Nat.le_of_ble_eq_true h2) h3
/-- spec.l8Weighted -/
def n_s_l8Weighted : Nat := 221
noncomputable def b_s_l8Weighted : Code := (Try.f221.body).getD .skip
def k_s_l8Weighted : Nat → List Nat := fun n => lookN n [(3, [0, 1, 2, 3, 5, 6, 7, 8])]
theorem p_s_l8Weighted {args : List AV} {r : Pk} (b : Bool) (h1 : args.all AV.isD = true) (h2 : Nat.ble args.length 36 = true) (h3 : evFun (env b) orc k_s_l8Weighted [.int .i64] [.tmp 6] 36 b_s_l8Weighted args [] fun r' _ => r' = r) : orc.pc 221 args r :=
  pureC_of (envOk b) (orcOk b) Try.func221 (by rfl) rfl (by rfl) (by rfl) h1 (Nat.le_of_ble_eq_true h2) h3
/-- spec.l12Place -/
def n_s_l12Place : Nat := 222
noncomputable def b_s_l12Place : Code := (Try.f222.body).getD .skip
def k_s_l12Place : Nat → List Nat := fun n => lookN n []
theorem p_s_l12Place {args : List AV} {r : Pk} (b : Bool) (h1 : args.all AV.isD = true) (h2 : Nat.ble args.length 12 = true) (h3 : evFun (env b) orc k_s_l12Place [.bool] [.tmp 4] 12 b_s_l12Place args [] fun r' _ => r' = r) : orc.pc 222 args r :=
  pureC_of (envOk b) (orcOk b) Try.func222 (by rfl) rfl (by rfl) (by rfl) h1 (Nat.le_of_ble_eq_true h2) h3
/-- spec.l12Steps -/
def n_s_l12Steps : Nat := 223
noncomputable def b_s_l12Steps : Code := (Try.f223.body).getD .skip
def k_s_l12Steps : Nat → List Nat := fun n => lookN n [(2, [0, 1, 2, 3, 6, 8])]
theorem p_s_l12Steps {args : List AV} {r : Pk} (b : Bool) (h1 : args.all AV.isD = true) (h2 : Nat.ble args.length 47 = true) (h3 : evFun (env b) orc k_s_l12Steps [.pair (.pair (.sl (.sl (.int .i64))) (.pair (.sl (.int .i64)) (.unit))) (.pair (.pair (.sl (.int .i64)) (.pair (.int .i64) (.unit))) (.pair (.int .i64) (.pair (.int .i64) (.unit)))), .bool] [.cell 6 74, .tmp 7] 47 b_s_l12Steps args [] fun r' _ => r' = r) : orc.pc 223 args r :=
  pureC_of (envOk b) (orcOk b) Try.func223 (by rfl) rfl (by rfl) (by rfl) h1 (Nat.le_of_ble_eq_true h2) h3
/-- spec.l12Turn -/
def n_s_l12Turn : Nat := 224
noncomputable def b_s_l12Turn : Code := (Try.f224.body).getD .skip
def k_s_l12Turn : Nat → List Nat := fun n => lookN n []
theorem p_s_l12Turn {args : List AV} {r : Pk} (b : Bool) (h1 : args.all AV.isD = true) (h2 : Nat.ble args.length 22 = true) (h3 : evFun (env b) orc k_s_l12Turn [.pair (.pair (.sl (.sl (.int .i64))) (.pair (.sl (.int .i64)) (.unit))) (.pair (.pair (.sl (.int .i64)) (.pair (.int .i64) (.unit))) (.pair (.int .i64) (.pair (.int .i64) (.unit)))), .bool] [.cell 2 74, .tmp 3] 22 b_s_l12Turn args [] fun r' _ => r' = r) : orc.pc 224 args r :=
  pureC_of (envOk b) (orcOk b) Try.func224 (by rfl) rfl (by rfl) (by rfl) h1 (Nat.le_of_ble_eq_true h2) h3
/-- spec.l1Put -/
def n_s_l1Put : Nat := 225
noncomputable def b_s_l1Put : Code := (Try.f225.body).getD .skip
def k_s_l1Put : Nat → List Nat := fun n => lookN n [(2, [0, 1, 4, 5])]
theorem p_s_l1Put {args : List AV} {r : Pk} (b : Bool) (h1 : args.all AV.isD = true) (h2 : Nat.ble args.length 45 = true) (h3 : evFun (env b) orc k_s_l1Put [.sl (.int .i64)] [.tmp 4] 45 b_s_l1Put args [] fun r' _ => r' = r) : orc.pc 225 args r :=
  pureC_of (envOk b) (orcOk b) Try.func225 (by rfl) rfl (by rfl) (by rfl) h1 (Nat.le_of_ble_eq_true h2) h3
/-- spec.l8Unit -/
def n_s_l8Unit : Nat := 226
noncomputable def b_s_l8Unit : Code := (Try.f226.body).getD .skip
def k_s_l8Unit : Nat → List Nat := fun n => lookN n []
theorem p_s_l8Unit {args : List AV} {r : Pk} (b : Bool) (h1 : args.all AV.isD = true) (h2 : Nat.ble args.length 15 = true) (h3 : evFun (env b) orc k_s_l8Unit [.sl (.int .i64)] [.tmp 6] 15 b_s_l8Unit args [] fun r' _ => r' = r) : orc.pc 226 args r :=
  pureC_of (envOk b) (orcOk b) Try.func226 (by rfl) rfl (by rfl) (by rfl) h1 (Nat.le_of_ble_eq_true h2) h3
end Go.Proofs.Ytlndfmmigndgeaa.Ev
