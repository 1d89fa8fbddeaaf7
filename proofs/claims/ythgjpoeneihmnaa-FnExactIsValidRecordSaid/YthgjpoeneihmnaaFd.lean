/- PRINTED BY gen.py (own program): what the proofs need of each function: its body, its loops' live slots, its results' shapes. -/
import Derived.Test.YthgjpoeneihmnaaTab
namespace Go.Proofs.Ythgjpoeneihmnaa.Ev
open Go
/-- laws.FnExactIsValidRecord -/
def n_l_FnExactIsValidRecord : Nat := 3
noncomputable def b_l_FnExactIsValidRecord : Code := (Try.f3.body).getD .skip
def k_l_FnExactIsValidRecord : Nat → List Nat := fun n => lookN n []
theorem p_l_FnExactIsValidRecord {args : List AV} {r : Pk} (b : Bool) (h1 : args.all AV.isD = true) (h2 : Nat.ble args.length 20 = true) (h3 : evFun (env b) orc k_l_FnExactIsValidRecord [.bool] [.tmp 2] 20 b_l_FnExactIsValidRecord args [] fun r' _ => r' = r) : orc.pc 3 args r :=
  pureC_of (envOk b) (orcOk b) Try.func3 (by rfl) rfl (by rfl) (by rfl) h1 (Nat.le_of_ble_eq_true h2) h3
/-- laws.FnExactTeachSchool -/
def n_l_FnExactTeachSchool : Nat := 4
noncomputable def b_l_FnExactTeachSchool : Code := (Try.f4.body).getD .skip
def k_l_FnExactTeachSchool : Nat → List Nat := fun n => lookN n []
theorem p_l_FnExactTeachSchool {args : List AV} {r : Pk} (b : Bool) (h1 : args.all AV.isD = true) (h2 : Nat.ble args.length 119 = true) (h3 : evFun (env b) orc k_l_FnExactTeachSchool [.bool] [.tmp 4] 119 b_l_FnExactTeachSchool args [] fun r' _ => r' = r) : orc.pc 4 args r :=
  pureC_of (envOk b) (orcOk b) Try.func4 (by rfl) rfl (by rfl) (by rfl) h1 (Nat.le_of_ble_eq_true h2) h3
/-- laws.FnExactTeachAll -/
def n_l_FnExactTeachAll : Nat := 5
noncomputable def b_l_FnExactTeachAll : Code := (Try.f5.body).getD .skip
def k_l_FnExactTeachAll : Nat → List Nat := fun n => lookN n []
theorem p_l_FnExactTeachAll {args : List AV} {r : Pk} (b : Bool) (h1 : args.all AV.isD = true) (h2 : Nat.ble args.length 140 = true) (h3 : evFun (env b) orc k_l_FnExactTeachAll [.bool] [.tmp 4] 140 b_l_FnExactTeachAll args [] fun r' _ => r' = r) : orc.pc 5 args r :=
  pureC_of (envOk b) (orcOk b) Try.func5 (by rfl) rfl (by rfl) (by rfl) h1 (Nat.le_of_ble_eq_true h2) h3
/-- laws.szLogRecord -/
def n_l_szLogRecord : Nat := 6
noncomputable def b_l_szLogRecord : Code := (Try.f6.body).getD .skip
def k_l_szLogRecord : Nat → List Nat := fun n => lookN n []
theorem p_l_szLogRecord {args : List AV} {r : Pk} (b : Bool) (h1 : args.all AV.isD = true) (h2 : Nat.ble args.length 20 = true) (h3 : evFun (env b) orc k_l_szLogRecord [.int .i64] [.tmp 4] 20 b_l_szLogRecord args [] fun r' _ => r' = r) : orc.pc 6 args r :=
  pureC_of (envOk b) (orcOk b) Try.func6 (by rfl) rfl (by rfl) (by rfl) h1 (Nat.le_of_ble_eq_true h2) h3
/-- spec.IsValidRecord -/
def n_s_IsValidRecord : Nat := 7
noncomputable def b_s_IsValidRecord : Code := (Try.f7.body).getD .skip
def k_s_IsValidRecord : Nat → List Nat := fun n => lookN n []
theorem p_s_IsValidRecord {args : List AV} {r : Pk} (b : Bool) (h1 : args.all AV.isD = true) (h2 : Nat.ble args.length 5 = true) (h3 : evFun (env b) orc k_s_IsValidRecord [.bool] [.tmp 2] 5 b_s_IsValidRecord args [] fun r' _ => r' = r) : orc.pc 7 args r :=
  pureC_of (envOk b) (orcOk b) Try.func7 (by rfl) rfl (by rfl) (by rfl) h1 (Nat.le_of_ble_eq_true h2) h3
/-- laws.toLogRecord -/
def n_l_toLogRecord : Nat := 8
noncomputable def b_l_toLogRecord : Code := (Try.f8.body).getD .skip
def k_l_toLogRecord : Nat → List Nat := fun n => lookN n []
theorem p_l_toLogRecord {args : List AV} {r : Pk} (b : Bool) (h1 : args.all AV.isD = true) (h2 : Nat.ble args.length 11 = true) (h3 : evFun (env b) orc k_l_toLogRecord [.pair (.str) (.pair (.str) (.unit))] [.cell 2 26] 11 b_l_toLogRecord args [] fun r' _ => r' = r) : orc.pc 8 args r :=
  pureC_of (envOk b) (orcOk b) Try.func8 (by rfl) rfl (by rfl) (by rfl) h1 (Nat.le_of_ble_eq_true h2) h3
/-- impl.IsValidRecord -/
def n_i_IsValidRecord : Nat := 9
noncomputable def b_i_IsValidRecord : Code := (Try.f9.body).getD .skip
def k_i_IsValidRecord : Nat → List Nat := fun n => lookN n []
theorem p_i_IsValidRecord {args : List AV} {r : Pk} (b : Bool) (h1 : args.all AV.isD = true) (h2 : Nat.ble args.length 11 = true) (h3 : evFun (env b) orc k_i_IsValidRecord [.bool] [.tmp 2] 11 b_i_IsValidRecord args [] fun r' _ => r' = r) : orc.pc 9 args r :=
  pureC_of (envOk b) (orcOk b) Try.func9 (by rfl) rfl (by rfl) (by rfl) h1 (Nat.le_of_ble_eq_true h2) h3
/-- laws.szSchool -/
def n_l_szSchool : Nat := 10
noncomputable def b_l_szSchool : Code := (Try.f10.body).getD .skip
def k_l_szSchool : Nat → List Nat := fun n => lookN n []
theorem p_l_szSchool {args : List AV} {r : Pk} (b : Bool) (h1 : args.all AV.isD = true) (h2 : Nat.ble args.length 18 = true) (h3 : evFun (env b) orc k_l_szSchool [.int .i64] [.tmp 4] 18 b_l_szSchool args [] fun r' _ => r' = r) : orc.pc 10 args r :=
  pureC_of (envOk b) (orcOk b) Try.func10 (by rfl) rfl (by rfl) (by rfl) h1 (Nat.le_of_ble_eq_true h2) h3
/-- laws.szLesson -/
def n_l_szLesson : Nat := 11
noncomputable def b_l_szLesson : Code := (Try.f11.body).getD .skip
def k_l_szLesson : Nat → List Nat := fun n => lookN n []
theorem p_l_szLesson {args : List AV} {r : Pk} (b : Bool) (h1 : args.all AV.isD = true) (h2 : Nat.ble args.length 12 = true) (h3 : evFun (env b) orc k_l_szLesson [.int .i64] [.tmp 4] 12 b_l_szLesson args [] fun r' _ => r' = r) : orc.pc 11 args r :=
  pureC_of (envOk b) (orcOk b) Try.func11 (by rfl) rfl (by rfl) (by rfl) h1 (Nat.le_of_ble_eq_true h2) h3
/-- spec.TeachSchool -/
def n_s_TeachSchool : Nat := 12
noncomputable def b_s_TeachSchool : Code := (Try.f12.body).getD .skip
def k_s_TeachSchool : Nat → List Nat := fun n => lookN n []
theorem p_s_TeachSchool {args : List AV} {r : Pk} (b : Bool) (h1 : args.all AV.isD = true) (h2 : Nat.ble args.length 15 = true) (h3 : evFun (env b) orc k_s_TeachSchool [.pair (.pair (.sl (.sl (.int .i64))) (.pair (.sl (.int .i64)) (.unit))) (.pair (.pair (.sl (.int .i64)) (.pair (.int .i64) (.unit))) (.pair (.int .i64) (.pair (.int .i64) (.unit)))), .bool] [.cell 4 44, .tmp 5] 15 b_s_TeachSchool args [] fun r' _ => r' = r) : orc.pc 12 args r :=
  pureC_of (envOk b) (orcOk b) Try.func12 (by rfl) rfl (by rfl) (by rfl) h1 (Nat.le_of_ble_eq_true h2) h3
/-- laws.toSchool -/
def n_l_toSchool : Nat := 13
noncomputable def b_l_toSchool : Code := (Try.f13.body).getD .skip
def k_l_toSchool : Nat → List Nat := fun n => lookN n []
theorem p_l_toSchool {args : List AV} {r : Pk} (b : Bool) (h1 : args.all AV.isD = true) (h2 : Nat.ble args.length 19 = true) (h3 : evFun (env b) orc k_l_toSchool [.pair (.pair (.sl (.sl (.int .i64))) (.pair (.sl (.int .i64)) (.unit))) (.pair (.pair (.sl (.int .i64)) (.pair (.int .i64) (.unit))) (.pair (.int .i64) (.pair (.int .i64) (.unit))))] [.cell 2 44] 19 b_l_toSchool args [] fun r' _ => r' = r) : orc.pc 13 args r :=
  pureC_of (envOk b) (orcOk b) Try.func13 (by rfl) rfl (by rfl) (by rfl) h1 (Nat.le_of_ble_eq_true h2) h3
/-- laws.toLesson -/
def n_l_toLesson : Nat := 14
noncomputable def b_l_toLesson : Code := (Try.f14.body).getD .skip
def k_l_toLesson : Nat → List Nat := fun n => lookN n []
theorem p_l_toLesson {args : List AV} {r : Pk} (b : Bool) (h1 : args.all AV.isD = true) (h2 : Nat.ble args.length 18 = true) (h3 : evFun (env b) orc k_l_toLesson [.pair (.int .i64) (.pair (.int .i64) (.pair (.int .i64) (.pair (.sl (.int .i64)) (.unit))))] [.cell 2 48] 18 b_l_toLesson args [] fun r' _ => r' = r) : orc.pc 14 args r :=
  pureC_of (envOk b) (orcOk b) Try.func14 (by rfl) rfl (by rfl) (by rfl) h1 (Nat.le_of_ble_eq_true h2) h3
/-- impl.TeachSchool -/
def n_i_TeachSchool : Nat := 15
noncomputable def b_i_TeachSchool : Code := (Try.f15.body).getD .skip
def k_i_TeachSchool : Nat → List Nat := fun n => lookN n []
theorem p_i_TeachSchool {args : List AV} {r : Pk} (b : Bool) (h1 : args.all AV.isD = true) (h2 : Nat.ble args.length 27 = true) (h3 : evFun (env b) orc k_i_TeachSchool [.pair (.pair (.sl (.sl (.int .i64))) (.pair (.sl (.int .i64)) (.unit))) (.pair (.pair (.sl (.int .i64)) (.pair (.int .i64) (.unit))) (.pair (.int .i64) (.pair (.int .i64) (.unit)))), .bool] [.cell 4 44, .tmp 5] 27 b_i_TeachSchool args [] fun r' _ => r' = r) : orc.pc 15 args r :=
  pureC_of (envOk b) (orcOk b) Try.func15 (by rfl) rfl (by rfl) (by rfl) h1 (Nat.le_of_ble_eq_true h2) h3
/-- laws.eqSchool -/
def n_l_eqSchool : Nat := 16
noncomputable def b_l_eqSchool : Code := (Try.f16.body).getD .skip
def k_l_eqSchool : Nat → List Nat := fun n => lookN n []
theorem p_l_eqSchool {args : List AV} {r : Pk} (b : Bool) (h1 : args.all AV.isD = true) (h2 : Nat.ble args.length 27 = true) (h3 : evFun (env b) orc k_l_eqSchool [.bool] [.tmp 4] 27 b_l_eqSchool args [] fun r' _ => r' = r) : orc.pc 16 args r :=
  pureC_of (envOk b) (orcOk b) Try.func16 (by rfl) rfl (by rfl) (by rfl) h1 (Nat.le_of_ble_eq_true h2) h3
/-- laws.eqLesson -/
def n_l_eqLesson : Nat := 17
noncomputable def b_l_eqLesson : Code := (Try.f17.body).getD .skip
def k_l_eqLesson : Nat → List Nat := fun n => lookN n []
theorem p_l_eqLesson {args : List AV} {r : Pk} (b : Bool) (h1 : args.all AV.isD = true) (h2 : Nat.ble args.length 26 = true) (h3 : evFun (env b) orc k_l_eqLesson [.bool] [.tmp 4] 26 b_l_eqLesson args [] fun r' _ => r' = r) : orc.pc 17 args r :=
  pureC_of (envOk b) (orcOk b) Try.func17 (by rfl) rfl (by rfl) (by rfl) h1 (Nat.le_of_ble_eq_true h2) h3
/-- laws.markSchool -/
def n_l_markSchool : Nat := 18
noncomputable def b_l_markSchool : Code := (Try.f18.body).getD .skip
def k_l_markSchool : Nat → List Nat := fun n => lookN n []
theorem p_l_markSchool {vs : List AV} {st : St} {r : AV} {st2 : St} (b : Bool) (hst : 0 < st.length) (h1 : vs.all (fun v => !v.isBad) = true) (h2 : Nat.ble vs.length 14 = true) (h3 : evInl (env b) orc k_l_markSchool [.int .i64] [.tmp 4] 14 b_l_markSchool (vs.map AV.inner) st fun r' st' => r' = r ∧ st' = st2) : orc.ic 18 vs st r st2 :=
  inlC_of (envOk b) (orcOk b) Try.func18 (by rfl) rfl (by rfl) (by rfl) hst h1 (Nat.le_of_ble_eq_true h2) h3
/-- laws.markLesson -/
def n_l_markLesson : Nat := 19
noncomputable def b_l_markLesson : Code := (Try.f19.body).getD .skip
def k_l_markLesson : Nat → List Nat := fun n => lookN n []
theorem p_l_markLesson {vs : List AV} {st : St} {r : AV} {st2 : St} (b : Bool) (hst : 0 < st.length) (h1 : vs.all (fun v => !v.isBad) = true) (h2 : Nat.ble vs.length 10 = true) (h3 : evInl (env b) orc k_l_markLesson [.int .i64] [.tmp 4] 10 b_l_markLesson (vs.map AV.inner) st fun r' st' => r' = r ∧ st' = st2) : orc.ic 19 vs st r st2 :=
  inlC_of (envOk b) (orcOk b) Try.func19 (by rfl) rfl (by rfl) (by rfl) hst h1 (Nat.le_of_ble_eq_true h2) h3
/-- laws.heldSchool -/
def n_l_heldSchool : Nat := 20
noncomputable def b_l_heldSchool : Code := (Try.f20.body).getD .skip
def k_l_heldSchool : Nat → List Nat := fun n => lookN n []
theorem p_l_heldSchool {args : List AV} {r : Pk} (b : Bool) (h1 : args.all AV.isD = true) (h2 : Nat.ble args.length 18 = true) (h3 : evFun (env b) orc k_l_heldSchool [.int .i64] [.tmp 4] 18 b_l_heldSchool args [] fun r' _ => r' = r) : orc.pc 20 args r :=
  pureC_of (envOk b) (orcOk b) Try.func20 (by rfl) rfl (by rfl) (by rfl) h1 (Nat.le_of_ble_eq_true h2) h3
/-- laws.szLessonS -/
def n_l_szLessonS : Nat := 21
noncomputable def b_l_szLessonS : Code := (Try.f21.body).getD .skip
def k_l_szLessonS : Nat → List Nat := fun n => lookN n [(5, [0, 1, 5])]
theorem p_l_szLessonS {args : List AV} {r : Pk} (b : Bool) (h1 : args.all AV.isD = true) (h2 : Nat.ble args.length 27 = true) (h3 : evFun (env b) orc k_l_szLessonS [.int .i64] [.tmp 4] 27 b_l_szLessonS args [] fun r' _ => r' = r) : orc.pc 21 args r :=
  pureC_of (envOk b) (orcOk b) Try.func21 (by rfl) rfl (by rfl) (by rfl) h1 (Nat.le_of_ble_eq_true h2) h3
/-- spec.TeachAll -/
def n_s_TeachAll : Nat := 22
noncomputable def b_s_TeachAll : Code := (Try.f22.body).getD .skip
def k_s_TeachAll : Nat → List Nat := fun n => lookN n [(5, [0, 1, 2, 4, 7, 8])]
theorem p_s_TeachAll {args : List AV} {r : Pk} (b : Bool) (h1 : args.all AV.isD = true) (h2 : Nat.ble args.length 40 = true) (h3 : evFun (env b) orc k_s_TeachAll [.pair (.pair (.sl (.sl (.int .i64))) (.pair (.sl (.int .i64)) (.unit))) (.pair (.pair (.sl (.int .i64)) (.pair (.int .i64) (.unit))) (.pair (.int .i64) (.pair (.int .i64) (.unit)))), .int .i64, .bool] [.cell 4 44, .tmp 5, .tmp 6] 40 b_s_TeachAll args [] fun r' _ => r' = r) : orc.pc 22 args r :=
  pureC_of (envOk b) (orcOk b) Try.func22 (by rfl) rfl (by rfl) (by rfl) h1 (Nat.le_of_ble_eq_true h2) h3
/-- laws.toLessonS -/
def n_l_toLessonS : Nat := 23
noncomputable def b_l_toLessonS : Code := (Try.f23.body).getD .skip
def k_l_toLessonS : Nat → List Nat := fun n => lookN n [(3, [0, 2, 3, 4])]
theorem p_l_toLessonS {args : List AV} {r : Pk} (b : Bool) (h1 : args.all AV.isD = true) (h2 : Nat.ble args.length 23 = true) (h3 : evFun (env b) orc k_l_toLessonS [.sl (.pair (.int .i64) (.pair (.int .i64) (.pair (.int .i64) (.pair (.sl (.int .i64)) (.unit)))))] [.tmp 2] 23 b_l_toLessonS args [] fun r' _ => r' = r) : orc.pc 23 args r :=
  pureC_of (envOk b) (orcOk b) Try.func23 (by rfl) rfl (by rfl) (by rfl) h1 (Nat.le_of_ble_eq_true h2) h3
/-- impl.TeachAll -/
def n_i_TeachAll : Nat := 24
noncomputable def b_i_TeachAll : Code := (Try.f24.body).getD .skip
def k_i_TeachAll : Nat → List Nat := fun n => lookN n [(5, [0, 1, 2, 4, 17, 18, 19])]
theorem p_i_TeachAll {args : List AV} {r : Pk} (b : Bool) (h1 : args.all AV.isD = true) (h2 : Nat.ble args.length 39 = true) (h3 : evFun (env b) orc k_i_TeachAll [.pair (.pair (.sl (.sl (.int .i64))) (.pair (.sl (.int .i64)) (.unit))) (.pair (.pair (.sl (.int .i64)) (.pair (.int .i64) (.unit))) (.pair (.int .i64) (.pair (.int .i64) (.unit)))), .int .i64, .bool] [.cell 4 44, .tmp 5, .tmp 6] 39 b_i_TeachAll args [] fun r' _ => r' = r) : orc.pc 24 args r :=
  pureC_of (envOk b) (orcOk b) Try.func24 (by rfl) rfl (by rfl) (by rfl) h1 (Nat.le_of_ble_eq_true h2) h3
/-- laws.eqLessonS -/
def n_l_eqLessonS : Nat := 25
noncomputable def b_l_eqLessonS : Code := (Try.f25.body).getD .skip
def k_l_eqLessonS : Nat → List Nat := fun n => lookN n [(4, [0, 1, 5])]
theorem p_l_eqLessonS {args : List AV} {r : Pk} (b : Bool) (h1 : args.all AV.isD = true) (h2 : Nat.ble args.length 27 = true) (h3 : evFun (env b) orc k_l_eqLessonS [.bool] [.tmp 4] 27 b_l_eqLessonS args [] fun r' _ => r' = r) : orc.pc 25 args r :=
  pureC_of (envOk b) (orcOk b) Try.func25 (by rfl) rfl (by rfl) (by rfl) h1 (Nat.le_of_ble_eq_true h2) h3
/-- laws.markLessonS -/
def n_l_markLessonS : Nat := 26
noncomputable def b_l_markLessonS : Code := (Try.f26.body).getD .skip
def k_l_markLessonS : Nat → List Nat := fun n => lookN n [(2, [0, 1, 4, 5])]
theorem p_l_markLessonS {vs : List AV} {st : St} {r : AV} {st2 : St} (b : Bool) (hst : 0 < st.length) (h1 : vs.all (fun v => !v.isBad) = true) (h2 : Nat.ble vs.length 41 = true) (h3 : evInl (env b) orc k_l_markLessonS [.int .i64] [.tmp 4] 41 b_l_markLessonS (vs.map AV.inner) st fun r' st' => r' = r ∧ st' = st2) : orc.ic 26 vs st r st2 :=
  inlC_of (envOk b) (orcOk b) Try.func26 (by rfl) rfl (by rfl) (by rfl) hst h1 (Nat.le_of_ble_eq_true h2) h3
/-- spec.l12Record -/
def n_s_l12Record : Nat := 27
noncomputable def b_s_l12Record : Code := (Try.f27.body).getD .skip
def k_s_l12Record : Nat → List Nat := fun n => lookN n []
theorem p_s_l12Record {args : List AV} {r : Pk} (b : Bool) (h1 : args.all AV.isD = true) (h2 : Nat.ble args.length 22 = true) (h3 : evFun (env b) orc k_s_l12Record [.bool] [.tmp 2] 22 b_s_l12Record args [] fun r' _ => r' = r) : orc.pc 27 args r :=
  pureC_of (envOk b) (orcOk b) Try.func27 (by rfl) rfl (by rfl) (by rfl) h1 (Nat.le_of_ble_eq_true h2) h3
/-- impl.isCommand -/
def n_i_isCommand : Nat := 28
noncomputable def b_i_isCommand : Code := (Try.f28.body).getD .skip
def k_i_isCommand : Nat → List Nat := fun n => lookN n []
theorem p_i_isCommand {args : List AV} {r : Pk} (b : Bool) (h1 : args.all AV.isD = true) (h2 : Nat.ble args.length 9 = true) (h3 : evFun (env b) orc k_i_isCommand [.bool] [.tmp 2] 9 b_i_isCommand args [] fun r' _ => r' = r) : orc.pc 28 args r :=
  pureC_of (envOk b) (orcOk b) Try.func28 (by rfl) rfl (by rfl) (by rfl) h1 (Nat.le_of_ble_eq_true h2) h3
/-- impl.isPlain -/
def n_i_isPlain : Nat := 29
noncomputable def b_i_isPlain : Code := (Try.f29.body).getD .skip
def k_i_isPlain : Nat → List Nat := fun n => lookN n [(2, [0, 1, 2, 9, 10])]
theorem p_i_isPlain {args : List AV} {r : Pk} (b : Bool) (h1 : args.all AV.isD = true) (h2 : Nat.ble args.length 34 = true) (h3 : evFun (env b) orc k_i_isPlain [.bool] [.tmp 6] 34 b_i_isPlain args [] fun r' _ => r' = r) : orc.pc 29 args r :=
  pureC_of (envOk b) (orcOk b) Try.func29 (by rfl) rfl (by rfl) (by rfl) h1 (Nat.le_of_ble_eq_true h2) h3
/-- laws.szSample -/
def n_l_szSample : Nat := 30
noncomputable def b_l_szSample : Code := (Try.f30.body).getD .skip
def k_l_szSample : Nat → List Nat := fun n => lookN n []
theorem p_l_szSample {args : List AV} {r : Pk} (b : Bool) (h1 : args.all AV.isD = true) (h2 : Nat.ble args.length 18 = true) (h3 : evFun (env b) orc k_l_szSample [.int .i64] [.tmp 4] 18 b_l_szSample args [] fun r' _ => r' = r) : orc.pc 30 args r :=
  pureC_of (envOk b) (orcOk b) Try.func30 (by rfl) rfl (by rfl) (by rfl) h1 (Nat.le_of_ble_eq_true h2) h3
/-- laws.szPlane -/
def n_l_szPlane : Nat := 31
noncomputable def b_l_szPlane : Code := (Try.f31.body).getD .skip
def k_l_szPlane : Nat → List Nat := fun n => lookN n []
theorem p_l_szPlane {args : List AV} {r : Pk} (b : Bool) (h1 : args.all AV.isD = true) (h2 : Nat.ble args.length 12 = true) (h3 : evFun (env b) orc k_l_szPlane [.int .i64] [.tmp 4] 12 b_l_szPlane args [] fun r' _ => r' = r) : orc.pc 31 args r :=
  pureC_of (envOk b) (orcOk b) Try.func31 (by rfl) rfl (by rfl) (by rfl) h1 (Nat.le_of_ble_eq_true h2) h3
/-- laws.szIntS -/
def n_l_szIntS : Nat := 32
noncomputable def b_l_szIntS : Code := (Try.f32.body).getD .skip
def k_l_szIntS : Nat → List Nat := fun n => lookN n []
theorem p_l_szIntS {args : List AV} {r : Pk} (b : Bool) (h1 : args.all AV.isD = true) (h2 : Nat.ble args.length 12 = true) (h3 : evFun (env b) orc k_l_szIntS [.int .i64] [.tmp 4] 12 b_l_szIntS args [] fun r' _ => r' = r) : orc.pc 32 args r :=
  pureC_of (envOk b) (orcOk b) Try.func32 (by rfl) rfl (by rfl) (by rfl) h1 (Nat.le_of_ble_eq_true h2) h3
/-- spec.l12Good -/
def n_s_l12Good : Nat := 33
noncomputable def b_s_l12Good : Code := (Try.f33.body).getD .skip
def k_s_l12Good : Nat → List Nat := fun n => lookN n []
theorem p_s_l12Good {args : List AV} {r : Pk} (b : Bool) (h1 : args.all AV.isD = true) (h2 : Nat.ble args.length 18 = true) (h3 : evFun (env b) orc k_s_l12Good [.bool] [.tmp 2] 18 b_s_l12Good args [] fun r' _ => r' = r) : orc.pc 33 args r :=
  pureC_of (envOk b) (orcOk b) Try.func33 (by rfl) rfl (by rfl) (by rfl) h1 (Nat.le_of_ble_eq_true h2) h3
/-- spec.l12Do -/
def n_s_l12Do : Nat := 34
noncomputable def b_s_l12Do : Code := (Try.f34.body).getD .skip
def k_s_l12Do : Nat → List Nat := fun n => lookN n []
theorem p_s_l12Do {args : List AV} {r : Pk} (b : Bool) (h1 : args.all AV.isD = true) (h2 : Nat.ble args.length 33 = true) (h3 : evFun (env b) orc k_s_l12Do [.pair (.pair (.sl (.sl (.int .i64))) (.pair (.sl (.int .i64)) (.unit))) (.pair (.pair (.sl (.int .i64)) (.pair (.int .i64) (.unit))) (.pair (.int .i64) (.pair (.int .i64) (.unit)))), .bool] [.cell 4 44, .tmp 5] 33 b_s_l12Do args [] fun r' _ => r' = r) : orc.pc 34 args r :=
  pureC_of (envOk b) (orcOk b) Try.func34 (by rfl) rfl (by rfl) (by rfl) h1 (Nat.le_of_ble_eq_true h2) h3
/-- laws.toSample -/
def n_l_toSample : Nat := 35
noncomputable def b_l_toSample : Code := (Try.f35.body).getD .skip
def k_l_toSample : Nat → List Nat := fun n => lookN n []
theorem p_l_toSample {args : List AV} {r : Pk} (b : Bool) (h1 : args.all AV.isD = true) (h2 : Nat.ble args.length 13 = true) (h3 : evFun (env b) orc k_l_toSample [.pair (.sl (.sl (.int .i64))) (.pair (.sl (.int .i64)) (.unit))] [.cell 2 41] 13 b_l_toSample args [] fun r' _ => r' = r) : orc.pc 35 args r :=
  pureC_of (envOk b) (orcOk b) Try.func35 (by rfl) rfl (by rfl) (by rfl) h1 (Nat.le_of_ble_eq_true h2) h3
/-- laws.toPlane -/
def n_l_toPlane : Nat := 36
noncomputable def b_l_toPlane : Code := (Try.f36.body).getD .skip
def k_l_toPlane : Nat → List Nat := fun n => lookN n []
theorem p_l_toPlane {args : List AV} {r : Pk} (b : Bool) (h1 : args.all AV.isD = true) (h2 : Nat.ble args.length 12 = true) (h3 : evFun (env b) orc k_l_toPlane [.pair (.sl (.int .i64)) (.pair (.int .i64) (.unit))] [.cell 2 42] 12 b_l_toPlane args [] fun r' _ => r' = r) : orc.pc 36 args r :=
  pureC_of (envOk b) (orcOk b) Try.func36 (by rfl) rfl (by rfl) (by rfl) h1 (Nat.le_of_ble_eq_true h2) h3
/-- laws.toIntS -/
def n_l_toIntS : Nat := 37
noncomputable def b_l_toIntS : Code := (Try.f37.body).getD .skip
def k_l_toIntS : Nat → List Nat := fun n => lookN n [(3, [0, 2, 3, 4])]
theorem p_l_toIntS {args : List AV} {r : Pk} (b : Bool) (h1 : args.all AV.isD = true) (h2 : Nat.ble args.length 22 = true) (h3 : evFun (env b) orc k_l_toIntS [.sl (.int .i64)] [.tmp 2] 22 b_l_toIntS args [] fun r' _ => r' = r) : orc.pc 37 args r :=
  pureC_of (envOk b) (orcOk b) Try.func37 (by rfl) rfl (by rfl) (by rfl) h1 (Nat.le_of_ble_eq_true h2) h3
/-- impl.IsSchool -/
def n_i_IsSchool : Nat := 38
noncomputable def b_i_IsSchool : Code := (Try.f38.body).getD .skip
def k_i_IsSchool : Nat → List Nat := fun n => lookN n []
theorem p_i_IsSchool {args : List AV} {r : Pk} (b : Bool) (h1 : args.all AV.isD = true) (h2 : Nat.ble args.length 18 = true) (h3 : evFun (env b) orc k_i_IsSchool [.bool] [.tmp 2] 18 b_i_IsSchool args [] fun r' _ => r' = r) : orc.pc 38 args r :=
  pureC_of (envOk b) (orcOk b) Try.func38 (by rfl) rfl (by rfl) (by rfl) h1 (Nat.le_of_ble_eq_true h2) h3
/-- (impl.School).own -/
def n_i_School_own : Nat := 39
noncomputable def b_i_School_own : Code := (Try.f39.body).getD .skip
def k_i_School_own : Nat → List Nat := fun n => lookN n []
theorem p_i_School_own {args : List AV} {r : Pk} (b : Bool) (h1 : args.all AV.isD = true) (h2 : Nat.ble args.length 14 = true) (h3 : evFun (env b) orc k_i_School_own [.pair (.pair (.sl (.sl (.int .i64))) (.pair (.sl (.int .i64)) (.unit))) (.pair (.pair (.sl (.int .i64)) (.pair (.int .i64) (.unit))) (.pair (.int .i64) (.pair (.int .i64) (.unit))))] [.cell 2 44] 14 b_i_School_own args [] fun r' _ => r' = r) : orc.pc 39 args r :=
  pureC_of (envOk b) (orcOk b) Try.func39 (by rfl) rfl (by rfl) (by rfl) h1 (Nat.le_of_ble_eq_true h2) h3
/-- (*impl.School).lesson -/
def n_i_School_lesson : Nat := 40
noncomputable def b_i_School_lesson : Code := (Try.f40.body).getD .skip
def k_i_School_lesson : Nat → List Nat := fun n => lookN n [(17, [0, 1, 3, 5, 6, 8, 9, 10, 11, 60, 94, 132, 145, 147, 148, 158, 160, 171, 187, 217])]
theorem p_i_School_lesson {args : List AV} {r : Pk} (b : Bool) (h1 : args.all AV.isD = true) (h2 : Nat.ble args.length 225 = true) (h3 : evFun (env b) orc k_i_School_lesson [.bool] [.tmp 4] 225 b_i_School_lesson args [] fun r' _ => r' = r) : orc.pc 40 args r :=
  pureC_of (envOk b) (orcOk b) Try.func40 (by rfl) rfl (by rfl) (by rfl) h1 (Nat.le_of_ble_eq_true h2) h3
/-- laws.eqSample -/
def n_l_eqSample : Nat := 41
noncomputable def b_l_eqSample : Code := (Try.f41.body).getD .skip
def k_l_eqSample : Nat → List Nat := fun n => lookN n []
theorem p_l_eqSample {args : List AV} {r : Pk} (b : Bool) (h1 : args.all AV.isD = true) (h2 : Nat.ble args.length 17 = true) (h3 : evFun (env b) orc k_l_eqSample [.bool] [.tmp 4] 17 b_l_eqSample args [] fun r' _ => r' = r) : orc.pc 41 args r :=
  pureC_of (envOk b) (orcOk b) Try.func41 (by rfl) rfl (by rfl) (by rfl) h1 (Nat.le_of_ble_eq_true h2) h3
/-- laws.eqPlane -/
def n_l_eqPlane : Nat := 42
noncomputable def b_l_eqPlane : Code := (Try.f42.body).getD .skip
def k_l_eqPlane : Nat → List Nat := fun n => lookN n []
theorem p_l_eqPlane {args : List AV} {r : Pk} (b : Bool) (h1 : args.all AV.isD = true) (h2 : Nat.ble args.length 16 = true) (h3 : evFun (env b) orc k_l_eqPlane [.bool] [.tmp 4] 16 b_l_eqPlane args [] fun r' _ => r' = r) : orc.pc 42 args r :=
  pureC_of (envOk b) (orcOk b) Try.func42 (by rfl) rfl (by rfl) (by rfl) h1 (Nat.le_of_ble_eq_true h2) h3
/-- laws.eqIntS -/
def n_l_eqIntS : Nat := 43
noncomputable def b_l_eqIntS : Code := (Try.f43.body).getD .skip
def k_l_eqIntS : Nat → List Nat := fun n => lookN n [(4, [0, 1, 5])]
theorem p_l_eqIntS {args : List AV} {r : Pk} (b : Bool) (h1 : args.all AV.isD = true) (h2 : Nat.ble args.length 26 = true) (h3 : evFun (env b) orc k_l_eqIntS [.bool] [.tmp 4] 26 b_l_eqIntS args [] fun r' _ => r' = r) : orc.pc 43 args r :=
  pureC_of (envOk b) (orcOk b) Try.func43 (by rfl) rfl (by rfl) (by rfl) h1 (Nat.le_of_ble_eq_true h2) h3
/-- laws.markSample -/
def n_l_markSample : Nat := 44
noncomputable def b_l_markSample : Code := (Try.f44.body).getD .skip
def k_l_markSample : Nat → List Nat := fun n => lookN n []
theorem p_l_markSample {vs : List AV} {st : St} {r : AV} {st2 : St} (b : Bool) (hst : 0 < st.length) (h1 : vs.all (fun v => !v.isBad) = true) (h2 : Nat.ble vs.length 14 = true) (h3 : evInl (env b) orc k_l_markSample [.int .i64] [.tmp 4] 14 b_l_markSample (vs.map AV.inner) st fun r' st' => r' = r ∧ st' = st2) : orc.ic 44 vs st r st2 :=
  inlC_of (envOk b) (orcOk b) Try.func44 (by rfl) rfl (by rfl) (by rfl) hst h1 (Nat.le_of_ble_eq_true h2) h3
/-- laws.markPlane -/
def n_l_markPlane : Nat := 45
noncomputable def b_l_markPlane : Code := (Try.f45.body).getD .skip
def k_l_markPlane : Nat → List Nat := fun n => lookN n []
theorem p_l_markPlane {vs : List AV} {st : St} {r : AV} {st2 : St} (b : Bool) (hst : 0 < st.length) (h1 : vs.all (fun v => !v.isBad) = true) (h2 : Nat.ble vs.length 10 = true) (h3 : evInl (env b) orc k_l_markPlane [.int .i64] [.tmp 4] 10 b_l_markPlane (vs.map AV.inner) st fun r' st' => r' = r ∧ st' = st2) : orc.ic 45 vs st r st2 :=
  inlC_of (envOk b) (orcOk b) Try.func45 (by rfl) rfl (by rfl) (by rfl) hst h1 (Nat.le_of_ble_eq_true h2) h3
/-- laws.markIntS -/
def n_l_markIntS : Nat := 46
noncomputable def b_l_markIntS : Code := (Try.f46.body).getD .skip
def k_l_markIntS : Nat → List Nat := fun n => lookN n [(2, [0, 1, 4, 5])]
theorem p_l_markIntS {vs : List AV} {st : St} {r : AV} {st2 : St} (b : Bool) (hst : 0 < st.length) (h1 : vs.all (fun v => !v.isBad) = true) (h2 : Nat.ble vs.length 19 = true) (h3 : evInl (env b) orc k_l_markIntS [.int .i64] [.tmp 4] 19 b_l_markIntS (vs.map AV.inner) st fun r' st' => r' = r ∧ st' = st2) : orc.ic 46 vs st r st2 :=
  inlC_of (envOk b) (orcOk b) Try.func46 (by rfl) rfl (by rfl) (by rfl) hst h1 (Nat.le_of_ble_eq_true h2) h3
/-- laws.heldSample -/
def n_l_heldSample : Nat := 47
noncomputable def b_l_heldSample : Code := (Try.f47.body).getD .skip
def k_l_heldSample : Nat → List Nat := fun n => lookN n []
theorem p_l_heldSample {args : List AV} {r : Pk} (b : Bool) (h1 : args.all AV.isD = true) (h2 : Nat.ble args.length 18 = true) (h3 : evFun (env b) orc k_l_heldSample [.int .i64] [.tmp 4] 18 b_l_heldSample args [] fun r' _ => r' = r) : orc.pc 47 args r :=
  pureC_of (envOk b) (orcOk b) Try.func47 (by rfl) rfl (by rfl) (by rfl) h1 (Nat.le_of_ble_eq_true h2) h3
/-- laws.heldPlane -/
def n_l_heldPlane : Nat := 48
noncomputable def b_l_heldPlane : Code := (Try.f48.body).getD .skip
def k_l_heldPlane : Nat → List Nat := fun n => lookN n []
theorem p_l_heldPlane {args : List AV} {r : Pk} (b : Bool) (h1 : args.all AV.isD = true) (h2 : Nat.ble args.length 12 = true) (h3 : evFun (env b) orc k_l_heldPlane [.int .i64] [.tmp 4] 12 b_l_heldPlane args [] fun r' _ => r' = r) : orc.pc 48 args r :=
  pureC_of (envOk b) (orcOk b) Try.func48 (by rfl) rfl (by rfl) (by rfl) h1 (Nat.le_of_ble_eq_true h2) h3
/-- spec.l12Own -/
def n_s_l12Own : Nat := 49
noncomputable def b_s_l12Own : Code := (Try.f49.body).getD .skip
def k_s_l12Own : Nat → List Nat := fun n => lookN n [(4, [0, 1, 2, 3, 4])]
theorem p_s_l12Own {args : List AV} {r : Pk} (b : Bool) (h1 : args.all AV.isD = true) (h2 : Nat.ble args.length 42 = true) (h3 : evFun (env b) orc k_s_l12Own [.pair (.pair (.sl (.sl (.int .i64))) (.pair (.sl (.int .i64)) (.unit))) (.pair (.pair (.sl (.int .i64)) (.pair (.int .i64) (.unit))) (.pair (.int .i64) (.pair (.int .i64) (.unit))))] [.cell 2 44] 42 b_s_l12Own args [] fun r' _ => r' = r) : orc.pc 49 args r :=
  pureC_of (envOk b) (orcOk b) Try.func49 (by rfl) rfl (by rfl) (by rfl) h1 (Nat.le_of_ble_eq_true h2) h3
/-- spec.l12Bytes -/
def n_s_l12Bytes : Nat := 50
noncomputable def b_s_l12Bytes : Code := (Try.f50.body).getD .skip
def k_s_l12Bytes : Nat → List Nat := fun n => lookN n [(2, [0, 1, 5])]
theorem p_s_l12Bytes {args : List AV} {r : Pk} (b : Bool) (h1 : args.all AV.isD = true) (h2 : Nat.ble args.length 28 = true) (h3 : evFun (env b) orc k_s_l12Bytes [.bool] [.tmp 4] 28 b_s_l12Bytes args [] fun r' _ => r' = r) : orc.pc 50 args r :=
  pureC_of (envOk b) (orcOk b) Try.func50 (by rfl) rfl (by rfl) (by rfl) h1 (Nat.le_of_ble_eq_true h2) h3
/-- spec.l1Stands -/
def n_s_l1Stands : Nat := 51
noncomputable def b_s_l1Stands : Code := (Try.f51.body).getD .skip
def k_s_l1Stands : Nat → List Nat := fun n => lookN n [(2, [0, 1, 5])]
theorem p_s_l1Stands {args : List AV} {r : Pk} (b : Bool) (h1 : args.all AV.isD = true) (h2 : Nat.ble args.length 17 = true) (h3 : evFun (env b) orc k_s_l1Stands [.bool] [.tmp 4] 17 b_s_l1Stands args [] fun r' _ => r' = r) : orc.pc 51 args r :=
  pureC_of (envOk b) (orcOk b) Try.func51 (by rfl) rfl (by rfl) (by rfl) h1 (Nat.le_of_ble_eq_true h2) h3
/-- strings.ContainsAny -/
def n_strings_ContainsAny : Nat := 52
noncomputable def b_strings_ContainsAny : Code := (Try.f52.body).getD .skip
def k_strings_ContainsAny : Nat → List Nat := fun n => lookN n []
theorem x_strings_ContainsAny : ∃ fn, Try.prog.funcs[52]? = some fn ∧ (fn.name == "runtime.NumGoroutine") = false ∧ fn.body.isNone = false := ⟨_, Try.func52, by rfl, by rfl⟩
theorem p_strings_ContainsAny {args : List AV} {r : Pk} (b : Bool) (h1 : args.all AV.isD = true) (h2 : Nat.ble args.length 9 = true) (h3 : evFun (env b) orc k_strings_ContainsAny [.bool] [.tmp 4] 9 b_strings_ContainsAny args [] fun r' _ => r' = r) : orc.pc 52 args r :=
  pureC_of (envOk b) (orcOk b) Try.func52 (by rfl) rfl (by rfl) (by rfl) h1 (Nat.le_of_ble_eq_true h2) h3
/-- laws.szIntSS -/
def n_l_szIntSS : Nat := 53
noncomputable def b_l_szIntSS : Code := (Try.f53.body).getD .skip
def k_l_szIntSS : Nat → List Nat := fun n => lookN n [(5, [0, 1, 5])]
theorem p_l_szIntSS {args : List AV} {r : Pk} (b : Bool) (h1 : args.all AV.isD = true) (h2 : Nat.ble args.length 27 = true) (h3 : evFun (env b) orc k_l_szIntSS [.int .i64] [.tmp 4] 27 b_l_szIntSS args [] fun r' _ => r' = r) : orc.pc 53 args r :=
  pureC_of (envOk b) (orcOk b) Try.func53 (by rfl) rfl (by rfl) (by rfl) h1 (Nat.le_of_ble_eq_true h2) h3
/-- spec.l2Both -/
def n_s_l2Both : Nat := 54
noncomputable def b_s_l2Both : Code := (Try.f54.body).getD .skip
def k_s_l2Both : Nat → List Nat := fun n => lookN n []
theorem p_s_l2Both {args : List AV} {r : Pk} (b : Bool) (h1 : args.all AV.isD = true) (h2 : Nat.ble args.length 28 = true) (h3 : evFun (env b) orc k_s_l2Both [.bool] [.tmp 4] 28 b_s_l2Both args [] fun r' _ => r' = r) : orc.pc 54 args r :=
  pureC_of (envOk b) (orcOk b) Try.func54 (by rfl) rfl (by rfl) (by rfl) h1 (Nat.le_of_ble_eq_true h2) h3
/-- spec.l1In -/
def n_s_l1In : Nat := 55
noncomputable def b_s_l1In : Code := (Try.f55.body).getD .skip
def k_s_l1In : Nat → List Nat := fun n => lookN n []
theorem p_s_l1In {args : List AV} {r : Pk} (b : Bool) (h1 : args.all AV.isD = true) (h2 : Nat.ble args.length 15 = true) (h3 : evFun (env b) orc k_s_l1In [.bool] [.tmp 6] 15 b_s_l1In args [] fun r' _ => r' = r) : orc.pc 55 args r :=
  pureC_of (envOk b) (orcOk b) Try.func55 (by rfl) rfl (by rfl) (by rfl) h1 (Nat.le_of_ble_eq_true h2) h3
/-- spec.l12May -/
def n_s_l12May : Nat := 56
noncomputable def b_s_l12May : Code := (Try.f56.body).getD .skip
def k_s_l12May : Nat → List Nat := fun n => lookN n []
theorem p_s_l12May {args : List AV} {r : Pk} (b : Bool) (h1 : args.all AV.isD = true) (h2 : Nat.ble args.length 83 = true) (h3 : evFun (env b) orc k_s_l12May [.bool] [.tmp 4] 83 b_s_l12May args [] fun r' _ => r' = r) : orc.pc 56 args r :=
  pureC_of (envOk b) (orcOk b) Try.func56 (by rfl) rfl (by rfl) (by rfl) h1 (Nat.le_of_ble_eq_true h2) h3
/-- spec.l12Make -/
def n_s_l12Make : Nat := 57
noncomputable def b_s_l12Make : Code := (Try.f57.body).getD .skip
def k_s_l12Make : Nat → List Nat := fun n => lookN n []
theorem p_s_l12Make {args : List AV} {r : Pk} (b : Bool) (h1 : args.all AV.isD = true) (h2 : Nat.ble args.length 124 = true) (h3 : evFun (env b) orc k_s_l12Make [.pair (.pair (.sl (.sl (.int .i64))) (.pair (.sl (.int .i64)) (.unit))) (.pair (.pair (.sl (.int .i64)) (.pair (.int .i64) (.unit))) (.pair (.int .i64) (.pair (.int .i64) (.unit)))), .bool] [.cell 4 44, .tmp 5] 124 b_s_l12Make args [] fun r' _ => r' = r) : orc.pc 57 args r :=
  pureC_of (envOk b) (orcOk b) Try.func57 (by rfl) rfl (by rfl) (by rfl) h1 (Nat.le_of_ble_eq_true h2) h3
/-- laws.toIntSS -/
def n_l_toIntSS : Nat := 58
noncomputable def b_l_toIntSS : Code := (Try.f58.body).getD .skip
def k_l_toIntSS : Nat → List Nat := fun n => lookN n [(3, [0, 2, 3, 4])]
theorem p_l_toIntSS {args : List AV} {r : Pk} (b : Bool) (h1 : args.all AV.isD = true) (h2 : Nat.ble args.length 23 = true) (h3 : evFun (env b) orc k_l_toIntSS [.sl (.sl (.int .i64))] [.tmp 2] 23 b_l_toIntSS args [] fun r' _ => r' = r) : orc.pc 58 args r :=
  pureC_of (envOk b) (orcOk b) Try.func58 (by rfl) rfl (by rfl) (by rfl) h1 (Nat.le_of_ble_eq_true h2) h3
/-- impl.suits -/
def n_i_suits : Nat := 59
noncomputable def b_i_suits : Code := (Try.f59.body).getD .skip
def k_i_suits : Nat → List Nat := fun n => lookN n []
theorem p_i_suits {args : List AV} {r : Pk} (b : Bool) (h1 : args.all AV.isD = true) (h2 : Nat.ble args.length 28 = true) (h3 : evFun (env b) orc k_i_suits [.bool] [.tmp 4] 28 b_i_suits args [] fun r' _ => r' = r) : orc.pc 59 args r :=
  pureC_of (envOk b) (orcOk b) Try.func59 (by rfl) rfl (by rfl) (by rfl) h1 (Nat.le_of_ble_eq_true h2) h3
/-- impl.within -/
def n_i_within : Nat := 60
noncomputable def b_i_within : Code := (Try.f60.body).getD .skip
def k_i_within : Nat → List Nat := fun n => lookN n []
theorem p_i_within {args : List AV} {r : Pk} (b : Bool) (h1 : args.all AV.isD = true) (h2 : Nat.ble args.length 15 = true) (h3 : evFun (env b) orc k_i_within [.bool] [.tmp 6] 15 b_i_within args [] fun r' _ => r' = r) : orc.pc 60 args r :=
  pureC_of (envOk b) (orcOk b) Try.func60 (by rfl) rfl (by rfl) (by rfl) h1 (Nat.le_of_ble_eq_true h2) h3
/-- (impl.Sample).own -/
def n_i_Sample_own : Nat := 61
noncomputable def b_i_Sample_own : Code := (Try.f61.body).getD .skip
def k_i_Sample_own : Nat → List Nat := fun n => lookN n []
theorem p_i_Sample_own {args : List AV} {r : Pk} (b : Bool) (h1 : args.all AV.isD = true) (h2 : Nat.ble args.length 10 = true) (h3 : evFun (env b) orc k_i_Sample_own [.pair (.sl (.sl (.int .i64))) (.pair (.sl (.int .i64)) (.unit))] [.cell 2 41] 10 b_i_Sample_own args [] fun r' _ => r' = r) : orc.pc 61 args r :=
  pureC_of (envOk b) (orcOk b) Try.func61 (by rfl) rfl (by rfl) (by rfl) h1 (Nat.le_of_ble_eq_true h2) h3
/-- impl.copied -/
def n_i_copied : Nat := 62
noncomputable def b_i_copied : Code := (Try.f62.body).getD .skip
def k_i_copied : Nat → List Nat := fun n => lookN n []
theorem p_i_copied {args : List AV} {r : Pk} (b : Bool) (h1 : args.all AV.isD = true) (h2 : Nat.ble args.length 6 = true) (h3 : evFun (env b) orc k_i_copied [.sl (.int .i64)] [.tmp 2] 6 b_i_copied args [] fun r' _ => r' = r) : orc.pc 62 args r :=
  pureC_of (envOk b) (orcOk b) Try.func62 (by rfl) rfl (by rfl) (by rfl) h1 (Nat.le_of_ble_eq_true h2) h3
/-- slices.Delete[[][]int,[]int] -/
def n_slices_Delete : Nat := 63
noncomputable def b_slices_Delete : Code := (Try.f63.body).getD .skip
def k_slices_Delete : Nat → List Nat := fun n => lookN n []
theorem x_slices_Delete : ∃ fn, Try.prog.funcs[63]? = some fn ∧ (fn.name == "runtime.NumGoroutine") = false ∧ fn.body.isNone = false := ⟨_, Try.func63, by rfl, by rfl⟩
theorem p_slices_Delete {args : List AV} {r : Pk} (b : Bool) (h1 : args.all AV.isD = true) (h2 : Nat.ble args.length 33 = true) (h3 : evFun (env b) orc k_slices_Delete [.sl (.sl (.int .i64))] [.tmp 6] 33 b_slices_Delete args [] fun r' _ => r' = r) : orc.pc 63 args r :=
  pureC_of (envOk b) (orcOk b) Try.func63 (by rfl) rfl (by rfl) (by rfl) h1 (Nat.le_of_ble_eq_true h2) h3
/-- slices.Delete[[]int,int] -/
def n_slices_Deletex : Nat := 64
noncomputable def b_slices_Deletex : Code := (Try.f64.body).getD .skip
def k_slices_Deletex : Nat → List Nat := fun n => lookN n []
theorem x_slices_Deletex : ∃ fn, Try.prog.funcs[64]? = some fn ∧ (fn.name == "runtime.NumGoroutine") = false ∧ fn.body.isNone = false := ⟨_, Try.func64, by rfl, by rfl⟩
theorem p_slices_Deletex {args : List AV} {r : Pk} (b : Bool) (h1 : args.all AV.isD = true) (h2 : Nat.ble args.length 33 = true) (h3 : evFun (env b) orc k_slices_Deletex [.sl (.int .i64)] [.tmp 6] 33 b_slices_Deletex args [] fun r' _ => r' = r) : orc.pc 64 args r :=
  pureC_of (envOk b) (orcOk b) Try.func64 (by rfl) rfl (by rfl) (by rfl) h1 (Nat.le_of_ble_eq_true h2) h3
/-- (*impl.School).step -/
def n_i_School_step : Nat := 65
noncomputable def b_i_School_step : Code := (Try.f65.body).getD .skip
def k_i_School_step : Nat → List Nat := fun n => lookN n []
theorem p_i_School_step {args : List AV} {r : Pk} (b : Bool) (h1 : args.all AV.isD = true) (h2 : Nat.ble args.length 45 = true) (h3 : evFun (env b) orc k_i_School_step [.bool] [.tmp 4] 45 b_i_School_step args [] fun r' _ => r' = r) : orc.pc 65 args r :=
  pureC_of (envOk b) (orcOk b) Try.func65 (by rfl) rfl (by rfl) (by rfl) h1 (Nat.le_of_ble_eq_true h2) h3
/-- impl.TurnLabels -/
def n_i_TurnLabels : Nat := 66
noncomputable def b_i_TurnLabels : Code := (Try.f66.body).getD .skip
def k_i_TurnLabels : Nat → List Nat := fun n => lookN n [(5, [0, 1, 2, 3, 4, 14, 15])]
theorem p_i_TurnLabels {args : List AV} {r : Pk} (b : Bool) (h1 : args.all AV.isD = true) (h2 : Nat.ble args.length 27 = true) (h3 : evFun (env b) orc k_i_TurnLabels [.pair (.sl (.sl (.int .i64))) (.pair (.sl (.int .i64)) (.unit)), .bool] [.cell 2 41, .tmp 3] 27 b_i_TurnLabels args [] fun r' _ => r' = r) : orc.pc 66 args r :=
  pureC_of (envOk b) (orcOk b) Try.func66 (by rfl) rfl (by rfl) (by rfl) h1 (Nat.le_of_ble_eq_true h2) h3
/-- impl.TurnPlane -/
def n_i_TurnPlane : Nat := 67
noncomputable def b_i_TurnPlane : Code := (Try.f67.body).getD .skip
def k_i_TurnPlane : Nat → List Nat := fun n => lookN n [(5, [0, 1, 2, 3, 4, 16, 17, 18])]
theorem p_i_TurnPlane {args : List AV} {r : Pk} (b : Bool) (h1 : args.all AV.isD = true) (h2 : Nat.ble args.length 35 = true) (h3 : evFun (env b) orc k_i_TurnPlane [.pair (.sl (.int .i64)) (.pair (.int .i64) (.unit)), .bool] [.cell 2 42, .tmp 3] 35 b_i_TurnPlane args [] fun r' _ => r' = r) : orc.pc 67 args r :=
  pureC_of (envOk b) (orcOk b) Try.func67 (by rfl) rfl (by rfl) (by rfl) h1 (Nat.le_of_ble_eq_true h2) h3
/-- laws.eqIntSS -/
def n_l_eqIntSS : Nat := 68
noncomputable def b_l_eqIntSS : Code := (Try.f68.body).getD .skip
def k_l_eqIntSS : Nat → List Nat := fun n => lookN n [(4, [0, 1, 5])]
theorem p_l_eqIntSS {args : List AV} {r : Pk} (b : Bool) (h1 : args.all AV.isD = true) (h2 : Nat.ble args.length 27 = true) (h3 : evFun (env b) orc k_l_eqIntSS [.bool] [.tmp 4] 27 b_l_eqIntSS args [] fun r' _ => r' = r) : orc.pc 68 args r :=
  pureC_of (envOk b) (orcOk b) Try.func68 (by rfl) rfl (by rfl) (by rfl) h1 (Nat.le_of_ble_eq_true h2) h3
/-- laws.markIntSS -/
def n_l_markIntSS : Nat := 69
noncomputable def b_l_markIntSS : Code := (Try.f69.body).getD .skip
def k_l_markIntSS : Nat → List Nat := fun n => lookN n [(2, [0, 1, 4, 5])]
theorem p_l_markIntSS {vs : List AV} {st : St} {r : AV} {st2 : St} (b : Bool) (hst : 0 < st.length) (h1 : vs.all (fun v => !v.isBad) = true) (h2 : Nat.ble vs.length 19 = true) (h3 : evInl (env b) orc k_l_markIntSS [.int .i64] [.tmp 4] 19 b_l_markIntSS (vs.map AV.inner) st fun r' st' => r' = r ∧ st' = st2) : orc.ic 69 vs st r st2 :=
  inlC_of (envOk b) (orcOk b) Try.func69 (by rfl) rfl (by rfl) (by rfl) hst h1 (Nat.le_of_ble_eq_true h2) h3
/-- laws.heldIntSS -/
def n_l_heldIntSS : Nat := 70
noncomputable def b_l_heldIntSS : Code := (Try.f70.body).getD .skip
def k_l_heldIntSS : Nat → List Nat := fun n => lookN n [(2, [0, 1, 5])]
theorem p_l_heldIntSS {args : List AV} {r : Pk} (b : Bool) (h1 : args.all AV.isD = true) (h2 : Nat.ble args.length 21 = true) (h3 : evFun (env b) orc k_l_heldIntSS [.int .i64] [.tmp 4] 21 b_l_heldIntSS args [] fun r' _ => r' = r) : orc.pc 70 args r :=
  pureC_of (envOk b) (orcOk b) Try.func70 (by rfl) rfl (by rfl) (by rfl) h1 (Nat.le_of_ble_eq_true h2) h3
/-- laws.heldIntS -/
def n_l_heldIntS : Nat := 71
noncomputable def b_l_heldIntS : Code := (Try.f71.body).getD .skip
def k_l_heldIntS : Nat → List Nat := fun n => lookN n [(2, [0, 1, 5])]
theorem p_l_heldIntS {args : List AV} {r : Pk} (b : Bool) (h1 : args.all AV.isD = true) (h2 : Nat.ble args.length 21 = true) (h3 : evFun (env b) orc k_l_heldIntS [.int .i64] [.tmp 4] 21 b_l_heldIntS args [] fun r' _ => r' = r) : orc.pc 71 args r :=
  pureC_of (envOk b) (orcOk b) Try.func71 (by rfl) rfl (by rfl) (by rfl) h1 (Nat.le_of_ble_eq_true h2) h3
/-- spec.l1Own -/
def n_s_l1Own : Nat := 72
noncomputable def b_s_l1Own : Code := (Try.f72.body).getD .skip
def k_s_l1Own : Nat → List Nat := fun n => lookN n []
theorem p_s_l1Own {args : List AV} {r : Pk} (b : Bool) (h1 : args.all AV.isD = true) (h2 : Nat.ble args.length 6 = true) (h3 : evFun (env b) orc k_s_l1Own [.sl (.int .i64)] [.tmp 2] 6 b_s_l1Own args [] fun r' _ => r' = r) : orc.pc 72 args r :=
  pureC_of (envOk b) (orcOk b) Try.func72 (by rfl) rfl (by rfl) (by rfl) h1 (Nat.le_of_ble_eq_true h2) h3
/-- strings.IndexAny -/
def n_strings_IndexAny : Nat := 73
noncomputable def b_strings_IndexAny : Code := (Try.f73.body).getD .skip
def k_strings_IndexAny : Nat → List Nat := fun n => lookN n [(18, [0, 1, 5, 6, 7, 8, 45]), (12, [0, 1, 5, 6, 7, 8, 9, 10])]
theorem x_strings_IndexAny : ∃ fn, Try.prog.funcs[73]? = some fn ∧ (fn.name == "runtime.NumGoroutine") = false ∧ fn.body.isNone = false := ⟨_, Try.func73, by rfl, by rfl⟩
theorem p_strings_IndexAny {args : List AV} {r : Pk} (b : Bool) (h1 : args.all AV.isD = true) (h2 : Nat.ble args.length 55 = true) (h3 : evFun (env b) orc k_strings_IndexAny [.int .i64] [.tmp 4] 55 b_strings_IndexAny args [] fun r' _ => r' = r) : orc.pc 73 args r :=
  pureC_of (envOk b) (orcOk b) Try.func73 (by rfl) rfl (by rfl) (by rfl) h1 (Nat.le_of_ble_eq_true h2) h3
/-- spec.l2Sample -/
def n_s_l2Sample : Nat := 74
noncomputable def b_s_l2Sample : Code := (Try.f74.body).getD .skip
def k_s_l2Sample : Nat → List Nat := fun n => lookN n [(4, [0, 1, 3])]
theorem p_s_l2Sample {args : List AV} {r : Pk} (b : Bool) (h1 : args.all AV.isD = true) (h2 : Nat.ble args.length 51 = true) (h3 : evFun (env b) orc k_s_l2Sample [.bool] [.tmp 2] 51 b_s_l2Sample args [] fun r' _ => r' = r) : orc.pc 74 args r :=
  pureC_of (envOk b) (orcOk b) Try.func74 (by rfl) rfl (by rfl) (by rfl) h1 (Nat.le_of_ble_eq_true h2) h3
/-- spec.l2Plane -/
def n_s_l2Plane : Nat := 75
noncomputable def b_s_l2Plane : Code := (Try.f75.body).getD .skip
def k_s_l2Plane : Nat → List Nat := fun n => lookN n []
theorem p_s_l2Plane {args : List AV} {r : Pk} (b : Bool) (h1 : args.all AV.isD = true) (h2 : Nat.ble args.length 17 = true) (h3 : evFun (env b) orc k_s_l2Plane [.bool] [.tmp 2] 17 b_s_l2Plane args [] fun r' _ => r' = r) : orc.pc 75 args r :=
  pureC_of (envOk b) (orcOk b) Try.func75 (by rfl) rfl (by rfl) (by rfl) h1 (Nat.le_of_ble_eq_true h2) h3
/-- spec.l12Place -/
def n_s_l12Place : Nat := 76
noncomputable def b_s_l12Place : Code := (Try.f76.body).getD .skip
def k_s_l12Place : Nat → List Nat := fun n => lookN n []
theorem p_s_l12Place {args : List AV} {r : Pk} (b : Bool) (h1 : args.all AV.isD = true) (h2 : Nat.ble args.length 12 = true) (h3 : evFun (env b) orc k_s_l12Place [.bool] [.tmp 4] 12 b_s_l12Place args [] fun r' _ => r' = r) : orc.pc 76 args r :=
  pureC_of (envOk b) (orcOk b) Try.func76 (by rfl) rfl (by rfl) (by rfl) h1 (Nat.le_of_ble_eq_true h2) h3
/-- spec.l12Steps -/
def n_s_l12Steps : Nat := 77
noncomputable def b_s_l12Steps : Code := (Try.f77.body).getD .skip
def k_s_l12Steps : Nat → List Nat := fun n => lookN n [(2, [0, 1, 2, 3, 6, 8])]
theorem p_s_l12Steps {args : List AV} {r : Pk} (b : Bool) (h1 : args.all AV.isD = true) (h2 : Nat.ble args.length 47 = true) (h3 : evFun (env b) orc k_s_l12Steps [.pair (.pair (.sl (.sl (.int .i64))) (.pair (.sl (.int .i64)) (.unit))) (.pair (.pair (.sl (.int .i64)) (.pair (.int .i64) (.unit))) (.pair (.int .i64) (.pair (.int .i64) (.unit)))), .bool] [.cell 6 44, .tmp 7] 47 b_s_l12Steps args [] fun r' _ => r' = r) : orc.pc 77 args r :=
  pureC_of (envOk b) (orcOk b) Try.func77 (by rfl) rfl (by rfl) (by rfl) h1 (Nat.le_of_ble_eq_true h2) h3
/-- spec.l12Turn -/
def n_s_l12Turn : Nat := 78
noncomputable def b_s_l12Turn : Code := (Try.f78.body).getD .skip
def k_s_l12Turn : Nat → List Nat := fun n => lookN n []
theorem p_s_l12Turn {args : List AV} {r : Pk} (b : Bool) (h1 : args.all AV.isD = true) (h2 : Nat.ble args.length 22 = true) (h3 : evFun (env b) orc k_s_l12Turn [.pair (.pair (.sl (.sl (.int .i64))) (.pair (.sl (.int .i64)) (.unit))) (.pair (.pair (.sl (.int .i64)) (.pair (.int .i64) (.unit))) (.pair (.int .i64) (.pair (.int .i64) (.unit)))), .bool] [.cell 2 44, .tmp 3] 22 b_s_l12Turn args [] fun r' _ => r' = r) : orc.pc 78 args r :=
  pureC_of (envOk b) (orcOk b) Try.func78 (by rfl) rfl (by rfl) (by rfl) h1 (Nat.le_of_ble_eq_true h2) h3
/-- impl.IsSample -/
def n_i_IsSample : Nat := 79
noncomputable def b_i_IsSample : Code := (Try.f79.body).getD .skip
def k_i_IsSample : Nat → List Nat := fun n => lookN n [(4, [0, 1, 19, 20, 21])]
theorem p_i_IsSample {args : List AV} {r : Pk} (b : Bool) (h1 : args.all AV.isD = true) (h2 : Nat.ble args.length 49 = true) (h3 : evFun (env b) orc k_i_IsSample [.bool] [.tmp 2] 49 b_i_IsSample args [] fun r' _ => r' = r) : orc.pc 79 args r :=
  pureC_of (envOk b) (orcOk b) Try.func79 (by rfl) rfl (by rfl) (by rfl) h1 (Nat.le_of_ble_eq_true h2) h3
/-- impl.IsPlane -/
def n_i_IsPlane : Nat := 80
noncomputable def b_i_IsPlane : Code := (Try.f80.body).getD .skip
def k_i_IsPlane : Nat → List Nat := fun n => lookN n []
theorem p_i_IsPlane {args : List AV} {r : Pk} (b : Bool) (h1 : args.all AV.isD = true) (h2 : Nat.ble args.length 17 = true) (h3 : evFun (env b) orc k_i_IsPlane [.bool] [.tmp 2] 17 b_i_IsPlane args [] fun r' _ => r' = r) : orc.pc 80 args r :=
  pureC_of (envOk b) (orcOk b) Try.func80 (by rfl) rfl (by rfl) (by rfl) h1 (Nat.le_of_ble_eq_true h2) h3
/-- impl.copies -/
def n_i_copies : Nat := 81
noncomputable def b_i_copies : Code := (Try.f81.body).getD .skip
def k_i_copies : Nat → List Nat := fun n => lookN n [(3, [0, 2, 3, 7, 8, 9])]
theorem p_i_copies {args : List AV} {r : Pk} (b : Bool) (h1 : args.all AV.isD = true) (h2 : Nat.ble args.length 20 = true) (h3 : evFun (env b) orc k_i_copies [.sl (.sl (.int .i64))] [.tmp 2] 20 b_i_copies args [] fun r' _ => r' = r) : orc.pc 81 args r :=
  pureC_of (envOk b) (orcOk b) Try.func81 (by rfl) rfl (by rfl) (by rfl) h1 (Nat.le_of_ble_eq_true h2) h3
/-- (impl.Plane).step -/
def n_i_Plane_step : Nat := 82
noncomputable def b_i_Plane_step : Code := (Try.f82.body).getD .skip
def k_i_Plane_step : Nat → List Nat := fun n => lookN n [(5, [0, 1, 2, 3, 6, 7, 8, 25, 26, 27])]
theorem p_i_Plane_step {args : List AV} {r : Pk} (b : Bool) (h1 : args.all AV.isD = true) (h2 : Nat.ble args.length 44 = true) (h3 : evFun (env b) orc k_i_Plane_step [.pair (.sl (.int .i64)) (.pair (.int .i64) (.unit)), .bool] [.cell 6 42, .tmp 7] 44 b_i_Plane_step args [] fun r' _ => r' = r) : orc.pc 82 args r :=
  pureC_of (envOk b) (orcOk b) Try.func82 (by rfl) rfl (by rfl) (by rfl) h1 (Nat.le_of_ble_eq_true h2) h3
/-- strings.IndexRune -/
def n_strings_IndexRune : Nat := 83
noncomputable def b_strings_IndexRune : Code := (Try.f83.body).getD .skip
def k_strings_IndexRune : Nat → List Nat := fun n => lookN n [(38, [0, 1, 7, 8, 9, 10, 11, 12, 13, 14, 15, 16, 160, 171, 175, 183]), (29, [0, 1, 4, 5, 6, 7, 8, 9, 10, 11, 12, 13, 14, 15, 16, 160, 171, 183]), (25, [0, 1, 5, 6, 7, 8, 9, 10, 11, 12, 13, 14, 15, 160, 171, 183]), (12, [0, 1, 4, 5, 6, 7, 8, 9, 10, 11, 12, 13, 14, 15, 16, 160, 171, 183]), (5, [0, 1, 5, 6, 7, 8, 9, 13, 14, 15, 16, 160, 171, 183])]
theorem x_strings_IndexRune : ∃ fn, Try.prog.funcs[83]? = some fn ∧ (fn.name == "runtime.NumGoroutine") = false ∧ fn.body.isNone = false := ⟨_, Try.func83, by rfl, by rfl⟩
theorem p_strings_IndexRune {args : List AV} {r : Pk} (b : Bool) (h1 : args.all AV.isD = true) (h2 : Nat.ble args.length 187 = true) (h3 : evFun (env b) orc k_strings_IndexRune [.int .i64] [.tmp 4] 187 b_strings_IndexRune args [] fun r' _ => r' = r) : orc.pc 83 args r :=
  pureC_of (envOk b) (orcOk b) Try.func83 (by rfl) rfl (by rfl) (by rfl) h1 (Nat.le_of_ble_eq_true h2) h3
/-- strings.shouldUseASCIISet -/
def n_strings_shouldUseASCIISet : Nat := 84
noncomputable def b_strings_shouldUseASCIISet : Code := (Try.f84.body).getD .skip
def k_strings_shouldUseASCIISet : Nat → List Nat := fun n => lookN n []
theorem x_strings_shouldUseASCIISet : ∃ fn, Try.prog.funcs[84]? = some fn ∧ (fn.name == "runtime.NumGoroutine") = false ∧ fn.body.isNone = false := ⟨_, Try.func84, by rfl, by rfl⟩
theorem p_strings_shouldUseASCIISet {args : List AV} {r : Pk} (b : Bool) (h1 : args.all AV.isD = true) (h2 : Nat.ble args.length 5 = true) (h3 : evFun (env b) orc k_strings_shouldUseASCIISet [.bool] [.tmp 2] 5 b_strings_shouldUseASCIISet args [] fun r' _ => r' = r) : orc.pc 84 args r :=
  pureC_of (envOk b) (orcOk b) Try.func84 (by rfl) rfl (by rfl) (by rfl) h1 (Nat.le_of_ble_eq_true h2) h3
/-- (*strings.asciiSet).contains -/
def n_strings_asciiSet_contains : Nat := 86
noncomputable def b_strings_asciiSet_contains : Code := (Try.f86.body).getD .skip
def k_strings_asciiSet_contains : Nat → List Nat := fun n => lookN n []
theorem x_strings_asciiSet_contains : ∃ fn, Try.prog.funcs[86]? = some fn ∧ (fn.name == "runtime.NumGoroutine") = false ∧ fn.body.isNone = false := ⟨_, Try.func86, by rfl, by rfl⟩
theorem p_strings_asciiSet_contains {args : List AV} {r : Pk} (b : Bool) (h1 : args.all AV.isD = true) (h2 : Nat.ble args.length 10 = true) (h3 : evFun (env b) orc k_strings_asciiSet_contains [.bool] [.tmp 4] 10 b_strings_asciiSet_contains args [] fun r' _ => r' = r) : orc.pc 86 args r :=
  pureC_of (envOk b) (orcOk b) Try.func86 (by rfl) rfl (by rfl) (by rfl) h1 (Nat.le_of_ble_eq_true h2) h3
/-- spec.l2Labels -/
def n_s_l2Labels : Nat := 87
noncomputable def b_s_l2Labels : Code := (Try.f87.body).getD .skip
def k_s_l2Labels : Nat → List Nat := fun n => lookN n [(2, [0, 3])]
theorem p_s_l2Labels {args : List AV} {r : Pk} (b : Bool) (h1 : args.all AV.isD = true) (h2 : Nat.ble args.length 22 = true) (h3 : evFun (env b) orc k_s_l2Labels [.bool] [.tmp 2] 22 b_s_l2Labels args [] fun r' _ => r' = r) : orc.pc 87 args r :=
  pureC_of (envOk b) (orcOk b) Try.func87 (by rfl) rfl (by rfl) (by rfl) h1 (Nat.le_of_ble_eq_true h2) h3
/-- spec.l2Point -/
def n_s_l2Point : Nat := 88
noncomputable def b_s_l2Point : Code := (Try.f88.body).getD .skip
def k_s_l2Point : Nat → List Nat := fun n => lookN n []
theorem p_s_l2Point {args : List AV} {r : Pk} (b : Bool) (h1 : args.all AV.isD = true) (h2 : Nat.ble args.length 10 = true) (h3 : evFun (env b) orc k_s_l2Point [.bool] [.tmp 2] 10 b_s_l2Point args [] fun r' _ => r' = r) : orc.pc 88 args r :=
  pureC_of (envOk b) (orcOk b) Try.func88 (by rfl) rfl (by rfl) (by rfl) h1 (Nat.le_of_ble_eq_true h2) h3
/-- spec.l2Numbers -/
def n_s_l2Numbers : Nat := 89
noncomputable def b_s_l2Numbers : Code := (Try.f89.body).getD .skip
def k_s_l2Numbers : Nat → List Nat := fun n => lookN n [(2, [0, 1, 5])]
theorem p_s_l2Numbers {args : List AV} {r : Pk} (b : Bool) (h1 : args.all AV.isD = true) (h2 : Nat.ble args.length 21 = true) (h3 : evFun (env b) orc k_s_l2Numbers [.bool] [.tmp 4] 21 b_s_l2Numbers args [] fun r' _ => r' = r) : orc.pc 89 args r :=
  pureC_of (envOk b) (orcOk b) Try.func89 (by rfl) rfl (by rfl) (by rfl) h1 (Nat.le_of_ble_eq_true h2) h3
/-- spec.l3Step -/
def n_s_l3Step : Nat := 90
noncomputable def b_s_l3Step : Code := (Try.f90.body).getD .skip
def k_s_l3Step : Nat → List Nat := fun n => lookN n [(5, [0, 1, 2, 3, 6, 7, 8, 9])]
theorem p_s_l3Step {args : List AV} {r : Pk} (b : Bool) (h1 : args.all AV.isD = true) (h2 : Nat.ble args.length 47 = true) (h3 : evFun (env b) orc k_s_l3Step [.pair (.sl (.int .i64)) (.pair (.int .i64) (.unit)), .bool] [.cell 6 42, .tmp 7] 47 b_s_l3Step args [] fun r' _ => r' = r) : orc.pc 90 args r :=
  pureC_of (envOk b) (orcOk b) Try.func90 (by rfl) rfl (by rfl) (by rfl) h1 (Nat.le_of_ble_eq_true h2) h3
/-- spec.TurnPlane -/
def n_s_TurnPlane : Nat := 91
noncomputable def b_s_TurnPlane : Code := (Try.f91.body).getD .skip
def k_s_TurnPlane : Nat → List Nat := fun n => lookN n []
theorem p_s_TurnPlane {args : List AV} {r : Pk} (b : Bool) (h1 : args.all AV.isD = true) (h2 : Nat.ble args.length 18 = true) (h3 : evFun (env b) orc k_s_TurnPlane [.pair (.sl (.int .i64)) (.pair (.int .i64) (.unit)), .bool] [.cell 2 42, .tmp 3] 18 b_s_TurnPlane args [] fun r' _ => r' = r) : orc.pc 91 args r :=
  pureC_of (envOk b) (orcOk b) Try.func91 (by rfl) rfl (by rfl) (by rfl) h1 (Nat.le_of_ble_eq_true h2) h3
/-- spec.l2Minus -/
def n_s_l2Minus : Nat := 92
noncomputable def b_s_l2Minus : Code := (Try.f92.body).getD .skip
def k_s_l2Minus : Nat → List Nat := fun n => lookN n [(3, [0, 2, 3, 4])]
theorem p_s_l2Minus {args : List AV} {r : Pk} (b : Bool) (h1 : args.all AV.isD = true) (h2 : Nat.ble args.length 21 = true) (h3 : evFun (env b) orc k_s_l2Minus [.sl (.int .i64)] [.tmp 2] 21 b_s_l2Minus args [] fun r' _ => r' = r) : orc.pc 92 args r :=
  pureC_of (envOk b) (orcOk b) Try.func92 (by rfl) rfl (by rfl) (by rfl) h1 (Nat.le_of_ble_eq_true h2) h3
/-- impl.IsPoint -/
def n_i_IsPoint : Nat := 93
noncomputable def b_i_IsPoint : Code := (Try.f93.body).getD .skip
def k_i_IsPoint : Nat → List Nat := fun n => lookN n []
theorem p_i_IsPoint {args : List AV} {r : Pk} (b : Bool) (h1 : args.all AV.isD = true) (h2 : Nat.ble args.length 10 = true) (h3 : evFun (env b) orc k_i_IsPoint [.bool] [.tmp 2] 10 b_i_IsPoint args [] fun r' _ => r' = r) : orc.pc 93 args r :=
  pureC_of (envOk b) (orcOk b) Try.func93 (by rfl) rfl (by rfl) (by rfl) h1 (Nat.le_of_ble_eq_true h2) h3
/-- impl.isLabel -/
def n_i_isLabel : Nat := 94
noncomputable def b_i_isLabel : Code := (Try.f94.body).getD .skip
def k_i_isLabel : Nat → List Nat := fun n => lookN n []
theorem p_i_isLabel {args : List AV} {r : Pk} (b : Bool) (h1 : args.all AV.isD = true) (h2 : Nat.ble args.length 9 = true) (h3 : evFun (env b) orc k_i_isLabel [.bool] [.tmp 2] 9 b_i_isLabel args [] fun r' _ => r' = r) : orc.pc 94 args r :=
  pureC_of (envOk b) (orcOk b) Try.func94 (by rfl) rfl (by rfl) (by rfl) h1 (Nat.le_of_ble_eq_true h2) h3
/-- impl.allWithin -/
def n_i_allWithin : Nat := 95
noncomputable def b_i_allWithin : Code := (Try.f95.body).getD .skip
def k_i_allWithin : Nat → List Nat := fun n => lookN n [(2, [0, 1, 2, 9, 10, 11])]
theorem p_i_allWithin {args : List AV} {r : Pk} (b : Bool) (h1 : args.all AV.isD = true) (h2 : Nat.ble args.length 21 = true) (h3 : evFun (env b) orc k_i_allWithin [.bool] [.tmp 6] 21 b_i_allWithin args [] fun r' _ => r' = r) : orc.pc 95 args r :=
  pureC_of (envOk b) (orcOk b) Try.func95 (by rfl) rfl (by rfl) (by rfl) h1 (Nat.le_of_ble_eq_true h2) h3
/-- (impl.Plane).side -/
def n_i_Plane_side : Nat := 96
noncomputable def b_i_Plane_side : Code := (Try.f96.body).getD .skip
def k_i_Plane_side : Nat → List Nat := fun n => lookN n []
theorem p_i_Plane_side {args : List AV} {r : Pk} (b : Bool) (h1 : args.all AV.isD = true) (h2 : Nat.ble args.length 12 = true) (h3 : evFun (env b) orc k_i_Plane_side [.int .i64] [.tmp 4] 12 b_i_Plane_side args [] fun r' _ => r' = r) : orc.pc 96 args r :=
  pureC_of (envOk b) (orcOk b) Try.func96 (by rfl) rfl (by rfl) (by rfl) h1 (Nat.le_of_ble_eq_true h2) h3
/-- strings.IndexByte -/
def n_strings_IndexByte : Nat := 97
noncomputable def b_strings_IndexByte : Code := (Try.f97.body).getD .skip
def k_strings_IndexByte : Nat → List Nat := fun n => lookN n []
theorem x_strings_IndexByte : ∃ fn, Try.prog.funcs[97]? = some fn ∧ (fn.name == "runtime.NumGoroutine") = false ∧ fn.body.isNone = false := ⟨_, Try.func97, by rfl, by rfl⟩
theorem p_strings_IndexByte {args : List AV} {r : Pk} (b : Bool) (h1 : args.all AV.isD = true) (h2 : Nat.ble args.length 8 = true) (h3 : evFun (env b) orc k_strings_IndexByte [.int .i64] [.tmp 4] 8 b_strings_IndexByte args [] fun r' _ => r' = r) : orc.pc 97 args r :=
  pureC_of (envOk b) (orcOk b) Try.func97 (by rfl) rfl (by rfl) (by rfl) h1 (Nat.le_of_ble_eq_true h2) h3
/-- unicode/utf8.ValidRune -/
def n_unicode_utf8_ValidRune : Nat := 98
noncomputable def b_unicode_utf8_ValidRune : Code := (Try.f98.body).getD .skip
def k_unicode_utf8_ValidRune : Nat → List Nat := fun n => lookN n []
theorem p_unicode_utf8_ValidRune {args : List AV} {r : Pk} (b : Bool) (h1 : args.all AV.isD = true) (h2 : Nat.ble args.length 17 = true) (h3 : evFun (env b) orc k_unicode_utf8_ValidRune [.bool] [.tmp 2] 17 b_unicode_utf8_ValidRune args [] fun r' _ => r' = r) : orc.pc 98 args r :=
  pureC_of (envOk b) (orcOk b) Try.func98 (by rfl) rfl (by rfl) (by rfl) h1 (Nat.le_of_ble_eq_true h2) h3
/-- internal/bytealg.Cutover -/
def n_internal_bytealg_Cutover : Nat := 99
noncomputable def b_internal_bytealg_Cutover : Code := (Try.f99.body).getD .skip
def k_internal_bytealg_Cutover : Nat → List Nat := fun n => lookN n []
theorem p_internal_bytealg_Cutover {args : List AV} {r : Pk} (b : Bool) (h1 : args.all AV.isD = true) (h2 : Nat.ble args.length 6 = true) (h3 : evFun (env b) orc k_internal_bytealg_Cutover [.int .i64] [.tmp 2] 6 b_internal_bytealg_Cutover args [] fun r' _ => r' = r) : orc.pc 99 args r :=
  pureC_of (envOk b) (orcOk b) Try.func99 (by rfl) rfl (by rfl) (by rfl) h1 (Nat.le_of_ble_eq_true h2) h3
/-- spec.l2Side -/
def n_s_l2Side : Nat := 101
noncomputable def b_s_l2Side : Code := (Try.f101.body).getD .skip
def k_s_l2Side : Nat → List Nat := fun n => lookN n []
theorem p_s_l2Side {args : List AV} {r : Pk} (b : Bool) (h1 : args.all AV.isD = true) (h2 : Nat.ble args.length 12 = true) (h3 : evFun (env b) orc k_s_l2Side [.int .i64] [.tmp 4] 12 b_s_l2Side args [] fun r' _ => r' = r) : orc.pc 101 args r :=
  pureC_of (envOk b) (orcOk b) Try.func101 (by rfl) rfl (by rfl) (by rfl) h1 (Nat.le_of_ble_eq_true h2) h3
/-- spec.l2KeptPlane -/
def n_s_l2KeptPlane : Nat := 102
noncomputable def b_s_l2KeptPlane : Code := (Try.f102.body).getD .skip
def k_s_l2KeptPlane : Nat → List Nat := fun n => lookN n []
theorem p_s_l2KeptPlane {vs : List AV} {st : St} {r : AV} {st2 : St} (b : Bool) (hst : 0 < st.length) (h1 : vs.all (fun v => !v.isBad) = true) (h2 : Nat.ble vs.length 9 = true) (h3 : evInl (env b) orc k_s_l2KeptPlane [.pair (.sl (.int .i64)) (.pair (.int .i64) (.unit)), .bool] [.cell 2 42, .tmp 3] 9 b_s_l2KeptPlane (vs.map AV.inner) st fun r' st' => r' = r ∧ st' = st2) : orc.ic 102 vs st r st2 :=
  inlC_of (envOk b) (orcOk b) Try.func102 (by rfl) rfl (by rfl) (by rfl) hst h1 (Nat.le_of_ble_eq_true h2) h3
/-- impl.product -/
def n_i_product : Nat := 103
noncomputable def b_i_product : Code := (Try.f103.body).getD .skip
def k_i_product : Nat → List Nat := fun n => lookN n [(3, [0, 1, 4, 5, 8, 9, 10])]
theorem p_i_product {args : List AV} {r : Pk} (b : Bool) (h1 : args.all AV.isD = true) (h2 : Nat.ble args.length 25 = true) (h3 : evFun (env b) orc k_i_product [.int .i64] [.tmp 4] 25 b_i_product args [] fun r' _ => r' = r) : orc.pc 103 args r :=
  pureC_of (envOk b) (orcOk b) Try.func103 (by rfl) rfl (by rfl) (by rfl) h1 (Nat.le_of_ble_eq_true h2) h3
/-- internal/stringslite.IndexByte -/
def n_internal_stringslite_IndexByte : Nat := 104
noncomputable def b_internal_stringslite_IndexByte : Code := (Try.f104.body).getD .skip
def k_internal_stringslite_IndexByte : Nat → List Nat := fun n => lookN n []
theorem p_internal_stringslite_IndexByte {args : List AV} {r : Pk} (b : Bool) (h1 : args.all AV.isD = true) (h2 : Nat.ble args.length 8 = true) (h3 : evFun (env b) orc k_internal_stringslite_IndexByte [.int .i64] [.tmp 4] 8 b_internal_stringslite_IndexByte args [] fun r' _ => r' = r) : orc.pc 104 args r :=
  pureC_of (envOk b) (orcOk b) Try.func104 (by rfl) rfl (by rfl) (by rfl) h1 (Nat.le_of_ble_eq_true h2) h3
/-- spec.l2Dot -/
def n_s_l2Dot : Nat := 105
noncomputable def b_s_l2Dot : Code := (Try.f105.body).getD .skip
def k_s_l2Dot : Nat → List Nat := fun n => lookN n [(3, [0, 1, 4, 5, 6])]
theorem p_s_l2Dot {args : List AV} {r : Pk} (b : Bool) (h1 : args.all AV.isD = true) (h2 : Nat.ble args.length 25 = true) (h3 : evFun (env b) orc k_s_l2Dot [.int .i64] [.tmp 4] 25 b_s_l2Dot args [] fun r' _ => r' = r) : orc.pc 105 args r :=
  pureC_of (envOk b) (orcOk b) Try.func105 (by rfl) rfl (by rfl) (by rfl) h1 (Nat.le_of_ble_eq_true h2) h3
end Go.Proofs.Ythgjpoeneihmnaa.Ev
