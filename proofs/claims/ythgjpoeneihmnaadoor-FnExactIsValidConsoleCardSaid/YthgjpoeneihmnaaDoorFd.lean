/- PRINTED BY gen.py (own program): what the proofs need of each function: its body, its loops' live slots, its results' shapes. -/
import Derived.Test.YthgjpoeneihmnaaDoorTab
namespace Go.Proofs.YthgjpoeneihmnaaDoor.Ev
open Go
/-- laws.FnExactEncodeRecord -/
def n_l_FnExactEncodeRecord : Nat := 3
noncomputable def b_l_FnExactEncodeRecord : Code := (Tryd.f3.body).getD .skip
def k_l_FnExactEncodeRecord : Nat → List Nat := fun n => lookN n []
theorem p_l_FnExactEncodeRecord {args : List AV} {r : Pk} (b : Bool) (h1 : args.all AV.isD = true) (h2 : Nat.ble args.length 37 = true) (h3 : evFun (env b) orc k_l_FnExactEncodeRecord [.bool] [.tmp 4] 37 b_l_FnExactEncodeRecord args [] fun r' _ => r' = r) : orc.pc 3 args r :=
  pureC_of (envOk b) (orcOk b) Tryd.func3 (by rfl) rfl (by rfl) (by rfl) h1 (Nat.le_of_ble_eq_true h2) h3
/-- laws.FnExactRecoverLog -/
def n_l_FnExactRecoverLog : Nat := 4
noncomputable def b_l_FnExactRecoverLog : Code := (Tryd.f4.body).getD .skip
def k_l_FnExactRecoverLog : Nat → List Nat := fun n => lookN n []
theorem p_l_FnExactRecoverLog {args : List AV} {r : Pk} (b : Bool) (h1 : args.all AV.isD = true) (h2 : Nat.ble args.length 38 = true) (h3 : evFun (env b) orc k_l_FnExactRecoverLog [.bool] [.tmp 2] 38 b_l_FnExactRecoverLog args [] fun r' _ => r' = r) : orc.pc 4 args r :=
  pureC_of (envOk b) (orcOk b) Tryd.func4 (by rfl) rfl (by rfl) (by rfl) h1 (Nat.le_of_ble_eq_true h2) h3
/-- laws.FnExactIsValidLog -/
def n_l_FnExactIsValidLog : Nat := 5
noncomputable def b_l_FnExactIsValidLog : Code := (Tryd.f5.body).getD .skip
def k_l_FnExactIsValidLog : Nat → List Nat := fun n => lookN n []
theorem p_l_FnExactIsValidLog {args : List AV} {r : Pk} (b : Bool) (h1 : args.all AV.isD = true) (h2 : Nat.ble args.length 20 = true) (h3 : evFun (env b) orc k_l_FnExactIsValidLog [.bool] [.tmp 2] 20 b_l_FnExactIsValidLog args [] fun r' _ => r' = r) : orc.pc 5 args r :=
  pureC_of (envOk b) (orcOk b) Tryd.func5 (by rfl) rfl (by rfl) (by rfl) h1 (Nat.le_of_ble_eq_true h2) h3
/-- laws.FnExactCrashLog -/
def n_l_FnExactCrashLog : Nat := 6
noncomputable def b_l_FnExactCrashLog : Code := (Tryd.f6.body).getD .skip
def k_l_FnExactCrashLog : Nat → List Nat := fun n => lookN n []
theorem p_l_FnExactCrashLog {args : List AV} {r : Pk} (b : Bool) (h1 : args.all AV.isD = true) (h2 : Nat.ble args.length 41 = true) (h3 : evFun (env b) orc k_l_FnExactCrashLog [.bool] [.tmp 6] 41 b_l_FnExactCrashLog args [] fun r' _ => r' = r) : orc.pc 6 args r :=
  pureC_of (envOk b) (orcOk b) Tryd.func6 (by rfl) rfl (by rfl) (by rfl) h1 (Nat.le_of_ble_eq_true h2) h3
/-- laws.FnExactSyncLog -/
def n_l_FnExactSyncLog : Nat := 7
noncomputable def b_l_FnExactSyncLog : Code := (Tryd.f7.body).getD .skip
def k_l_FnExactSyncLog : Nat → List Nat := fun n => lookN n []
theorem p_l_FnExactSyncLog {args : List AV} {r : Pk} (b : Bool) (h1 : args.all AV.isD = true) (h2 : Nat.ble args.length 34 = true) (h3 : evFun (env b) orc k_l_FnExactSyncLog [.bool] [.tmp 2] 34 b_l_FnExactSyncLog args [] fun r' _ => r' = r) : orc.pc 7 args r :=
  pureC_of (envOk b) (orcOk b) Tryd.func7 (by rfl) rfl (by rfl) (by rfl) h1 (Nat.le_of_ble_eq_true h2) h3
/-- laws.FnExactAppendRecord -/
def n_l_FnExactAppendRecord : Nat := 8
noncomputable def b_l_FnExactAppendRecord : Code := (Tryd.f8.body).getD .skip
def k_l_FnExactAppendRecord : Nat → List Nat := fun n => lookN n []
theorem p_l_FnExactAppendRecord {args : List AV} {r : Pk} (b : Bool) (h1 : args.all AV.isD = true) (h2 : Nat.ble args.length 45 = true) (h3 : evFun (env b) orc k_l_FnExactAppendRecord [.bool] [.tmp 4] 45 b_l_FnExactAppendRecord args [] fun r' _ => r' = r) : orc.pc 8 args r :=
  pureC_of (envOk b) (orcOk b) Tryd.func8 (by rfl) rfl (by rfl) (by rfl) h1 (Nat.le_of_ble_eq_true h2) h3
/-- laws.FnExactLogRecords -/
def n_l_FnExactLogRecords : Nat := 9
noncomputable def b_l_FnExactLogRecords : Code := (Tryd.f9.body).getD .skip
def k_l_FnExactLogRecords : Nat → List Nat := fun n => lookN n []
theorem p_l_FnExactLogRecords {args : List AV} {r : Pk} (b : Bool) (h1 : args.all AV.isD = true) (h2 : Nat.ble args.length 72 = true) (h3 : evFun (env b) orc k_l_FnExactLogRecords [.bool] [.tmp 2] 72 b_l_FnExactLogRecords args [] fun r' _ => r' = r) : orc.pc 9 args r :=
  pureC_of (envOk b) (orcOk b) Tryd.func9 (by rfl) rfl (by rfl) (by rfl) h1 (Nat.le_of_ble_eq_true h2) h3
/-- laws.FnLogs -/
def n_l_FnLogs : Nat := 10
noncomputable def b_l_FnLogs : Code := (Tryd.f10.body).getD .skip
def k_l_FnLogs : Nat → List Nat := fun n => lookN n []
theorem p_l_FnLogs {args : List AV} {r : Pk} (b : Bool) (h1 : args.all AV.isD = true) (h2 : Nat.ble args.length 192 = true) (h3 : evFun (env b) orc k_l_FnLogs [.bool] [.tmp 2] 192 b_l_FnLogs args [] fun r' _ => r' = r) : orc.pc 10 args r :=
  pureC_of (envOk b) (orcOk b) Tryd.func10 (by rfl) rfl (by rfl) (by rfl) h1 (Nat.le_of_ble_eq_true h2) h3
/-- laws.FnExactIsValidConsole -/
def n_l_FnExactIsValidConsole : Nat := 11
noncomputable def b_l_FnExactIsValidConsole : Code := (Tryd.f11.body).getD .skip
def k_l_FnExactIsValidConsole : Nat → List Nat := fun n => lookN n []
theorem p_l_FnExactIsValidConsole {args : List AV} {r : Pk} (b : Bool) (h1 : args.all AV.isD = true) (h2 : Nat.ble args.length 27 = true) (h3 : evFun (env b) orc k_l_FnExactIsValidConsole [.bool] [.tmp 2] 27 b_l_FnExactIsValidConsole args [] fun r' _ => r' = r) : orc.pc 11 args r :=
  pureC_of (envOk b) (orcOk b) Tryd.func11 (by rfl) rfl (by rfl) (by rfl) h1 (Nat.le_of_ble_eq_true h2) h3
/-- laws.szLogRecord -/
def n_l_szLogRecord : Nat := 12
noncomputable def b_l_szLogRecord : Code := (Tryd.f12.body).getD .skip
def k_l_szLogRecord : Nat → List Nat := fun n => lookN n []
theorem p_l_szLogRecord {args : List AV} {r : Pk} (b : Bool) (h1 : args.all AV.isD = true) (h2 : Nat.ble args.length 20 = true) (h3 : evFun (env b) orc k_l_szLogRecord [.int .i64] [.tmp 4] 20 b_l_szLogRecord args [] fun r' _ => r' = r) : orc.pc 12 args r :=
  pureC_of (envOk b) (orcOk b) Tryd.func12 (by rfl) rfl (by rfl) (by rfl) h1 (Nat.le_of_ble_eq_true h2) h3
/-- spec.EncodeRecord -/
def n_s_EncodeRecord : Nat := 13
noncomputable def b_s_EncodeRecord : Code := (Tryd.f13.body).getD .skip
def k_s_EncodeRecord : Nat → List Nat := fun n => lookN n []
theorem p_s_EncodeRecord {args : List AV} {r : Pk} (b : Bool) (h1 : args.all AV.isD = true) (h2 : Nat.ble args.length 17 = true) (h3 : evFun (env b) orc k_s_EncodeRecord [.str, .bool] [.tmp 4, .tmp 5] 17 b_s_EncodeRecord args [] fun r' _ => r' = r) : orc.pc 13 args r :=
  pureC_of (envOk b) (orcOk b) Tryd.func13 (by rfl) rfl (by rfl) (by rfl) h1 (Nat.le_of_ble_eq_true h2) h3
/-- laws.toLogRecord -/
def n_l_toLogRecord : Nat := 14
noncomputable def b_l_toLogRecord : Code := (Tryd.f14.body).getD .skip
def k_l_toLogRecord : Nat → List Nat := fun n => lookN n []
theorem p_l_toLogRecord {args : List AV} {r : Pk} (b : Bool) (h1 : args.all AV.isD = true) (h2 : Nat.ble args.length 11 = true) (h3 : evFun (env b) orc k_l_toLogRecord [.pair (.str) (.pair (.str) (.unit))] [.cell 2 27] 11 b_l_toLogRecord args [] fun r' _ => r' = r) : orc.pc 14 args r :=
  pureC_of (envOk b) (orcOk b) Tryd.func14 (by rfl) rfl (by rfl) (by rfl) h1 (Nat.le_of_ble_eq_true h2) h3
/-- impl.EncodeRecord -/
def n_i_EncodeRecord : Nat := 15
noncomputable def b_i_EncodeRecord : Code := (Tryd.f15.body).getD .skip
def k_i_EncodeRecord : Nat → List Nat := fun n => lookN n []
theorem p_i_EncodeRecord {args : List AV} {r : Pk} (b : Bool) (h1 : args.all AV.isD = true) (h2 : Nat.ble args.length 32 = true) (h3 : evFun (env b) orc k_i_EncodeRecord [.str, .bool] [.tmp 4, .tmp 5] 32 b_i_EncodeRecord args [] fun r' _ => r' = r) : orc.pc 15 args r :=
  pureC_of (envOk b) (orcOk b) Tryd.func15 (by rfl) rfl (by rfl) (by rfl) h1 (Nat.le_of_ble_eq_true h2) h3
/-- spec.RecoverLog -/
def n_s_RecoverLog : Nat := 16
noncomputable def b_s_RecoverLog : Code := (Tryd.f16.body).getD .skip
def k_s_RecoverLog : Nat → List Nat := fun n => lookN n []
theorem p_s_RecoverLog {args : List AV} {r : Pk} (b : Bool) (h1 : args.all AV.isD = true) (h2 : Nat.ble args.length 23 = true) (h3 : evFun (env b) orc k_s_RecoverLog [.pair (.str) (.pair (.str) (.pair (.int .i64) (.unit))), .int .i64, .bool] [.cell 2 31, .tmp 3, .tmp 4] 23 b_s_RecoverLog args [] fun r' _ => r' = r) : orc.pc 16 args r :=
  pureC_of (envOk b) (orcOk b) Tryd.func16 (by rfl) rfl (by rfl) (by rfl) h1 (Nat.le_of_ble_eq_true h2) h3
/-- impl.RecoverLog -/
def n_i_RecoverLog : Nat := 17
noncomputable def b_i_RecoverLog : Code := (Tryd.f17.body).getD .skip
def k_i_RecoverLog : Nat → List Nat := fun n => lookN n []
theorem p_i_RecoverLog {args : List AV} {r : Pk} (b : Bool) (h1 : args.all AV.isD = true) (h2 : Nat.ble args.length 29 = true) (h3 : evFun (env b) orc k_i_RecoverLog [.pair (.str) (.pair (.str) (.pair (.int .i64) (.unit))), .int .i64, .bool] [.cell 2 31, .tmp 3, .tmp 4] 29 b_i_RecoverLog args [] fun r' _ => r' = r) : orc.pc 17 args r :=
  pureC_of (envOk b) (orcOk b) Tryd.func17 (by rfl) rfl (by rfl) (by rfl) h1 (Nat.le_of_ble_eq_true h2) h3
/-- laws.eqLog -/
def n_l_eqLog : Nat := 18
noncomputable def b_l_eqLog : Code := (Tryd.f18.body).getD .skip
def k_l_eqLog : Nat → List Nat := fun n => lookN n []
theorem p_l_eqLog {args : List AV} {r : Pk} (b : Bool) (h1 : args.all AV.isD = true) (h2 : Nat.ble args.length 20 = true) (h3 : evFun (env b) orc k_l_eqLog [.bool] [.tmp 4] 20 b_l_eqLog args [] fun r' _ => r' = r) : orc.pc 18 args r :=
  pureC_of (envOk b) (orcOk b) Tryd.func18 (by rfl) rfl (by rfl) (by rfl) h1 (Nat.le_of_ble_eq_true h2) h3
/-- laws.szLog -/
def n_l_szLog : Nat := 19
noncomputable def b_l_szLog : Code := (Tryd.f19.body).getD .skip
def k_l_szLog : Nat → List Nat := fun n => lookN n []
theorem p_l_szLog {args : List AV} {r : Pk} (b : Bool) (h1 : args.all AV.isD = true) (h2 : Nat.ble args.length 20 = true) (h3 : evFun (env b) orc k_l_szLog [.int .i64] [.tmp 4] 20 b_l_szLog args [] fun r' _ => r' = r) : orc.pc 19 args r :=
  pureC_of (envOk b) (orcOk b) Tryd.func19 (by rfl) rfl (by rfl) (by rfl) h1 (Nat.le_of_ble_eq_true h2) h3
/-- spec.IsValidLog -/
def n_s_IsValidLog : Nat := 20
noncomputable def b_s_IsValidLog : Code := (Tryd.f20.body).getD .skip
def k_s_IsValidLog : Nat → List Nat := fun n => lookN n []
theorem p_s_IsValidLog {args : List AV} {r : Pk} (b : Bool) (h1 : args.all AV.isD = true) (h2 : Nat.ble args.length 5 = true) (h3 : evFun (env b) orc k_s_IsValidLog [.bool] [.tmp 2] 5 b_s_IsValidLog args [] fun r' _ => r' = r) : orc.pc 20 args r :=
  pureC_of (envOk b) (orcOk b) Tryd.func20 (by rfl) rfl (by rfl) (by rfl) h1 (Nat.le_of_ble_eq_true h2) h3
/-- laws.toLog -/
def n_l_toLog : Nat := 21
noncomputable def b_l_toLog : Code := (Tryd.f21.body).getD .skip
def k_l_toLog : Nat → List Nat := fun n => lookN n []
theorem p_l_toLog {args : List AV} {r : Pk} (b : Bool) (h1 : args.all AV.isD = true) (h2 : Nat.ble args.length 14 = true) (h3 : evFun (env b) orc k_l_toLog [.pair (.str) (.pair (.str) (.pair (.int .i64) (.unit)))] [.cell 2 31] 14 b_l_toLog args [] fun r' _ => r' = r) : orc.pc 21 args r :=
  pureC_of (envOk b) (orcOk b) Tryd.func21 (by rfl) rfl (by rfl) (by rfl) h1 (Nat.le_of_ble_eq_true h2) h3
/-- impl.IsValidLog -/
def n_i_IsValidLog : Nat := 22
noncomputable def b_i_IsValidLog : Code := (Tryd.f22.body).getD .skip
def k_i_IsValidLog : Nat → List Nat := fun n => lookN n []
theorem p_i_IsValidLog {args : List AV} {r : Pk} (b : Bool) (h1 : args.all AV.isD = true) (h2 : Nat.ble args.length 49 = true) (h3 : evFun (env b) orc k_i_IsValidLog [.bool] [.tmp 2] 49 b_i_IsValidLog args [] fun r' _ => r' = r) : orc.pc 22 args r :=
  pureC_of (envOk b) (orcOk b) Tryd.func22 (by rfl) rfl (by rfl) (by rfl) h1 (Nat.le_of_ble_eq_true h2) h3
/-- spec.CrashLog -/
def n_s_CrashLog : Nat := 23
noncomputable def b_s_CrashLog : Code := (Tryd.f23.body).getD .skip
def k_s_CrashLog : Nat → List Nat := fun n => lookN n []
theorem p_s_CrashLog {args : List AV} {r : Pk} (b : Bool) (h1 : args.all AV.isD = true) (h2 : Nat.ble args.length 45 = true) (h3 : evFun (env b) orc k_s_CrashLog [.str, .bool] [.tmp 6, .tmp 7] 45 b_s_CrashLog args [] fun r' _ => r' = r) : orc.pc 23 args r :=
  pureC_of (envOk b) (orcOk b) Tryd.func23 (by rfl) rfl (by rfl) (by rfl) h1 (Nat.le_of_ble_eq_true h2) h3
/-- impl.CrashLog -/
def n_i_CrashLog : Nat := 24
noncomputable def b_i_CrashLog : Code := (Tryd.f24.body).getD .skip
def k_i_CrashLog : Nat → List Nat := fun n => lookN n []
theorem p_i_CrashLog {args : List AV} {r : Pk} (b : Bool) (h1 : args.all AV.isD = true) (h2 : Nat.ble args.length 47 = true) (h3 : evFun (env b) orc k_i_CrashLog [.str, .bool] [.tmp 6, .tmp 7] 47 b_i_CrashLog args [] fun r' _ => r' = r) : orc.pc 24 args r :=
  pureC_of (envOk b) (orcOk b) Tryd.func24 (by rfl) rfl (by rfl) (by rfl) h1 (Nat.le_of_ble_eq_true h2) h3
/-- spec.SyncLog -/
def n_s_SyncLog : Nat := 25
noncomputable def b_s_SyncLog : Code := (Tryd.f25.body).getD .skip
def k_s_SyncLog : Nat → List Nat := fun n => lookN n []
theorem p_s_SyncLog {args : List AV} {r : Pk} (b : Bool) (h1 : args.all AV.isD = true) (h2 : Nat.ble args.length 16 = true) (h3 : evFun (env b) orc k_s_SyncLog [.pair (.str) (.pair (.str) (.pair (.int .i64) (.unit))), .bool] [.cell 2 31, .tmp 3] 16 b_s_SyncLog args [] fun r' _ => r' = r) : orc.pc 25 args r :=
  pureC_of (envOk b) (orcOk b) Tryd.func25 (by rfl) rfl (by rfl) (by rfl) h1 (Nat.le_of_ble_eq_true h2) h3
/-- impl.SyncLog -/
def n_i_SyncLog : Nat := 26
noncomputable def b_i_SyncLog : Code := (Tryd.f26.body).getD .skip
def k_i_SyncLog : Nat → List Nat := fun n => lookN n []
theorem p_i_SyncLog {args : List AV} {r : Pk} (b : Bool) (h1 : args.all AV.isD = true) (h2 : Nat.ble args.length 16 = true) (h3 : evFun (env b) orc k_i_SyncLog [.pair (.str) (.pair (.str) (.pair (.int .i64) (.unit))), .bool] [.cell 2 31, .tmp 3] 16 b_i_SyncLog args [] fun r' _ => r' = r) : orc.pc 26 args r :=
  pureC_of (envOk b) (orcOk b) Tryd.func26 (by rfl) rfl (by rfl) (by rfl) h1 (Nat.le_of_ble_eq_true h2) h3
/-- spec.AppendRecord -/
def n_s_AppendRecord : Nat := 27
noncomputable def b_s_AppendRecord : Code := (Tryd.f27.body).getD .skip
def k_s_AppendRecord : Nat → List Nat := fun n => lookN n []
theorem p_s_AppendRecord {args : List AV} {r : Pk} (b : Bool) (h1 : args.all AV.isD = true) (h2 : Nat.ble args.length 32 = true) (h3 : evFun (env b) orc k_s_AppendRecord [.pair (.str) (.pair (.str) (.pair (.int .i64) (.unit))), .int .i64] [.cell 4 31, .tmp 5] 32 b_s_AppendRecord args [] fun r' _ => r' = r) : orc.pc 27 args r :=
  pureC_of (envOk b) (orcOk b) Tryd.func27 (by rfl) rfl (by rfl) (by rfl) h1 (Nat.le_of_ble_eq_true h2) h3
/-- impl.AppendRecord -/
def n_i_AppendRecord : Nat := 28
noncomputable def b_i_AppendRecord : Code := (Tryd.f28.body).getD .skip
def k_i_AppendRecord : Nat → List Nat := fun n => lookN n []
theorem p_i_AppendRecord {args : List AV} {r : Pk} (b : Bool) (h1 : args.all AV.isD = true) (h2 : Nat.ble args.length 37 = true) (h3 : evFun (env b) orc k_i_AppendRecord [.pair (.str) (.pair (.str) (.pair (.int .i64) (.unit))), .int .i64] [.cell 4 31, .tmp 5] 37 b_i_AppendRecord args [] fun r' _ => r' = r) : orc.pc 28 args r :=
  pureC_of (envOk b) (orcOk b) Tryd.func28 (by rfl) rfl (by rfl) (by rfl) h1 (Nat.le_of_ble_eq_true h2) h3
/-- spec.LogRecords -/
def n_s_LogRecords : Nat := 29
noncomputable def b_s_LogRecords : Code := (Tryd.f29.body).getD .skip
def k_s_LogRecords : Nat → List Nat := fun n => lookN n []
theorem p_s_LogRecords {args : List AV} {r : Pk} (b : Bool) (h1 : args.all AV.isD = true) (h2 : Nat.ble args.length 20 = true) (h3 : evFun (env b) orc k_s_LogRecords [.sl (.pair (.str) (.pair (.str) (.unit))), .bool] [.tmp 2, .tmp 3] 20 b_s_LogRecords args [] fun r' _ => r' = r) : orc.pc 29 args r :=
  pureC_of (envOk b) (orcOk b) Tryd.func29 (by rfl) rfl (by rfl) (by rfl) h1 (Nat.le_of_ble_eq_true h2) h3
/-- impl.LogRecords -/
def n_i_LogRecords : Nat := 30
noncomputable def b_i_LogRecords : Code := (Tryd.f30.body).getD .skip
def k_i_LogRecords : Nat → List Nat := fun n => lookN n []
theorem p_i_LogRecords {args : List AV} {r : Pk} (b : Bool) (h1 : args.all AV.isD = true) (h2 : Nat.ble args.length 19 = true) (h3 : evFun (env b) orc k_i_LogRecords [.sl (.pair (.str) (.pair (.str) (.unit))), .bool] [.tmp 2, .tmp 3] 19 b_i_LogRecords args [] fun r' _ => r' = r) : orc.pc 30 args r :=
  pureC_of (envOk b) (orcOk b) Tryd.func30 (by rfl) rfl (by rfl) (by rfl) h1 (Nat.le_of_ble_eq_true h2) h3
/-- laws.eqLogRecordS -/
def n_l_eqLogRecordS : Nat := 31
noncomputable def b_l_eqLogRecordS : Code := (Tryd.f31.body).getD .skip
def k_l_eqLogRecordS : Nat → List Nat := fun n => lookN n [(4, [0, 1, 5])]
theorem p_l_eqLogRecordS {args : List AV} {r : Pk} (b : Bool) (h1 : args.all AV.isD = true) (h2 : Nat.ble args.length 27 = true) (h3 : evFun (env b) orc k_l_eqLogRecordS [.bool] [.tmp 4] 27 b_l_eqLogRecordS args [] fun r' _ => r' = r) : orc.pc 31 args r :=
  pureC_of (envOk b) (orcOk b) Tryd.func31 (by rfl) rfl (by rfl) (by rfl) h1 (Nat.le_of_ble_eq_true h2) h3
/-- laws.markLogRecordS -/
def n_l_markLogRecordS : Nat := 32
noncomputable def b_l_markLogRecordS : Code := (Tryd.f32.body).getD .skip
def k_l_markLogRecordS : Nat → List Nat := fun n => lookN n [(2, [0, 1, 4, 5])]
theorem p_l_markLogRecordS {vs : List AV} {st : St} {r : AV} {st2 : St} (b : Bool) (hst : 0 < st.length) (h1 : vs.all (fun v => !v.isBad) = true) (h2 : Nat.ble vs.length 29 = true) (h3 : evInl (env b) orc k_l_markLogRecordS [.int .i64] [.tmp 4] 29 b_l_markLogRecordS (vs.map AV.inner) st fun r' st' => r' = r ∧ st' = st2) : orc.ic 32 vs st r st2 :=
  inlC_of (envOk b) (orcOk b) Tryd.func32 (by rfl) rfl (by rfl) (by rfl) hst h1 (Nat.le_of_ble_eq_true h2) h3
/-- laws.heldLogRecordS -/
def n_l_heldLogRecordS : Nat := 33
noncomputable def b_l_heldLogRecordS : Code := (Tryd.f33.body).getD .skip
def k_l_heldLogRecordS : Nat → List Nat := fun n => lookN n [(2, [0, 1, 5])]
theorem p_l_heldLogRecordS {args : List AV} {r : Pk} (b : Bool) (h1 : args.all AV.isD = true) (h2 : Nat.ble args.length 33 = true) (h3 : evFun (env b) orc k_l_heldLogRecordS [.int .i64] [.tmp 4] 33 b_l_heldLogRecordS args [] fun r' _ => r' = r) : orc.pc 33 args r :=
  pureC_of (envOk b) (orcOk b) Tryd.func33 (by rfl) rfl (by rfl) (by rfl) h1 (Nat.le_of_ble_eq_true h2) h3
/-- laws.vBig -/
def n_l_vBig : Nat := 34
noncomputable def b_l_vBig : Code := (Tryd.f34.body).getD .skip
def k_l_vBig : Nat → List Nat := fun n => lookN n []
theorem p_l_vBig {args : List AV} {r : Pk} (b : Bool) (h1 : args.all AV.isD = true) (h2 : Nat.ble args.length 6 = true) (h3 : evFun (env b) orc k_l_vBig [.bool] [.tmp 2] 6 b_l_vBig args [] fun r' _ => r' = r) : orc.pc 34 args r :=
  pureC_of (envOk b) (orcOk b) Tryd.func34 (by rfl) rfl (by rfl) (by rfl) h1 (Nat.le_of_ble_eq_true h2) h3
/-- spec.DrawIsValidRecord -/
def n_s_DrawIsValidRecord : Nat := 35
noncomputable def b_s_DrawIsValidRecord : Code := (Tryd.f35.body).getD .skip
def k_s_DrawIsValidRecord : Nat → List Nat := fun n => lookN n []
theorem p_s_DrawIsValidRecord {args : List AV} {r : Pk} (b : Bool) (h1 : args.all AV.isD = true) (h2 : Nat.ble args.length 9 = true) (h3 : evFun (env b) orc k_s_DrawIsValidRecord [.pair (.str) (.pair (.str) (.unit))] [.cell 2 27] 9 b_s_DrawIsValidRecord args [] fun r' _ => r' = r) : orc.pc 35 args r :=
  pureC_of (envOk b) (orcOk b) Tryd.func35 (by rfl) rfl (by rfl) (by rfl) h1 (Nat.le_of_ble_eq_true h2) h3
/-- spec.DrawEncodeRecord -/
def n_s_DrawEncodeRecord : Nat := 36
noncomputable def b_s_DrawEncodeRecord : Code := (Tryd.f36.body).getD .skip
def k_s_DrawEncodeRecord : Nat → List Nat := fun n => lookN n []
theorem p_s_DrawEncodeRecord {args : List AV} {r : Pk} (b : Bool) (h1 : args.all AV.isD = true) (h2 : Nat.ble args.length 15 = true) (h3 : evFun (env b) orc k_s_DrawEncodeRecord [.int .i64, .pair (.str) (.pair (.str) (.unit))] [.tmp 2, .cell 3 27] 15 b_s_DrawEncodeRecord args [] fun r' _ => r' = r) : orc.pc 36 args r :=
  pureC_of (envOk b) (orcOk b) Tryd.func36 (by rfl) rfl (by rfl) (by rfl) h1 (Nat.le_of_ble_eq_true h2) h3
/-- laws.vCut -/
def n_l_vCut : Nat := 37
noncomputable def b_l_vCut : Code := (Tryd.f37.body).getD .skip
def k_l_vCut : Nat → List Nat := fun n => lookN n []
theorem p_l_vCut {args : List AV} {r : Pk} (b : Bool) (h1 : args.all AV.isD = true) (h2 : Nat.ble args.length 20 = true) (h3 : evFun (env b) orc k_l_vCut [.sl (.int .u8)] [.tmp 4] 20 b_l_vCut args [] fun r' _ => r' = r) : orc.pc 37 args r :=
  pureC_of (envOk b) (orcOk b) Tryd.func37 (by rfl) rfl (by rfl) (by rfl) h1 (Nat.le_of_ble_eq_true h2) h3
/-- spec.DrawIsValidLog -/
def n_s_DrawIsValidLog : Nat := 38
noncomputable def b_s_DrawIsValidLog : Code := (Tryd.f38.body).getD .skip
def k_s_DrawIsValidLog : Nat → List Nat := fun n => lookN n []
theorem p_s_DrawIsValidLog {args : List AV} {r : Pk} (b : Bool) (h1 : args.all AV.isD = true) (h2 : Nat.ble args.length 9 = true) (h3 : evFun (env b) orc k_s_DrawIsValidLog [.pair (.str) (.pair (.str) (.pair (.int .i64) (.unit)))] [.cell 2 31] 9 b_s_DrawIsValidLog args [] fun r' _ => r' = r) : orc.pc 38 args r :=
  pureC_of (envOk b) (orcOk b) Tryd.func38 (by rfl) rfl (by rfl) (by rfl) h1 (Nat.le_of_ble_eq_true h2) h3
/-- spec.DrawAppendRecord -/
def n_s_DrawAppendRecord : Nat := 39
noncomputable def b_s_DrawAppendRecord : Code := (Tryd.f39.body).getD .skip
def k_s_DrawAppendRecord : Nat → List Nat := fun n => lookN n [(6, [0, 2, 3, 4, 5, 6, 9])]
theorem p_s_DrawAppendRecord {args : List AV} {r : Pk} (b : Bool) (h1 : args.all AV.isD = true) (h2 : Nat.ble args.length 31 = true) (h3 : evFun (env b) orc k_s_DrawAppendRecord [.pair (.str) (.pair (.str) (.pair (.int .i64) (.unit))), .pair (.str) (.pair (.str) (.unit))] [.cell 2 31, .cell 3 27] 31 b_s_DrawAppendRecord args [] fun r' _ => r' = r) : orc.pc 39 args r :=
  pureC_of (envOk b) (orcOk b) Tryd.func39 (by rfl) rfl (by rfl) (by rfl) h1 (Nat.le_of_ble_eq_true h2) h3
/-- impl.IsValidRecord -/
def n_i_IsValidRecord : Nat := 40
noncomputable def b_i_IsValidRecord : Code := (Tryd.f40.body).getD .skip
def k_i_IsValidRecord : Nat → List Nat := fun n => lookN n []
theorem p_i_IsValidRecord {args : List AV} {r : Pk} (b : Bool) (h1 : args.all AV.isD = true) (h2 : Nat.ble args.length 11 = true) (h3 : evFun (env b) orc k_i_IsValidRecord [.bool] [.tmp 2] 11 b_i_IsValidRecord args [] fun r' _ => r' = r) : orc.pc 40 args r :=
  pureC_of (envOk b) (orcOk b) Tryd.func40 (by rfl) rfl (by rfl) (by rfl) h1 (Nat.le_of_ble_eq_true h2) h3
/-- spec.IsValidRecord -/
def n_s_IsValidRecord : Nat := 41
noncomputable def b_s_IsValidRecord : Code := (Tryd.f41.body).getD .skip
def k_s_IsValidRecord : Nat → List Nat := fun n => lookN n []
theorem p_s_IsValidRecord {args : List AV} {r : Pk} (b : Bool) (h1 : args.all AV.isD = true) (h2 : Nat.ble args.length 5 = true) (h3 : evFun (env b) orc k_s_IsValidRecord [.bool] [.tmp 2] 5 b_s_IsValidRecord args [] fun r' _ => r' = r) : orc.pc 41 args r :=
  pureC_of (envOk b) (orcOk b) Tryd.func41 (by rfl) rfl (by rfl) (by rfl) h1 (Nat.le_of_ble_eq_true h2) h3
/-- laws.vRecords -/
def n_l_vRecords : Nat := 42
noncomputable def b_l_vRecords : Code := (Tryd.f42.body).getD .skip
def k_l_vRecords : Nat → List Nat := fun n => lookN n [(4, [0, 1, 5])]
theorem p_l_vRecords {args : List AV} {r : Pk} (b : Bool) (h1 : args.all AV.isD = true) (h2 : Nat.ble args.length 26 = true) (h3 : evFun (env b) orc k_l_vRecords [.bool] [.tmp 4] 26 b_l_vRecords args [] fun r' _ => r' = r) : orc.pc 42 args r :=
  pureC_of (envOk b) (orcOk b) Tryd.func42 (by rfl) rfl (by rfl) (by rfl) h1 (Nat.le_of_ble_eq_true h2) h3
/-- laws.szConsole -/
def n_l_szConsole : Nat := 43
noncomputable def b_l_szConsole : Code := (Tryd.f43.body).getD .skip
def k_l_szConsole : Nat → List Nat := fun n => lookN n []
theorem p_l_szConsole {args : List AV} {r : Pk} (b : Bool) (h1 : args.all AV.isD = true) (h2 : Nat.ble args.length 18 = true) (h3 : evFun (env b) orc k_l_szConsole [.int .i64] [.tmp 4] 18 b_l_szConsole args [] fun r' _ => r' = r) : orc.pc 43 args r :=
  pureC_of (envOk b) (orcOk b) Tryd.func43 (by rfl) rfl (by rfl) (by rfl) h1 (Nat.le_of_ble_eq_true h2) h3
/-- spec.IsValidConsole -/
def n_s_IsValidConsole : Nat := 44
noncomputable def b_s_IsValidConsole : Code := (Tryd.f44.body).getD .skip
def k_s_IsValidConsole : Nat → List Nat := fun n => lookN n []
theorem p_s_IsValidConsole {args : List AV} {r : Pk} (b : Bool) (h1 : args.all AV.isD = true) (h2 : Nat.ble args.length 11 = true) (h3 : evFun (env b) orc k_s_IsValidConsole [.bool] [.tmp 2] 11 b_s_IsValidConsole args [] fun r' _ => r' = r) : orc.pc 44 args r :=
  pureC_of (envOk b) (orcOk b) Tryd.func44 (by rfl) rfl (by rfl) (by rfl) h1 (Nat.le_of_ble_eq_true h2) h3
/-- laws.toConsole -/
def n_l_toConsole : Nat := 45
noncomputable def b_l_toConsole : Code := (Tryd.f45.body).getD .skip
def k_l_toConsole : Nat → List Nat := fun n => lookN n []
theorem p_l_toConsole {args : List AV} {r : Pk} (b : Bool) (h1 : args.all AV.isD = true) (h2 : Nat.ble args.length 13 = true) (h3 : evFun (env b) orc k_l_toConsole [.pair (.pair (.pair (.sl (.sl (.int .i64))) (.pair (.sl (.int .i64)) (.unit))) (.pair (.pair (.sl (.int .i64)) (.pair (.int .i64) (.unit))) (.pair (.int .i64) (.pair (.int .i64) (.unit))))) (.pair (.pair (.str) (.pair (.str) (.pair (.int .i64) (.unit)))) (.unit))] [.cell 2 80] 13 b_l_toConsole args [] fun r' _ => r' = r) : orc.pc 45 args r :=
  pureC_of (envOk b) (orcOk b) Tryd.func45 (by rfl) rfl (by rfl) (by rfl) h1 (Nat.le_of_ble_eq_true h2) h3
/-- impl.IsValidConsole -/
def n_i_IsValidConsole : Nat := 46
noncomputable def b_i_IsValidConsole : Code := (Tryd.f46.body).getD .skip
def k_i_IsValidConsole : Nat → List Nat := fun n => lookN n []
theorem p_i_IsValidConsole {args : List AV} {r : Pk} (b : Bool) (h1 : args.all AV.isD = true) (h2 : Nat.ble args.length 11 = true) (h3 : evFun (env b) orc k_i_IsValidConsole [.bool] [.tmp 2] 11 b_i_IsValidConsole args [] fun r' _ => r' = r) : orc.pc 46 args r :=
  pureC_of (envOk b) (orcOk b) Tryd.func46 (by rfl) rfl (by rfl) (by rfl) h1 (Nat.le_of_ble_eq_true h2) h3
/-- laws.eqConsole -/
def n_l_eqConsole : Nat := 47
noncomputable def b_l_eqConsole : Code := (Tryd.f47.body).getD .skip
def k_l_eqConsole : Nat → List Nat := fun n => lookN n []
theorem p_l_eqConsole {args : List AV} {r : Pk} (b : Bool) (h1 : args.all AV.isD = true) (h2 : Nat.ble args.length 17 = true) (h3 : evFun (env b) orc k_l_eqConsole [.bool] [.tmp 4] 17 b_l_eqConsole args [] fun r' _ => r' = r) : orc.pc 47 args r :=
  pureC_of (envOk b) (orcOk b) Tryd.func47 (by rfl) rfl (by rfl) (by rfl) h1 (Nat.le_of_ble_eq_true h2) h3
/-- spec.l1In -/
def n_s_l1In : Nat := 48
noncomputable def b_s_l1In : Code := (Tryd.f48.body).getD .skip
def k_s_l1In : Nat → List Nat := fun n => lookN n []
theorem p_s_l1In {args : List AV} {r : Pk} (b : Bool) (h1 : args.all AV.isD = true) (h2 : Nat.ble args.length 15 = true) (h3 : evFun (env b) orc k_s_l1In [.bool] [.tmp 6] 15 b_s_l1In args [] fun r' _ => r' = r) : orc.pc 48 args r :=
  pureC_of (envOk b) (orcOk b) Tryd.func48 (by rfl) rfl (by rfl) (by rfl) h1 (Nat.le_of_ble_eq_true h2) h3
/-- spec.l12Record -/
def n_s_l12Record : Nat := 49
noncomputable def b_s_l12Record : Code := (Tryd.f49.body).getD .skip
def k_s_l12Record : Nat → List Nat := fun n => lookN n []
theorem p_s_l12Record {args : List AV} {r : Pk} (b : Bool) (h1 : args.all AV.isD = true) (h2 : Nat.ble args.length 22 = true) (h3 : evFun (env b) orc k_s_l12Record [.bool] [.tmp 2] 22 b_s_l12Record args [] fun r' _ => r' = r) : orc.pc 49 args r :=
  pureC_of (envOk b) (orcOk b) Tryd.func49 (by rfl) rfl (by rfl) (by rfl) h1 (Nat.le_of_ble_eq_true h2) h3
/-- spec.l12Line -/
def n_s_l12Line : Nat := 50
noncomputable def b_s_l12Line : Code := (Tryd.f50.body).getD .skip
def k_s_l12Line : Nat → List Nat := fun n => lookN n []
theorem p_s_l12Line {args : List AV} {r : Pk} (b : Bool) (h1 : args.all AV.isD = true) (h2 : Nat.ble args.length 17 = true) (h3 : evFun (env b) orc k_s_l12Line [.str] [.tmp 4] 17 b_s_l12Line args [] fun r' _ => r' = r) : orc.pc 50 args r :=
  pureC_of (envOk b) (orcOk b) Tryd.func50 (by rfl) rfl (by rfl) (by rfl) h1 (Nat.le_of_ble_eq_true h2) h3
/-- impl.within -/
def n_i_within : Nat := 51
noncomputable def b_i_within : Code := (Tryd.f51.body).getD .skip
def k_i_within : Nat → List Nat := fun n => lookN n []
theorem p_i_within {args : List AV} {r : Pk} (b : Bool) (h1 : args.all AV.isD = true) (h2 : Nat.ble args.length 15 = true) (h3 : evFun (env b) orc k_i_within [.bool] [.tmp 6] 15 b_i_within args [] fun r' _ => r' = r) : orc.pc 51 args r :=
  pureC_of (envOk b) (orcOk b) Tryd.func51 (by rfl) rfl (by rfl) (by rfl) h1 (Nat.le_of_ble_eq_true h2) h3
/-- impl.AppendChecksum -/
def n_i_AppendChecksum : Nat := 52
noncomputable def b_i_AppendChecksum : Code := (Tryd.f52.body).getD .skip
def k_i_AppendChecksum : Nat → List Nat := fun n => lookN n []
theorem p_i_AppendChecksum {args : List AV} {r : Pk} (b : Bool) (h1 : args.all AV.isD = true) (h2 : Nat.ble args.length 22 = true) (h3 : evFun (env b) orc k_i_AppendChecksum [.str, .bool] [.tmp 2, .tmp 3] 22 b_i_AppendChecksum args [] fun r' _ => r' = r) : orc.pc 52 args r :=
  pureC_of (envOk b) (orcOk b) Tryd.func52 (by rfl) rfl (by rfl) (by rfl) h1 (Nat.le_of_ble_eq_true h2) h3
/-- strconv.Itoa -/
def n_strconv_Itoa : Nat := 53
noncomputable def b_strconv_Itoa : Code := (Tryd.f53.body).getD .skip
def k_strconv_Itoa : Nat → List Nat := fun n => lookN n []
theorem x_strconv_Itoa : ∃ fn, Tryd.prog.funcs[53]? = some fn ∧ (fn.name == "runtime.NumGoroutine") = false ∧ fn.body.isNone = false := ⟨_, Tryd.func53, by rfl, by rfl⟩
theorem p_strconv_Itoa {args : List AV} {r : Pk} (b : Bool) (h1 : args.all AV.isD = true) (h2 : Nat.ble args.length 5 = true) (h3 : evFun (env b) orc k_strconv_Itoa [.str] [.tmp 2] 5 b_strconv_Itoa args [] fun r' _ => r' = r) : orc.pc 53 args r :=
  pureC_of (envOk b) (orcOk b) Tryd.func53 (by rfl) rfl (by rfl) (by rfl) h1 (Nat.le_of_ble_eq_true h2) h3
/-- spec.l12Open -/
def n_s_l12Open : Nat := 54
noncomputable def b_s_l12Open : Code := (Tryd.f54.body).getD .skip
def k_s_l12Open : Nat → List Nat := fun n => lookN n [(3, [0, 2, 3, 4, 5])]
theorem p_s_l12Open {args : List AV} {r : Pk} (b : Bool) (h1 : args.all AV.isD = true) (h2 : Nat.ble args.length 52 = true) (h3 : evFun (env b) orc k_s_l12Open [.sl (.pair (.str) (.pair (.str) (.unit))), .int .i64] [.tmp 2, .tmp 3] 52 b_s_l12Open args [] fun r' _ => r' = r) : orc.pc 54 args r :=
  pureC_of (envOk b) (orcOk b) Tryd.func54 (by rfl) rfl (by rfl) (by rfl) h1 (Nat.le_of_ble_eq_true h2) h3
/-- impl.readRecords -/
def n_i_readRecords : Nat := 55
noncomputable def b_i_readRecords : Code := (Tryd.f55.body).getD .skip
def k_i_readRecords : Nat → List Nat := fun n => lookN n [(2, [0, 2, 3, 4, 5, 6])]
theorem p_i_readRecords {args : List AV} {r : Pk} (b : Bool) (h1 : args.all AV.isD = true) (h2 : Nat.ble args.length 83 = true) (h3 : evFun (env b) orc k_i_readRecords [.sl (.pair (.str) (.pair (.str) (.unit))), .sl (.int .i64)] [.tmp 2, .tmp 3] 83 b_i_readRecords args [] fun r' _ => r' = r) : orc.pc 55 args r :=
  pureC_of (envOk b) (orcOk b) Tryd.func55 (by rfl) rfl (by rfl) (by rfl) h1 (Nat.le_of_ble_eq_true h2) h3
/-- spec.l12Valid -/
def n_s_l12Valid : Nat := 56
noncomputable def b_s_l12Valid : Code := (Tryd.f56.body).getD .skip
def k_s_l12Valid : Nat → List Nat := fun n => lookN n []
theorem p_s_l12Valid {args : List AV} {r : Pk} (b : Bool) (h1 : args.all AV.isD = true) (h2 : Nat.ble args.length 53 = true) (h3 : evFun (env b) orc k_s_l12Valid [.bool] [.tmp 2] 53 b_s_l12Valid args [] fun r' _ => r' = r) : orc.pc 56 args r :=
  pureC_of (envOk b) (orcOk b) Tryd.func56 (by rfl) rfl (by rfl) (by rfl) h1 (Nat.le_of_ble_eq_true h2) h3
/-- slices.Contains[[]int,int] -/
def n_slices_Contains : Nat := 57
noncomputable def b_slices_Contains : Code := (Tryd.f57.body).getD .skip
def k_slices_Contains : Nat → List Nat := fun n => lookN n []
theorem x_slices_Contains : ∃ fn, Tryd.prog.funcs[57]? = some fn ∧ (fn.name == "runtime.NumGoroutine") = false ∧ fn.body.isNone = false := ⟨_, Tryd.func57, by rfl, by rfl⟩
theorem p_slices_Contains {args : List AV} {r : Pk} (b : Bool) (h1 : args.all AV.isD = true) (h2 : Nat.ble args.length 9 = true) (h3 : evFun (env b) orc k_slices_Contains [.bool] [.tmp 4] 9 b_slices_Contains args [] fun r' _ => r' = r) : orc.pc 57 args r :=
  pureC_of (envOk b) (orcOk b) Tryd.func57 (by rfl) rfl (by rfl) (by rfl) h1 (Nat.le_of_ble_eq_true h2) h3
/-- laws.eqLogRecord -/
def n_l_eqLogRecord : Nat := 58
noncomputable def b_l_eqLogRecord : Code := (Tryd.f58.body).getD .skip
def k_l_eqLogRecord : Nat → List Nat := fun n => lookN n []
theorem p_l_eqLogRecord {args : List AV} {r : Pk} (b : Bool) (h1 : args.all AV.isD = true) (h2 : Nat.ble args.length 15 = true) (h3 : evFun (env b) orc k_l_eqLogRecord [.bool] [.tmp 4] 15 b_l_eqLogRecord args [] fun r' _ => r' = r) : orc.pc 58 args r :=
  pureC_of (envOk b) (orcOk b) Tryd.func58 (by rfl) rfl (by rfl) (by rfl) h1 (Nat.le_of_ble_eq_true h2) h3
/-- laws.markText -/
def n_l_markText : Nat := 59
noncomputable def b_l_markText : Code := (Tryd.f59.body).getD .skip
def k_l_markText : Nat → List Nat := fun n => lookN n [(4, [0, 2, 3])]
theorem p_l_markText {args : List AV} {r : Pk} (b : Bool) (h1 : args.all AV.isD = true) (h2 : Nat.ble args.length 20 = true) (h3 : evFun (env b) orc k_l_markText [.str] [.tmp 2] 20 b_l_markText args [] fun r' _ => r' = r) : orc.pc 59 args r :=
  pureC_of (envOk b) (orcOk b) Tryd.func59 (by rfl) rfl (by rfl) (by rfl) h1 (Nat.le_of_ble_eq_true h2) h3
/-- (*spec.l1Cur).logRecord -/
def n_s_l1Cur_logRecord : Nat := 60
noncomputable def b_s_l1Cur_logRecord : Code := (Tryd.f60.body).getD .skip
def k_s_l1Cur_logRecord : Nat → List Nat := fun n => lookN n []
theorem p_s_l1Cur_logRecord {vs : List AV} {st : St} {r : AV} {st2 : St} (b : Bool) (hst : 0 < st.length) (h1 : vs.all (fun v => !v.isBad) = true) (h2 : Nat.ble vs.length 28 = true) (h3 : evInl (env b) orc k_s_l1Cur_logRecord [.pair (.str) (.pair (.str) (.unit))] [.cell 2 27] 28 b_s_l1Cur_logRecord (vs.map AV.inner) st fun r' st' => r' = r ∧ st' = st2) : orc.ic 60 vs st r st2 :=
  inlC_of (envOk b) (orcOk b) Tryd.func60 (by rfl) rfl (by rfl) (by rfl) hst h1 (Nat.le_of_ble_eq_true h2) h3
/-- (*spec.l1Cur).among -/
def n_s_l1Cur_among : Nat := 61
noncomputable def b_s_l1Cur_among : Code := (Tryd.f61.body).getD .skip
def k_s_l1Cur_among : Nat → List Nat := fun n => lookN n []
theorem p_s_l1Cur_among {vs : List AV} {st : St} {r : AV} {st2 : St} (b : Bool) (hst : 0 < st.length) (h1 : vs.all (fun v => !v.isBad) = true) (h2 : Nat.ble vs.length 12 = true) (h3 : evInl (env b) orc k_s_l1Cur_among [.int .i64] [.tmp 4] 12 b_s_l1Cur_among (vs.map AV.inner) st fun r' st' => r' = r ∧ st' = st2) : orc.ic 61 vs st r st2 :=
  inlC_of (envOk b) (orcOk b) Tryd.func61 (by rfl) rfl (by rfl) (by rfl) hst h1 (Nat.le_of_ble_eq_true h2) h3
/-- (*spec.l1Cur).anyLog -/
def n_s_l1Cur_anyLog : Nat := 62
noncomputable def b_s_l1Cur_anyLog : Code := (Tryd.f62.body).getD .skip
def k_s_l1Cur_anyLog : Nat → List Nat := fun n => lookN n []
theorem p_s_l1Cur_anyLog {vs : List AV} {st : St} {r : AV} {st2 : St} (b : Bool) (hst : 0 < st.length) (h1 : vs.all (fun v => !v.isBad) = true) (h2 : Nat.ble vs.length 30 = true) (h3 : evInl (env b) orc k_s_l1Cur_anyLog [.pair (.str) (.pair (.str) (.pair (.int .i64) (.unit)))] [.cell 2 31] 30 b_s_l1Cur_anyLog (vs.map AV.inner) st fun r' st' => r' = r ∧ st' = st2) : orc.ic 62 vs st r st2 :=
  inlC_of (envOk b) (orcOk b) Tryd.func62 (by rfl) rfl (by rfl) (by rfl) hst h1 (Nat.le_of_ble_eq_true h2) h3
/-- (*spec.l1Cur).one -/
def n_s_l1Cur_one : Nat := 63
noncomputable def b_s_l1Cur_one : Code := (Tryd.f63.body).getD .skip
def k_s_l1Cur_one : Nat → List Nat := fun n => lookN n []
theorem p_s_l1Cur_one {vs : List AV} {st : St} {r : AV} {st2 : St} (b : Bool) (hst : 0 < st.length) (h1 : vs.all (fun v => !v.isBad) = true) (h2 : Nat.ble vs.length 9 = true) (h3 : evInl (env b) orc k_s_l1Cur_one [.bool] [.tmp 4] 9 b_s_l1Cur_one (vs.map AV.inner) st fun r' st' => r' = r ∧ st' = st2) : orc.ic 63 vs st r st2 :=
  inlC_of (envOk b) (orcOk b) Tryd.func63 (by rfl) rfl (by rfl) (by rfl) hst h1 (Nat.le_of_ble_eq_true h2) h3
/-- (*spec.l1Cur).pick -/
def n_s_l1Cur_pick : Nat := 64
noncomputable def b_s_l1Cur_pick : Code := (Tryd.f64.body).getD .skip
def k_s_l1Cur_pick : Nat → List Nat := fun n => lookN n []
theorem p_s_l1Cur_pick {vs : List AV} {st : St} {r : AV} {st2 : St} (b : Bool) (hst : 0 < st.length) (h1 : vs.all (fun v => !v.isBad) = true) (h2 : Nat.ble vs.length 20 = true) (h3 : evInl (env b) orc k_s_l1Cur_pick [.int .i64] [.tmp 4] 20 b_s_l1Cur_pick (vs.map AV.inner) st fun r' st' => r' = r ∧ st' = st2) : orc.ic 64 vs st r st2 :=
  inlC_of (envOk b) (orcOk b) Tryd.func64 (by rfl) rfl (by rfl) (by rfl) hst h1 (Nat.le_of_ble_eq_true h2) h3
/-- impl.isCommand -/
def n_i_isCommand : Nat := 65
noncomputable def b_i_isCommand : Code := (Tryd.f65.body).getD .skip
def k_i_isCommand : Nat → List Nat := fun n => lookN n []
theorem p_i_isCommand {args : List AV} {r : Pk} (b : Bool) (h1 : args.all AV.isD = true) (h2 : Nat.ble args.length 9 = true) (h3 : evFun (env b) orc k_i_isCommand [.bool] [.tmp 2] 9 b_i_isCommand args [] fun r' _ => r' = r) : orc.pc 65 args r :=
  pureC_of (envOk b) (orcOk b) Tryd.func65 (by rfl) rfl (by rfl) (by rfl) h1 (Nat.le_of_ble_eq_true h2) h3
/-- impl.isPlain -/
def n_i_isPlain : Nat := 66
noncomputable def b_i_isPlain : Code := (Tryd.f66.body).getD .skip
def k_i_isPlain : Nat → List Nat := fun n => lookN n [(2, [0, 1, 2, 9, 10])]
theorem p_i_isPlain {args : List AV} {r : Pk} (b : Bool) (h1 : args.all AV.isD = true) (h2 : Nat.ble args.length 34 = true) (h3 : evFun (env b) orc k_i_isPlain [.bool] [.tmp 6] 34 b_i_isPlain args [] fun r' _ => r' = r) : orc.pc 66 args r :=
  pureC_of (envOk b) (orcOk b) Tryd.func66 (by rfl) rfl (by rfl) (by rfl) h1 (Nat.le_of_ble_eq_true h2) h3
/-- laws.szSchool -/
def n_l_szSchool : Nat := 67
noncomputable def b_l_szSchool : Code := (Tryd.f67.body).getD .skip
def k_l_szSchool : Nat → List Nat := fun n => lookN n []
theorem p_l_szSchool {args : List AV} {r : Pk} (b : Bool) (h1 : args.all AV.isD = true) (h2 : Nat.ble args.length 18 = true) (h3 : evFun (env b) orc k_l_szSchool [.int .i64] [.tmp 4] 18 b_l_szSchool args [] fun r' _ => r' = r) : orc.pc 67 args r :=
  pureC_of (envOk b) (orcOk b) Tryd.func67 (by rfl) rfl (by rfl) (by rfl) h1 (Nat.le_of_ble_eq_true h2) h3
/-- spec.l12Good -/
def n_s_l12Good : Nat := 68
noncomputable def b_s_l12Good : Code := (Tryd.f68.body).getD .skip
def k_s_l12Good : Nat → List Nat := fun n => lookN n []
theorem p_s_l12Good {args : List AV} {r : Pk} (b : Bool) (h1 : args.all AV.isD = true) (h2 : Nat.ble args.length 18 = true) (h3 : evFun (env b) orc k_s_l12Good [.bool] [.tmp 2] 18 b_s_l12Good args [] fun r' _ => r' = r) : orc.pc 68 args r :=
  pureC_of (envOk b) (orcOk b) Tryd.func68 (by rfl) rfl (by rfl) (by rfl) h1 (Nat.le_of_ble_eq_true h2) h3
/-- laws.toSchool -/
def n_l_toSchool : Nat := 69
noncomputable def b_l_toSchool : Code := (Tryd.f69.body).getD .skip
def k_l_toSchool : Nat → List Nat := fun n => lookN n []
theorem p_l_toSchool {args : List AV} {r : Pk} (b : Bool) (h1 : args.all AV.isD = true) (h2 : Nat.ble args.length 19 = true) (h3 : evFun (env b) orc k_l_toSchool [.pair (.pair (.sl (.sl (.int .i64))) (.pair (.sl (.int .i64)) (.unit))) (.pair (.pair (.sl (.int .i64)) (.pair (.int .i64) (.unit))) (.pair (.int .i64) (.pair (.int .i64) (.unit))))] [.cell 2 78] 19 b_l_toSchool args [] fun r' _ => r' = r) : orc.pc 69 args r :=
  pureC_of (envOk b) (orcOk b) Tryd.func69 (by rfl) rfl (by rfl) (by rfl) h1 (Nat.le_of_ble_eq_true h2) h3
/-- impl.IsSchool -/
def n_i_IsSchool : Nat := 70
noncomputable def b_i_IsSchool : Code := (Tryd.f70.body).getD .skip
def k_i_IsSchool : Nat → List Nat := fun n => lookN n []
theorem p_i_IsSchool {args : List AV} {r : Pk} (b : Bool) (h1 : args.all AV.isD = true) (h2 : Nat.ble args.length 18 = true) (h3 : evFun (env b) orc k_i_IsSchool [.bool] [.tmp 2] 18 b_i_IsSchool args [] fun r' _ => r' = r) : orc.pc 70 args r :=
  pureC_of (envOk b) (orcOk b) Tryd.func70 (by rfl) rfl (by rfl) (by rfl) h1 (Nat.le_of_ble_eq_true h2) h3
/-- laws.eqSchool -/
def n_l_eqSchool : Nat := 71
noncomputable def b_l_eqSchool : Code := (Tryd.f71.body).getD .skip
def k_l_eqSchool : Nat → List Nat := fun n => lookN n []
theorem p_l_eqSchool {args : List AV} {r : Pk} (b : Bool) (h1 : args.all AV.isD = true) (h2 : Nat.ble args.length 27 = true) (h3 : evFun (env b) orc k_l_eqSchool [.bool] [.tmp 4] 27 b_l_eqSchool args [] fun r' _ => r' = r) : orc.pc 71 args r :=
  pureC_of (envOk b) (orcOk b) Tryd.func71 (by rfl) rfl (by rfl) (by rfl) h1 (Nat.le_of_ble_eq_true h2) h3
/-- spec.l12Bytes -/
def n_s_l12Bytes : Nat := 72
noncomputable def b_s_l12Bytes : Code := (Tryd.f72.body).getD .skip
def k_s_l12Bytes : Nat → List Nat := fun n => lookN n [(2, [0, 1, 5])]
theorem p_s_l12Bytes {args : List AV} {r : Pk} (b : Bool) (h1 : args.all AV.isD = true) (h2 : Nat.ble args.length 28 = true) (h3 : evFun (env b) orc k_s_l12Bytes [.bool] [.tmp 4] 28 b_s_l12Bytes args [] fun r' _ => r' = r) : orc.pc 72 args r :=
  pureC_of (envOk b) (orcOk b) Tryd.func72 (by rfl) rfl (by rfl) (by rfl) h1 (Nat.le_of_ble_eq_true h2) h3
/-- spec.l1Stands -/
def n_s_l1Stands : Nat := 73
noncomputable def b_s_l1Stands : Code := (Tryd.f73.body).getD .skip
def k_s_l1Stands : Nat → List Nat := fun n => lookN n [(2, [0, 1, 5])]
theorem p_s_l1Stands {args : List AV} {r : Pk} (b : Bool) (h1 : args.all AV.isD = true) (h2 : Nat.ble args.length 17 = true) (h3 : evFun (env b) orc k_s_l1Stands [.bool] [.tmp 4] 17 b_s_l1Stands args [] fun r' _ => r' = r) : orc.pc 73 args r :=
  pureC_of (envOk b) (orcOk b) Tryd.func73 (by rfl) rfl (by rfl) (by rfl) h1 (Nat.le_of_ble_eq_true h2) h3
/-- spec.l1Seal -/
def n_s_l1Seal : Nat := 74
noncomputable def b_s_l1Seal : Code := (Tryd.f74.body).getD .skip
def k_s_l1Seal : Nat → List Nat := fun n => lookN n []
theorem p_s_l1Seal {args : List AV} {r : Pk} (b : Bool) (h1 : args.all AV.isD = true) (h2 : Nat.ble args.length 9 = true) (h3 : evFun (env b) orc k_s_l1Seal [.str] [.tmp 2] 9 b_s_l1Seal args [] fun r' _ => r' = r) : orc.pc 74 args r :=
  pureC_of (envOk b) (orcOk b) Tryd.func74 (by rfl) rfl (by rfl) (by rfl) h1 (Nat.le_of_ble_eq_true h2) h3
/-- spec.l1Num -/
def n_s_l1Num : Nat := 75
noncomputable def b_s_l1Num : Code := (Tryd.f75.body).getD .skip
def k_s_l1Num : Nat → List Nat := fun n => lookN n []
theorem p_s_l1Num {args : List AV} {r : Pk} (b : Bool) (h1 : args.all AV.isD = true) (h2 : Nat.ble args.length 25 = true) (h3 : evFun (env b) orc k_s_l1Num [.str] [.tmp 2] 25 b_s_l1Num args [] fun r' _ => r' = r) : orc.pc 75 args r :=
  pureC_of (envOk b) (orcOk b) Tryd.func75 (by rfl) rfl (by rfl) (by rfl) h1 (Nat.le_of_ble_eq_true h2) h3
/-- strings.Contains -/
def n_strings_Contains : Nat := 76
noncomputable def b_strings_Contains : Code := (Tryd.f76.body).getD .skip
def k_strings_Contains : Nat → List Nat := fun n => lookN n []
theorem x_strings_Contains : ∃ fn, Tryd.prog.funcs[76]? = some fn ∧ (fn.name == "runtime.NumGoroutine") = false ∧ fn.body.isNone = false := ⟨_, Tryd.func76, by rfl, by rfl⟩
theorem p_strings_Contains {args : List AV} {r : Pk} (b : Bool) (h1 : args.all AV.isD = true) (h2 : Nat.ble args.length 9 = true) (h3 : evFun (env b) orc k_strings_Contains [.bool] [.tmp 4] 9 b_strings_Contains args [] fun r' _ => r' = r) : orc.pc 76 args r :=
  pureC_of (envOk b) (orcOk b) Tryd.func76 (by rfl) rfl (by rfl) (by rfl) h1 (Nat.le_of_ble_eq_true h2) h3
/-- impl.checksum -/
def n_i_checksum : Nat := 77
noncomputable def b_i_checksum : Code := (Tryd.f77.body).getD .skip
def k_i_checksum : Nat → List Nat := fun n => lookN n [(3, [0, 2, 3, 6, 7])]
theorem p_i_checksum {args : List AV} {r : Pk} (b : Bool) (h1 : args.all AV.isD = true) (h2 : Nat.ble args.length 21 = true) (h3 : evFun (env b) orc k_i_checksum [.int .i64] [.tmp 2] 21 b_i_checksum args [] fun r' _ => r' = r) : orc.pc 77 args r :=
  pureC_of (envOk b) (orcOk b) Tryd.func77 (by rfl) rfl (by rfl) (by rfl) h1 (Nat.le_of_ble_eq_true h2) h3
/-- internal/strconv.Itoa -/
def n_internal_strconv_Itoa : Nat := 78
noncomputable def b_internal_strconv_Itoa : Code := (Tryd.f78.body).getD .skip
def k_internal_strconv_Itoa : Nat → List Nat := fun n => lookN n []
theorem p_internal_strconv_Itoa {args : List AV} {r : Pk} (b : Bool) (h1 : args.all AV.isD = true) (h2 : Nat.ble args.length 5 = true) (h3 : evFun (env b) orc k_internal_strconv_Itoa [.str] [.tmp 2] 5 b_internal_strconv_Itoa args [] fun r' _ => r' = r) : orc.pc 78 args r :=
  pureC_of (envOk b) (orcOk b) Tryd.func78 (by rfl) rfl (by rfl) (by rfl) h1 (Nat.le_of_ble_eq_true h2) h3
/-- spec.l1Split -/
def n_s_l1Split : Nat := 79
noncomputable def b_s_l1Split : Code := (Tryd.f79.body).getD .skip
def k_s_l1Split : Nat → List Nat := fun n => lookN n [(4, [0, 1, 4, 5, 6, 7])]
theorem p_s_l1Split {args : List AV} {r : Pk} (b : Bool) (h1 : args.all AV.isD = true) (h2 : Nat.ble args.length 35 = true) (h3 : evFun (env b) orc k_s_l1Split [.sl (.str)] [.tmp 4] 35 b_s_l1Split args [] fun r' _ => r' = r) : orc.pc 79 args r :=
  pureC_of (envOk b) (orcOk b) Tryd.func79 (by rfl) rfl (by rfl) (by rfl) h1 (Nat.le_of_ble_eq_true h2) h3
/-- spec.l12Decode -/
def n_s_l12Decode : Nat := 80
noncomputable def b_s_l12Decode : Code := (Tryd.f80.body).getD .skip
def k_s_l12Decode : Nat → List Nat := fun n => lookN n []
theorem p_s_l12Decode {args : List AV} {r : Pk} (b : Bool) (h1 : args.all AV.isD = true) (h2 : Nat.ble args.length 64 = true) (h3 : evFun (env b) orc k_s_l12Decode [.pair (.str) (.pair (.str) (.unit)), .bool] [.cell 4 27, .tmp 5] 64 b_s_l12Decode args [] fun r' _ => r' = r) : orc.pc 80 args r :=
  pureC_of (envOk b) (orcOk b) Tryd.func80 (by rfl) rfl (by rfl) (by rfl) h1 (Nat.le_of_ble_eq_true h2) h3
/-- strings.Cut -/
def n_strings_Cut : Nat := 81
noncomputable def b_strings_Cut : Code := (Tryd.f81.body).getD .skip
def k_strings_Cut : Nat → List Nat := fun n => lookN n []
theorem x_strings_Cut : ∃ fn, Tryd.prog.funcs[81]? = some fn ∧ (fn.name == "runtime.NumGoroutine") = false ∧ fn.body.isNone = false := ⟨_, Tryd.func81, by rfl, by rfl⟩
theorem p_strings_Cut {args : List AV} {r : Pk} (b : Bool) (h1 : args.all AV.isD = true) (h2 : Nat.ble args.length 13 = true) (h3 : evFun (env b) orc k_strings_Cut [.str, .str, .bool] [.tmp 4, .tmp 5, .tmp 6] 13 b_strings_Cut args [] fun r' _ => r' = r) : orc.pc 81 args r :=
  pureC_of (envOk b) (orcOk b) Tryd.func81 (by rfl) rfl (by rfl) (by rfl) h1 (Nat.le_of_ble_eq_true h2) h3
/-- impl.VerifyChecksum -/
def n_i_VerifyChecksum : Nat := 82
noncomputable def b_i_VerifyChecksum : Code := (Tryd.f82.body).getD .skip
def k_i_VerifyChecksum : Nat → List Nat := fun n => lookN n []
theorem p_i_VerifyChecksum {args : List AV} {r : Pk} (b : Bool) (h1 : args.all AV.isD = true) (h2 : Nat.ble args.length 28 = true) (h3 : evFun (env b) orc k_i_VerifyChecksum [.str, .bool] [.tmp 2, .tmp 3] 28 b_i_VerifyChecksum args [] fun r' _ => r' = r) : orc.pc 82 args r :=
  pureC_of (envOk b) (orcOk b) Tryd.func82 (by rfl) rfl (by rfl) (by rfl) h1 (Nat.le_of_ble_eq_true h2) h3
/-- slices.Index[[]int,int] -/
def n_slices_Index : Nat := 83
noncomputable def b_slices_Index : Code := (Tryd.f83.body).getD .skip
def k_slices_Index : Nat → List Nat := fun n => lookN n [(2, [0, 1, 7, 8])]
theorem x_slices_Index : ∃ fn, Tryd.prog.funcs[83]? = some fn ∧ (fn.name == "runtime.NumGoroutine") = false ∧ fn.body.isNone = false := ⟨_, Tryd.func83, by rfl, by rfl⟩
theorem p_slices_Index {args : List AV} {r : Pk} (b : Bool) (h1 : args.all AV.isD = true) (h2 : Nat.ble args.length 19 = true) (h3 : evFun (env b) orc k_slices_Index [.int .i64] [.tmp 4] 19 b_slices_Index args [] fun r' _ => r' = r) : orc.pc 83 args r :=
  pureC_of (envOk b) (orcOk b) Tryd.func83 (by rfl) rfl (by rfl) (by rfl) h1 (Nat.le_of_ble_eq_true h2) h3
/-- (*spec.l1Cur).of -/
def n_s_l1Cur_of : Nat := 84
noncomputable def b_s_l1Cur_of : Code := (Tryd.f84.body).getD .skip
def k_s_l1Cur_of : Nat → List Nat := fun n => lookN n []
theorem p_s_l1Cur_of {vs : List AV} {st : St} {r : AV} {st2 : St} (b : Bool) (hst : 0 < st.length) (h1 : vs.all (fun v => !v.isBad) = true) (h2 : Nat.ble vs.length 12 = true) (h3 : evInl (env b) orc k_s_l1Cur_of [.str] [.tmp 4] 12 b_s_l1Cur_of (vs.map AV.inner) st fun r' st' => r' = r ∧ st' = st2) : orc.ic 84 vs st r st2 :=
  inlC_of (envOk b) (orcOk b) Tryd.func84 (by rfl) rfl (by rfl) (by rfl) hst h1 (Nat.le_of_ble_eq_true h2) h3
/-- (*spec.l1Cur).log12 -/
def n_s_l1Cur_log12 : Nat := 85
noncomputable def b_s_l1Cur_log12 : Code := (Tryd.f85.body).getD .skip
def k_s_l1Cur_log12 : Nat → List Nat := fun n => lookN n [(3, [0, 2, 3, 4])]
theorem p_s_l1Cur_log12 {vs : List AV} {st : St} {r : AV} {st2 : St} (b : Bool) (hst : 0 < st.length) (h1 : vs.all (fun v => !v.isBad) = true) (h2 : Nat.ble vs.length 27 = true) (h3 : evInl (env b) orc k_s_l1Cur_log12 [.pair (.str) (.pair (.str) (.pair (.int .i64) (.unit)))] [.cell 2 31] 27 b_s_l1Cur_log12 (vs.map AV.inner) st fun r' st' => r' = r ∧ st' = st2) : orc.ic 85 vs st r st2 :=
  inlC_of (envOk b) (orcOk b) Tryd.func85 (by rfl) rfl (by rfl) (by rfl) hst h1 (Nat.le_of_ble_eq_true h2) h3
/-- (*spec.l1Cur).spoilt -/
def n_s_l1Cur_spoilt : Nat := 86
noncomputable def b_s_l1Cur_spoilt : Code := (Tryd.f86.body).getD .skip
def k_s_l1Cur_spoilt : Nat → List Nat := fun n => lookN n []
theorem p_s_l1Cur_spoilt {vs : List AV} {st : St} {r : AV} {st2 : St} (b : Bool) (hst : 0 < st.length) (h1 : vs.all (fun v => !v.isBad) = true) (h2 : Nat.ble vs.length 57 = true) (h3 : evInl (env b) orc k_s_l1Cur_spoilt [.str] [.tmp 6] 57 b_s_l1Cur_spoilt (vs.map AV.inner) st fun r' st' => r' = r ∧ st' = st2) : orc.ic 86 vs st r st2 :=
  inlC_of (envOk b) (orcOk b) Tryd.func86 (by rfl) rfl (by rfl) (by rfl) hst h1 (Nat.le_of_ble_eq_true h2) h3
/-- (*spec.l1Cur).next -/
def n_s_l1Cur_next : Nat := 87
noncomputable def b_s_l1Cur_next : Code := (Tryd.f87.body).getD .skip
def k_s_l1Cur_next : Nat → List Nat := fun n => lookN n []
theorem p_s_l1Cur_next {vs : List AV} {st : St} {r : AV} {st2 : St} (b : Bool) (hst : 0 < st.length) (h1 : vs.all (fun v => !v.isBad) = true) (h2 : Nat.ble vs.length 62 = true) (h3 : evInl (env b) orc k_s_l1Cur_next [.int .i64] [.tmp 2] 62 b_s_l1Cur_next (vs.map AV.inner) st fun r' st' => r' = r ∧ st' = st2) : orc.ic 87 vs st r st2 :=
  inlC_of (envOk b) (orcOk b) Tryd.func87 (by rfl) rfl (by rfl) (by rfl) hst h1 (Nat.le_of_ble_eq_true h2) h3
/-- strings.ContainsAny -/
def n_strings_ContainsAny : Nat := 88
noncomputable def b_strings_ContainsAny : Code := (Tryd.f88.body).getD .skip
def k_strings_ContainsAny : Nat → List Nat := fun n => lookN n []
theorem x_strings_ContainsAny : ∃ fn, Tryd.prog.funcs[88]? = some fn ∧ (fn.name == "runtime.NumGoroutine") = false ∧ fn.body.isNone = false := ⟨_, Tryd.func88, by rfl, by rfl⟩
theorem p_strings_ContainsAny {args : List AV} {r : Pk} (b : Bool) (h1 : args.all AV.isD = true) (h2 : Nat.ble args.length 9 = true) (h3 : evFun (env b) orc k_strings_ContainsAny [.bool] [.tmp 4] 9 b_strings_ContainsAny args [] fun r' _ => r' = r) : orc.pc 88 args r :=
  pureC_of (envOk b) (orcOk b) Tryd.func88 (by rfl) rfl (by rfl) (by rfl) h1 (Nat.le_of_ble_eq_true h2) h3
/-- laws.szSample -/
def n_l_szSample : Nat := 89
noncomputable def b_l_szSample : Code := (Tryd.f89.body).getD .skip
def k_l_szSample : Nat → List Nat := fun n => lookN n []
theorem p_l_szSample {args : List AV} {r : Pk} (b : Bool) (h1 : args.all AV.isD = true) (h2 : Nat.ble args.length 18 = true) (h3 : evFun (env b) orc k_l_szSample [.int .i64] [.tmp 4] 18 b_l_szSample args [] fun r' _ => r' = r) : orc.pc 89 args r :=
  pureC_of (envOk b) (orcOk b) Tryd.func89 (by rfl) rfl (by rfl) (by rfl) h1 (Nat.le_of_ble_eq_true h2) h3
/-- laws.szPlane -/
def n_l_szPlane : Nat := 90
noncomputable def b_l_szPlane : Code := (Tryd.f90.body).getD .skip
def k_l_szPlane : Nat → List Nat := fun n => lookN n []
theorem p_l_szPlane {args : List AV} {r : Pk} (b : Bool) (h1 : args.all AV.isD = true) (h2 : Nat.ble args.length 12 = true) (h3 : evFun (env b) orc k_l_szPlane [.int .i64] [.tmp 4] 12 b_l_szPlane args [] fun r' _ => r' = r) : orc.pc 90 args r :=
  pureC_of (envOk b) (orcOk b) Tryd.func90 (by rfl) rfl (by rfl) (by rfl) h1 (Nat.le_of_ble_eq_true h2) h3
/-- spec.l2Both -/
def n_s_l2Both : Nat := 91
noncomputable def b_s_l2Both : Code := (Tryd.f91.body).getD .skip
def k_s_l2Both : Nat → List Nat := fun n => lookN n []
theorem p_s_l2Both {args : List AV} {r : Pk} (b : Bool) (h1 : args.all AV.isD = true) (h2 : Nat.ble args.length 28 = true) (h3 : evFun (env b) orc k_s_l2Both [.bool] [.tmp 4] 28 b_s_l2Both args [] fun r' _ => r' = r) : orc.pc 91 args r :=
  pureC_of (envOk b) (orcOk b) Tryd.func91 (by rfl) rfl (by rfl) (by rfl) h1 (Nat.le_of_ble_eq_true h2) h3
/-- laws.toSample -/
def n_l_toSample : Nat := 92
noncomputable def b_l_toSample : Code := (Tryd.f92.body).getD .skip
def k_l_toSample : Nat → List Nat := fun n => lookN n []
theorem p_l_toSample {args : List AV} {r : Pk} (b : Bool) (h1 : args.all AV.isD = true) (h2 : Nat.ble args.length 13 = true) (h3 : evFun (env b) orc k_l_toSample [.pair (.sl (.sl (.int .i64))) (.pair (.sl (.int .i64)) (.unit))] [.cell 2 75] 13 b_l_toSample args [] fun r' _ => r' = r) : orc.pc 92 args r :=
  pureC_of (envOk b) (orcOk b) Tryd.func92 (by rfl) rfl (by rfl) (by rfl) h1 (Nat.le_of_ble_eq_true h2) h3
/-- laws.toPlane -/
def n_l_toPlane : Nat := 93
noncomputable def b_l_toPlane : Code := (Tryd.f93.body).getD .skip
def k_l_toPlane : Nat → List Nat := fun n => lookN n []
theorem p_l_toPlane {args : List AV} {r : Pk} (b : Bool) (h1 : args.all AV.isD = true) (h2 : Nat.ble args.length 12 = true) (h3 : evFun (env b) orc k_l_toPlane [.pair (.sl (.int .i64)) (.pair (.int .i64) (.unit))] [.cell 2 76] 12 b_l_toPlane args [] fun r' _ => r' = r) : orc.pc 93 args r :=
  pureC_of (envOk b) (orcOk b) Tryd.func93 (by rfl) rfl (by rfl) (by rfl) h1 (Nat.le_of_ble_eq_true h2) h3
/-- impl.suits -/
def n_i_suits : Nat := 94
noncomputable def b_i_suits : Code := (Tryd.f94.body).getD .skip
def k_i_suits : Nat → List Nat := fun n => lookN n []
theorem p_i_suits {args : List AV} {r : Pk} (b : Bool) (h1 : args.all AV.isD = true) (h2 : Nat.ble args.length 28 = true) (h3 : evFun (env b) orc k_i_suits [.bool] [.tmp 4] 28 b_i_suits args [] fun r' _ => r' = r) : orc.pc 94 args r :=
  pureC_of (envOk b) (orcOk b) Tryd.func94 (by rfl) rfl (by rfl) (by rfl) h1 (Nat.le_of_ble_eq_true h2) h3
/-- laws.eqSample -/
def n_l_eqSample : Nat := 95
noncomputable def b_l_eqSample : Code := (Tryd.f95.body).getD .skip
def k_l_eqSample : Nat → List Nat := fun n => lookN n []
theorem p_l_eqSample {args : List AV} {r : Pk} (b : Bool) (h1 : args.all AV.isD = true) (h2 : Nat.ble args.length 17 = true) (h3 : evFun (env b) orc k_l_eqSample [.bool] [.tmp 4] 17 b_l_eqSample args [] fun r' _ => r' = r) : orc.pc 95 args r :=
  pureC_of (envOk b) (orcOk b) Tryd.func95 (by rfl) rfl (by rfl) (by rfl) h1 (Nat.le_of_ble_eq_true h2) h3
/-- laws.eqPlane -/
def n_l_eqPlane : Nat := 96
noncomputable def b_l_eqPlane : Code := (Tryd.f96.body).getD .skip
def k_l_eqPlane : Nat → List Nat := fun n => lookN n []
theorem p_l_eqPlane {args : List AV} {r : Pk} (b : Bool) (h1 : args.all AV.isD = true) (h2 : Nat.ble args.length 16 = true) (h3 : evFun (env b) orc k_l_eqPlane [.bool] [.tmp 4] 16 b_l_eqPlane args [] fun r' _ => r' = r) : orc.pc 96 args r :=
  pureC_of (envOk b) (orcOk b) Tryd.func96 (by rfl) rfl (by rfl) (by rfl) h1 (Nat.le_of_ble_eq_true h2) h3
/-- spec.l1Sum -/
def n_s_l1Sum : Nat := 97
noncomputable def b_s_l1Sum : Code := (Tryd.f97.body).getD .skip
def k_s_l1Sum : Nat → List Nat := fun n => lookN n [(3, [0, 2, 3, 4])]
theorem p_s_l1Sum {args : List AV} {r : Pk} (b : Bool) (h1 : args.all AV.isD = true) (h2 : Nat.ble args.length 21 = true) (h3 : evFun (env b) orc k_s_l1Sum [.int .i64] [.tmp 2] 21 b_s_l1Sum args [] fun r' _ => r' = r) : orc.pc 97 args r :=
  pureC_of (envOk b) (orcOk b) Tryd.func97 (by rfl) rfl (by rfl) (by rfl) h1 (Nat.le_of_ble_eq_true h2) h3
/-- strings.Index -/
def n_strings_Index : Nat := 98
noncomputable def b_strings_Index : Code := (Tryd.f98.body).getD .skip
def k_strings_Index : Nat → List Nat := fun n => lookN n []
theorem x_strings_Index : ∃ fn, Tryd.prog.funcs[98]? = some fn ∧ (fn.name == "runtime.NumGoroutine") = false ∧ fn.body.isNone = false := ⟨_, Tryd.func98, by rfl, by rfl⟩
theorem p_strings_Index {args : List AV} {r : Pk} (b : Bool) (h1 : args.all AV.isD = true) (h2 : Nat.ble args.length 8 = true) (h3 : evFun (env b) orc k_strings_Index [.int .i64] [.tmp 4] 8 b_strings_Index args [] fun r' _ => r' = r) : orc.pc 98 args r :=
  pureC_of (envOk b) (orcOk b) Tryd.func98 (by rfl) rfl (by rfl) (by rfl) h1 (Nat.le_of_ble_eq_true h2) h3
/-- internal/strconv.FormatInt -/
def n_internal_strconv_FormatInt : Nat := 99
noncomputable def b_internal_strconv_FormatInt : Code := (Tryd.f99.body).getD .skip
def k_internal_strconv_FormatInt : Nat → List Nat := fun n => lookN n []
theorem p_internal_strconv_FormatInt {args : List AV} {r : Pk} (b : Bool) (h1 : args.all AV.isD = true) (h2 : Nat.ble args.length 54 = true) (h3 : evFun (env b) orc k_internal_strconv_FormatInt [.str] [.tmp 4] 54 b_internal_strconv_FormatInt args [] fun r' _ => r' = r) : orc.pc 99 args r :=
  pureC_of (envOk b) (orcOk b) Tryd.func99 (by rfl) rfl (by rfl) (by rfl) h1 (Nat.le_of_ble_eq_true h2) h3
/-- internal/stringslite.Cut -/
def n_internal_stringslite_Cut : Nat := 100
noncomputable def b_internal_stringslite_Cut : Code := (Tryd.f100.body).getD .skip
def k_internal_stringslite_Cut : Nat → List Nat := fun n => lookN n []
theorem p_internal_stringslite_Cut {args : List AV} {r : Pk} (b : Bool) (h1 : args.all AV.isD = true) (h2 : Nat.ble args.length 23 = true) (h3 : evFun (env b) orc k_internal_stringslite_Cut [.str, .str, .bool] [.tmp 4, .tmp 5, .tmp 6] 23 b_internal_stringslite_Cut args [] fun r' _ => r' = r) : orc.pc 100 args r :=
  pureC_of (envOk b) (orcOk b) Tryd.func100 (by rfl) rfl (by rfl) (by rfl) h1 (Nat.le_of_ble_eq_true h2) h3
/-- strings.IndexAny -/
def n_strings_IndexAny : Nat := 101
noncomputable def b_strings_IndexAny : Code := (Tryd.f101.body).getD .skip
def k_strings_IndexAny : Nat → List Nat := fun n => lookN n [(18, [0, 1, 5, 6, 7, 8, 45]), (12, [0, 1, 5, 6, 7, 8, 9, 10])]
theorem x_strings_IndexAny : ∃ fn, Tryd.prog.funcs[101]? = some fn ∧ (fn.name == "runtime.NumGoroutine") = false ∧ fn.body.isNone = false := ⟨_, Tryd.func101, by rfl, by rfl⟩
theorem p_strings_IndexAny {args : List AV} {r : Pk} (b : Bool) (h1 : args.all AV.isD = true) (h2 : Nat.ble args.length 55 = true) (h3 : evFun (env b) orc k_strings_IndexAny [.int .i64] [.tmp 4] 55 b_strings_IndexAny args [] fun r' _ => r' = r) : orc.pc 101 args r :=
  pureC_of (envOk b) (orcOk b) Tryd.func101 (by rfl) rfl (by rfl) (by rfl) h1 (Nat.le_of_ble_eq_true h2) h3
/-- laws.szIntSS -/
def n_l_szIntSS : Nat := 102
noncomputable def b_l_szIntSS : Code := (Tryd.f102.body).getD .skip
def k_l_szIntSS : Nat → List Nat := fun n => lookN n [(5, [0, 1, 5])]
theorem p_l_szIntSS {args : List AV} {r : Pk} (b : Bool) (h1 : args.all AV.isD = true) (h2 : Nat.ble args.length 27 = true) (h3 : evFun (env b) orc k_l_szIntSS [.int .i64] [.tmp 4] 27 b_l_szIntSS args [] fun r' _ => r' = r) : orc.pc 102 args r :=
  pureC_of (envOk b) (orcOk b) Tryd.func102 (by rfl) rfl (by rfl) (by rfl) h1 (Nat.le_of_ble_eq_true h2) h3
/-- laws.szIntS -/
def n_l_szIntS : Nat := 103
noncomputable def b_l_szIntS : Code := (Tryd.f103.body).getD .skip
def k_l_szIntS : Nat → List Nat := fun n => lookN n []
theorem p_l_szIntS {args : List AV} {r : Pk} (b : Bool) (h1 : args.all AV.isD = true) (h2 : Nat.ble args.length 12 = true) (h3 : evFun (env b) orc k_l_szIntS [.int .i64] [.tmp 4] 12 b_l_szIntS args [] fun r' _ => r' = r) : orc.pc 103 args r :=
  pureC_of (envOk b) (orcOk b) Tryd.func103 (by rfl) rfl (by rfl) (by rfl) h1 (Nat.le_of_ble_eq_true h2) h3
/-- spec.l2Sample -/
def n_s_l2Sample : Nat := 104
noncomputable def b_s_l2Sample : Code := (Tryd.f104.body).getD .skip
def k_s_l2Sample : Nat → List Nat := fun n => lookN n [(4, [0, 1, 3])]
theorem p_s_l2Sample {args : List AV} {r : Pk} (b : Bool) (h1 : args.all AV.isD = true) (h2 : Nat.ble args.length 51 = true) (h3 : evFun (env b) orc k_s_l2Sample [.bool] [.tmp 2] 51 b_s_l2Sample args [] fun r' _ => r' = r) : orc.pc 104 args r :=
  pureC_of (envOk b) (orcOk b) Tryd.func104 (by rfl) rfl (by rfl) (by rfl) h1 (Nat.le_of_ble_eq_true h2) h3
/-- spec.l2Plane -/
def n_s_l2Plane : Nat := 105
noncomputable def b_s_l2Plane : Code := (Tryd.f105.body).getD .skip
def k_s_l2Plane : Nat → List Nat := fun n => lookN n []
theorem p_s_l2Plane {args : List AV} {r : Pk} (b : Bool) (h1 : args.all AV.isD = true) (h2 : Nat.ble args.length 17 = true) (h3 : evFun (env b) orc k_s_l2Plane [.bool] [.tmp 2] 17 b_s_l2Plane args [] fun r' _ => r' = r) : orc.pc 105 args r :=
  pureC_of (envOk b) (orcOk b) Tryd.func105 (by rfl) rfl (by rfl) (by rfl) h1 (Nat.le_of_ble_eq_true h2) h3
/-- laws.toIntSS -/
def n_l_toIntSS : Nat := 106
noncomputable def b_l_toIntSS : Code := (Tryd.f106.body).getD .skip
def k_l_toIntSS : Nat → List Nat := fun n => lookN n [(3, [0, 2, 3, 4])]
theorem p_l_toIntSS {args : List AV} {r : Pk} (b : Bool) (h1 : args.all AV.isD = true) (h2 : Nat.ble args.length 23 = true) (h3 : evFun (env b) orc k_l_toIntSS [.sl (.sl (.int .i64))] [.tmp 2] 23 b_l_toIntSS args [] fun r' _ => r' = r) : orc.pc 106 args r :=
  pureC_of (envOk b) (orcOk b) Tryd.func106 (by rfl) rfl (by rfl) (by rfl) h1 (Nat.le_of_ble_eq_true h2) h3
/-- laws.toIntS -/
def n_l_toIntS : Nat := 107
noncomputable def b_l_toIntS : Code := (Tryd.f107.body).getD .skip
def k_l_toIntS : Nat → List Nat := fun n => lookN n [(3, [0, 2, 3, 4])]
theorem p_l_toIntS {args : List AV} {r : Pk} (b : Bool) (h1 : args.all AV.isD = true) (h2 : Nat.ble args.length 22 = true) (h3 : evFun (env b) orc k_l_toIntS [.sl (.int .i64)] [.tmp 2] 22 b_l_toIntS args [] fun r' _ => r' = r) : orc.pc 107 args r :=
  pureC_of (envOk b) (orcOk b) Tryd.func107 (by rfl) rfl (by rfl) (by rfl) h1 (Nat.le_of_ble_eq_true h2) h3
/-- impl.IsSample -/
def n_i_IsSample : Nat := 108
noncomputable def b_i_IsSample : Code := (Tryd.f108.body).getD .skip
def k_i_IsSample : Nat → List Nat := fun n => lookN n [(4, [0, 1, 19, 20, 21])]
theorem p_i_IsSample {args : List AV} {r : Pk} (b : Bool) (h1 : args.all AV.isD = true) (h2 : Nat.ble args.length 49 = true) (h3 : evFun (env b) orc k_i_IsSample [.bool] [.tmp 2] 49 b_i_IsSample args [] fun r' _ => r' = r) : orc.pc 108 args r :=
  pureC_of (envOk b) (orcOk b) Tryd.func108 (by rfl) rfl (by rfl) (by rfl) h1 (Nat.le_of_ble_eq_true h2) h3
/-- impl.IsPlane -/
def n_i_IsPlane : Nat := 109
noncomputable def b_i_IsPlane : Code := (Tryd.f109.body).getD .skip
def k_i_IsPlane : Nat → List Nat := fun n => lookN n []
theorem p_i_IsPlane {args : List AV} {r : Pk} (b : Bool) (h1 : args.all AV.isD = true) (h2 : Nat.ble args.length 17 = true) (h3 : evFun (env b) orc k_i_IsPlane [.bool] [.tmp 2] 17 b_i_IsPlane args [] fun r' _ => r' = r) : orc.pc 109 args r :=
  pureC_of (envOk b) (orcOk b) Tryd.func109 (by rfl) rfl (by rfl) (by rfl) h1 (Nat.le_of_ble_eq_true h2) h3
/-- laws.eqIntSS -/
def n_l_eqIntSS : Nat := 110
noncomputable def b_l_eqIntSS : Code := (Tryd.f110.body).getD .skip
def k_l_eqIntSS : Nat → List Nat := fun n => lookN n [(4, [0, 1, 5])]
theorem p_l_eqIntSS {args : List AV} {r : Pk} (b : Bool) (h1 : args.all AV.isD = true) (h2 : Nat.ble args.length 27 = true) (h3 : evFun (env b) orc k_l_eqIntSS [.bool] [.tmp 4] 27 b_l_eqIntSS args [] fun r' _ => r' = r) : orc.pc 110 args r :=
  pureC_of (envOk b) (orcOk b) Tryd.func110 (by rfl) rfl (by rfl) (by rfl) h1 (Nat.le_of_ble_eq_true h2) h3
/-- laws.eqIntS -/
def n_l_eqIntS : Nat := 111
noncomputable def b_l_eqIntS : Code := (Tryd.f111.body).getD .skip
def k_l_eqIntS : Nat → List Nat := fun n => lookN n [(4, [0, 1, 5])]
theorem p_l_eqIntS {args : List AV} {r : Pk} (b : Bool) (h1 : args.all AV.isD = true) (h2 : Nat.ble args.length 26 = true) (h3 : evFun (env b) orc k_l_eqIntS [.bool] [.tmp 4] 26 b_l_eqIntS args [] fun r' _ => r' = r) : orc.pc 111 args r :=
  pureC_of (envOk b) (orcOk b) Tryd.func111 (by rfl) rfl (by rfl) (by rfl) h1 (Nat.le_of_ble_eq_true h2) h3
/-- internal/stringslite.Index -/
def n_internal_stringslite_Index : Nat := 112
noncomputable def b_internal_stringslite_Index : Code := (Tryd.f112.body).getD .skip
def k_internal_stringslite_Index : Nat → List Nat := fun n => lookN n [(15, [0, 1, 5, 6, 7, 8, 9, 10, 16, 24, 31, 36])]
theorem p_internal_stringslite_Index {args : List AV} {r : Pk} (b : Bool) (h1 : args.all AV.isD = true) (h2 : Nat.ble args.length 143 = true) (h3 : evFun (env b) orc k_internal_stringslite_Index [.int .i64] [.tmp 4] 143 b_internal_stringslite_Index args [] fun r' _ => r' = r) : orc.pc 112 args r :=
  pureC_of (envOk b) (orcOk b) Tryd.func112 (by rfl) rfl (by rfl) (by rfl) h1 (Nat.le_of_ble_eq_true h2) h3
/-- internal/strconv.small -/
def n_internal_strconv_small : Nat := 113
noncomputable def b_internal_strconv_small : Code := (Tryd.f113.body).getD .skip
def k_internal_strconv_small : Nat → List Nat := fun n => lookN n []
theorem p_internal_strconv_small {args : List AV} {r : Pk} (b : Bool) (h1 : args.all AV.isD = true) (h2 : Nat.ble args.length 15 = true) (h3 : evFun (env b) orc k_internal_strconv_small [.str] [.tmp 2] 15 b_internal_strconv_small args [] fun r' _ => r' = r) : orc.pc 113 args r :=
  pureC_of (envOk b) (orcOk b) Tryd.func113 (by rfl) rfl (by rfl) (by rfl) h1 (Nat.le_of_ble_eq_true h2) h3
/-- internal/strconv.numDigits -/
def n_internal_strconv_numDigits : Nat := 114
noncomputable def b_internal_strconv_numDigits : Code := (Tryd.f114.body).getD .skip
def k_internal_strconv_numDigits : Nat → List Nat := fun n => lookN n []
theorem p_internal_strconv_numDigits {args : List AV} {r : Pk} (b : Bool) (h1 : args.all AV.isD = true) (h2 : Nat.ble args.length 15 = true) (h3 : evFun (env b) orc k_internal_strconv_numDigits [.int .i64] [.tmp 2] 15 b_internal_strconv_numDigits args [] fun r' _ => r' = r) : orc.pc 114 args r :=
  pureC_of (envOk b) (orcOk b) Tryd.func114 (by rfl) rfl (by rfl) (by rfl) h1 (Nat.le_of_ble_eq_true h2) h3
/-- internal/strconv.formatBase10 -/
def n_internal_strconv_formatBase10 : Nat := 115
noncomputable def b_internal_strconv_formatBase10 : Code := (Tryd.f115.body).getD .skip
def k_internal_strconv_formatBase10 : Nat → List Nat := fun n => lookN n [(1, [0, 1, 4, 12, 13, 14, 15, 16])]
theorem p_internal_strconv_formatBase10 {args : List AV} {r : Pk} (b : Bool) (h1 : args.all AV.isD = true) (h2 : Nat.ble args.length 167 = true) (h3 : evFun (env b) orc k_internal_strconv_formatBase10 [] [] 167 b_internal_strconv_formatBase10 args [] fun r' _ => r' = r) : orc.pc 115 args r :=
  pureC_of (envOk b) (orcOk b) Tryd.func115 (by rfl) rfl (by rfl) (by rfl) h1 (Nat.le_of_ble_eq_true h2) h3
/-- internal/strconv.formatBits -/
def n_internal_strconv_formatBits : Nat := 116
noncomputable def b_internal_strconv_formatBits : Code := (Tryd.f116.body).getD .skip
def k_internal_strconv_formatBits : Nat → List Nat := fun n => lookN n [(11, [0, 1, 2, 3, 4, 10, 11, 12, 13, 14, 15, 16, 17, 18]), (18, [0, 1, 2, 3, 4, 10, 11, 12, 13, 14, 15, 16, 17])]
theorem p_internal_strconv_formatBits {args : List AV} {r : Pk} (b : Bool) (h1 : args.all AV.isD = true) (h2 : Nat.ble args.length 102 = true) (h3 : evFun (env b) orc k_internal_strconv_formatBits [.sl (.int .u8), .str] [.tmp 10, .tmp 11] 102 b_internal_strconv_formatBits args [] fun r' _ => r' = r) : orc.pc 116 args r :=
  pureC_of (envOk b) (orcOk b) Tryd.func116 (by rfl) rfl (by rfl) (by rfl) h1 (Nat.le_of_ble_eq_true h2) h3
/-- strings.IndexRune -/
def n_strings_IndexRune : Nat := 117
noncomputable def b_strings_IndexRune : Code := (Tryd.f117.body).getD .skip
def k_strings_IndexRune : Nat → List Nat := fun n => lookN n [(38, [0, 1, 7, 8, 9, 10, 11, 12, 13, 14, 15, 16, 160, 171, 175, 183]), (29, [0, 1, 4, 5, 6, 7, 8, 9, 10, 11, 12, 13, 14, 15, 16, 160, 171, 183]), (25, [0, 1, 5, 6, 7, 8, 9, 10, 11, 12, 13, 14, 15, 160, 171, 183]), (12, [0, 1, 4, 5, 6, 7, 8, 9, 10, 11, 12, 13, 14, 15, 16, 160, 171, 183]), (5, [0, 1, 5, 6, 7, 8, 9, 13, 14, 15, 16, 160, 171, 183])]
theorem x_strings_IndexRune : ∃ fn, Tryd.prog.funcs[117]? = some fn ∧ (fn.name == "runtime.NumGoroutine") = false ∧ fn.body.isNone = false := ⟨_, Tryd.func117, by rfl, by rfl⟩
theorem p_strings_IndexRune {args : List AV} {r : Pk} (b : Bool) (h1 : args.all AV.isD = true) (h2 : Nat.ble args.length 187 = true) (h3 : evFun (env b) orc k_strings_IndexRune [.int .i64] [.tmp 4] 187 b_strings_IndexRune args [] fun r' _ => r' = r) : orc.pc 117 args r :=
  pureC_of (envOk b) (orcOk b) Tryd.func117 (by rfl) rfl (by rfl) (by rfl) h1 (Nat.le_of_ble_eq_true h2) h3
/-- strings.shouldUseASCIISet -/
def n_strings_shouldUseASCIISet : Nat := 118
noncomputable def b_strings_shouldUseASCIISet : Code := (Tryd.f118.body).getD .skip
def k_strings_shouldUseASCIISet : Nat → List Nat := fun n => lookN n []
theorem x_strings_shouldUseASCIISet : ∃ fn, Tryd.prog.funcs[118]? = some fn ∧ (fn.name == "runtime.NumGoroutine") = false ∧ fn.body.isNone = false := ⟨_, Tryd.func118, by rfl, by rfl⟩
theorem p_strings_shouldUseASCIISet {args : List AV} {r : Pk} (b : Bool) (h1 : args.all AV.isD = true) (h2 : Nat.ble args.length 5 = true) (h3 : evFun (env b) orc k_strings_shouldUseASCIISet [.bool] [.tmp 2] 5 b_strings_shouldUseASCIISet args [] fun r' _ => r' = r) : orc.pc 118 args r :=
  pureC_of (envOk b) (orcOk b) Tryd.func118 (by rfl) rfl (by rfl) (by rfl) h1 (Nat.le_of_ble_eq_true h2) h3
/-- (*strings.asciiSet).contains -/
def n_strings_asciiSet_contains : Nat := 120
noncomputable def b_strings_asciiSet_contains : Code := (Tryd.f120.body).getD .skip
def k_strings_asciiSet_contains : Nat → List Nat := fun n => lookN n []
theorem x_strings_asciiSet_contains : ∃ fn, Tryd.prog.funcs[120]? = some fn ∧ (fn.name == "runtime.NumGoroutine") = false ∧ fn.body.isNone = false := ⟨_, Tryd.func120, by rfl, by rfl⟩
theorem p_strings_asciiSet_contains {args : List AV} {r : Pk} (b : Bool) (h1 : args.all AV.isD = true) (h2 : Nat.ble args.length 10 = true) (h3 : evFun (env b) orc k_strings_asciiSet_contains [.bool] [.tmp 4] 10 b_strings_asciiSet_contains args [] fun r' _ => r' = r) : orc.pc 120 args r :=
  pureC_of (envOk b) (orcOk b) Tryd.func120 (by rfl) rfl (by rfl) (by rfl) h1 (Nat.le_of_ble_eq_true h2) h3
/-- spec.l2Labels -/
def n_s_l2Labels : Nat := 121
noncomputable def b_s_l2Labels : Code := (Tryd.f121.body).getD .skip
def k_s_l2Labels : Nat → List Nat := fun n => lookN n [(2, [0, 3])]
theorem p_s_l2Labels {args : List AV} {r : Pk} (b : Bool) (h1 : args.all AV.isD = true) (h2 : Nat.ble args.length 22 = true) (h3 : evFun (env b) orc k_s_l2Labels [.bool] [.tmp 2] 22 b_s_l2Labels args [] fun r' _ => r' = r) : orc.pc 121 args r :=
  pureC_of (envOk b) (orcOk b) Tryd.func121 (by rfl) rfl (by rfl) (by rfl) h1 (Nat.le_of_ble_eq_true h2) h3
/-- spec.l2Point -/
def n_s_l2Point : Nat := 122
noncomputable def b_s_l2Point : Code := (Tryd.f122.body).getD .skip
def k_s_l2Point : Nat → List Nat := fun n => lookN n []
theorem p_s_l2Point {args : List AV} {r : Pk} (b : Bool) (h1 : args.all AV.isD = true) (h2 : Nat.ble args.length 10 = true) (h3 : evFun (env b) orc k_s_l2Point [.bool] [.tmp 2] 10 b_s_l2Point args [] fun r' _ => r' = r) : orc.pc 122 args r :=
  pureC_of (envOk b) (orcOk b) Tryd.func122 (by rfl) rfl (by rfl) (by rfl) h1 (Nat.le_of_ble_eq_true h2) h3
/-- spec.l2Numbers -/
def n_s_l2Numbers : Nat := 123
noncomputable def b_s_l2Numbers : Code := (Tryd.f123.body).getD .skip
def k_s_l2Numbers : Nat → List Nat := fun n => lookN n [(2, [0, 1, 5])]
theorem p_s_l2Numbers {args : List AV} {r : Pk} (b : Bool) (h1 : args.all AV.isD = true) (h2 : Nat.ble args.length 21 = true) (h3 : evFun (env b) orc k_s_l2Numbers [.bool] [.tmp 4] 21 b_s_l2Numbers args [] fun r' _ => r' = r) : orc.pc 123 args r :=
  pureC_of (envOk b) (orcOk b) Tryd.func123 (by rfl) rfl (by rfl) (by rfl) h1 (Nat.le_of_ble_eq_true h2) h3
/-- impl.IsPoint -/
def n_i_IsPoint : Nat := 124
noncomputable def b_i_IsPoint : Code := (Tryd.f124.body).getD .skip
def k_i_IsPoint : Nat → List Nat := fun n => lookN n []
theorem p_i_IsPoint {args : List AV} {r : Pk} (b : Bool) (h1 : args.all AV.isD = true) (h2 : Nat.ble args.length 10 = true) (h3 : evFun (env b) orc k_i_IsPoint [.bool] [.tmp 2] 10 b_i_IsPoint args [] fun r' _ => r' = r) : orc.pc 124 args r :=
  pureC_of (envOk b) (orcOk b) Tryd.func124 (by rfl) rfl (by rfl) (by rfl) h1 (Nat.le_of_ble_eq_true h2) h3
/-- impl.isLabel -/
def n_i_isLabel : Nat := 125
noncomputable def b_i_isLabel : Code := (Tryd.f125.body).getD .skip
def k_i_isLabel : Nat → List Nat := fun n => lookN n []
theorem p_i_isLabel {args : List AV} {r : Pk} (b : Bool) (h1 : args.all AV.isD = true) (h2 : Nat.ble args.length 9 = true) (h3 : evFun (env b) orc k_i_isLabel [.bool] [.tmp 2] 9 b_i_isLabel args [] fun r' _ => r' = r) : orc.pc 125 args r :=
  pureC_of (envOk b) (orcOk b) Tryd.func125 (by rfl) rfl (by rfl) (by rfl) h1 (Nat.le_of_ble_eq_true h2) h3
/-- impl.allWithin -/
def n_i_allWithin : Nat := 126
noncomputable def b_i_allWithin : Code := (Tryd.f126.body).getD .skip
def k_i_allWithin : Nat → List Nat := fun n => lookN n [(2, [0, 1, 2, 9, 10, 11])]
theorem p_i_allWithin {args : List AV} {r : Pk} (b : Bool) (h1 : args.all AV.isD = true) (h2 : Nat.ble args.length 21 = true) (h3 : evFun (env b) orc k_i_allWithin [.bool] [.tmp 6] 21 b_i_allWithin args [] fun r' _ => r' = r) : orc.pc 126 args r :=
  pureC_of (envOk b) (orcOk b) Tryd.func126 (by rfl) rfl (by rfl) (by rfl) h1 (Nat.le_of_ble_eq_true h2) h3
/-- internal/stringslite.IndexByte -/
def n_internal_stringslite_IndexByte : Nat := 127
noncomputable def b_internal_stringslite_IndexByte : Code := (Tryd.f127.body).getD .skip
def k_internal_stringslite_IndexByte : Nat → List Nat := fun n => lookN n []
theorem p_internal_stringslite_IndexByte {args : List AV} {r : Pk} (b : Bool) (h1 : args.all AV.isD = true) (h2 : Nat.ble args.length 8 = true) (h3 : evFun (env b) orc k_internal_stringslite_IndexByte [.int .i64] [.tmp 4] 8 b_internal_stringslite_IndexByte args [] fun r' _ => r' = r) : orc.pc 127 args r :=
  pureC_of (envOk b) (orcOk b) Tryd.func127 (by rfl) rfl (by rfl) (by rfl) h1 (Nat.le_of_ble_eq_true h2) h3
/-- internal/bytealg.Cutover -/
def n_internal_bytealg_Cutover : Nat := 129
noncomputable def b_internal_bytealg_Cutover : Code := (Tryd.f129.body).getD .skip
def k_internal_bytealg_Cutover : Nat → List Nat := fun n => lookN n []
theorem p_internal_bytealg_Cutover {args : List AV} {r : Pk} (b : Bool) (h1 : args.all AV.isD = true) (h2 : Nat.ble args.length 6 = true) (h3 : evFun (env b) orc k_internal_bytealg_Cutover [.int .i64] [.tmp 2] 6 b_internal_bytealg_Cutover args [] fun r' _ => r' = r) : orc.pc 129 args r :=
  pureC_of (envOk b) (orcOk b) Tryd.func129 (by rfl) rfl (by rfl) (by rfl) h1 (Nat.le_of_ble_eq_true h2) h3
/-- internal/bytealg.IndexRabinKarp[string] -/
def n_internal_bytealg_IndexRabinKarp : Nat := 130
noncomputable def b_internal_bytealg_IndexRabinKarp : Code := (Tryd.f130.body).getD .skip
def k_internal_bytealg_IndexRabinKarp : Nat → List Nat := fun n => lookN n [(11, [0, 1, 5, 6, 7, 8, 9, 10]), (5, [0, 1, 4, 5, 6, 7, 8, 9, 10])]
theorem p_internal_bytealg_IndexRabinKarp {args : List AV} {r : Pk} (b : Bool) (h1 : args.all AV.isD = true) (h2 : Nat.ble args.length 81 = true) (h3 : evFun (env b) orc k_internal_bytealg_IndexRabinKarp [.int .i64] [.tmp 4] 81 b_internal_bytealg_IndexRabinKarp args [] fun r' _ => r' = r) : orc.pc 130 args r :=
  pureC_of (envOk b) (orcOk b) Tryd.func130 (by rfl) rfl (by rfl) (by rfl) h1 (Nat.le_of_ble_eq_true h2) h3
/-- internal/strconv.log10Pow2 -/
def n_internal_strconv_log10Pow2 : Nat := 131
noncomputable def b_internal_strconv_log10Pow2 : Code := (Tryd.f131.body).getD .skip
def k_internal_strconv_log10Pow2 : Nat → List Nat := fun n => lookN n []
theorem p_internal_strconv_log10Pow2 {args : List AV} {r : Pk} (b : Bool) (h1 : args.all AV.isD = true) (h2 : Nat.ble args.length 6 = true) (h3 : evFun (env b) orc k_internal_strconv_log10Pow2 [.int .i64] [.tmp 2] 6 b_internal_strconv_log10Pow2 args [] fun r' _ => r' = r) : orc.pc 131 args r :=
  pureC_of (envOk b) (orcOk b) Tryd.func131 (by rfl) rfl (by rfl) (by rfl) h1 (Nat.le_of_ble_eq_true h2) h3
/-- math/bits.Len64 -/
def n_math_bits_Len64 : Nat := 132
noncomputable def b_math_bits_Len64 : Code := (Tryd.f132.body).getD .skip
def k_math_bits_Len64 : Nat → List Nat := fun n => lookN n []
theorem p_math_bits_Len64 {args : List AV} {r : Pk} (b : Bool) (h1 : args.all AV.isD = true) (h2 : Nat.ble args.length 25 = true) (h3 : evFun (env b) orc k_math_bits_Len64 [.int .i64] [.tmp 2] 25 b_math_bits_Len64 args [] fun r' _ => r' = r) : orc.pc 132 args r :=
  pureC_of (envOk b) (orcOk b) Tryd.func132 (by rfl) rfl (by rfl) (by rfl) h1 (Nat.le_of_ble_eq_true h2) h3
/-- internal/strconv.bool2[int] -/
def n_internal_strconv_bool2 : Nat := 133
noncomputable def b_internal_strconv_bool2 : Code := (Tryd.f133.body).getD .skip
def k_internal_strconv_bool2 : Nat → List Nat := fun n => lookN n []
theorem p_internal_strconv_bool2 {args : List AV} {r : Pk} (b : Bool) (h1 : args.all AV.isD = true) (h2 : Nat.ble args.length 4 = true) (h3 : evFun (env b) orc k_internal_strconv_bool2 [.int .i64] [.tmp 2] 4 b_internal_strconv_bool2 args [] fun r' _ => r' = r) : orc.pc 133 args r :=
  pureC_of (envOk b) (orcOk b) Tryd.func133 (by rfl) rfl (by rfl) (by rfl) h1 (Nat.le_of_ble_eq_true h2) h3
/-- internal/strconv.isPowerOfTwo -/
def n_internal_strconv_isPowerOfTwo : Nat := 134
noncomputable def b_internal_strconv_isPowerOfTwo : Code := (Tryd.f134.body).getD .skip
def k_internal_strconv_isPowerOfTwo : Nat → List Nat := fun n => lookN n []
theorem p_internal_strconv_isPowerOfTwo {args : List AV} {r : Pk} (b : Bool) (h1 : args.all AV.isD = true) (h2 : Nat.ble args.length 8 = true) (h3 : evFun (env b) orc k_internal_strconv_isPowerOfTwo [.bool] [.tmp 2] 8 b_internal_strconv_isPowerOfTwo args [] fun r' _ => r' = r) : orc.pc 134 args r :=
  pureC_of (envOk b) (orcOk b) Tryd.func134 (by rfl) rfl (by rfl) (by rfl) h1 (Nat.le_of_ble_eq_true h2) h3
/-- math/bits.TrailingZeros -/
def n_math_bits_TrailingZeros : Nat := 135
noncomputable def b_math_bits_TrailingZeros : Code := (Tryd.f135.body).getD .skip
def k_math_bits_TrailingZeros : Nat → List Nat := fun n => lookN n []
theorem p_math_bits_TrailingZeros {args : List AV} {r : Pk} (b : Bool) (h1 : args.all AV.isD = true) (h2 : Nat.ble args.length 8 = true) (h3 : evFun (env b) orc k_math_bits_TrailingZeros [.int .i64] [.tmp 2] 8 b_math_bits_TrailingZeros args [] fun r' _ => r' = r) : orc.pc 135 args r :=
  pureC_of (envOk b) (orcOk b) Tryd.func135 (by rfl) rfl (by rfl) (by rfl) h1 (Nat.le_of_ble_eq_true h2) h3
/-- strings.IndexByte -/
def n_strings_IndexByte : Nat := 136
noncomputable def b_strings_IndexByte : Code := (Tryd.f136.body).getD .skip
def k_strings_IndexByte : Nat → List Nat := fun n => lookN n []
theorem x_strings_IndexByte : ∃ fn, Tryd.prog.funcs[136]? = some fn ∧ (fn.name == "runtime.NumGoroutine") = false ∧ fn.body.isNone = false := ⟨_, Tryd.func136, by rfl, by rfl⟩
theorem p_strings_IndexByte {args : List AV} {r : Pk} (b : Bool) (h1 : args.all AV.isD = true) (h2 : Nat.ble args.length 8 = true) (h3 : evFun (env b) orc k_strings_IndexByte [.int .i64] [.tmp 4] 8 b_strings_IndexByte args [] fun r' _ => r' = r) : orc.pc 136 args r :=
  pureC_of (envOk b) (orcOk b) Tryd.func136 (by rfl) rfl (by rfl) (by rfl) h1 (Nat.le_of_ble_eq_true h2) h3
/-- unicode/utf8.ValidRune -/
def n_unicode_utf8_ValidRune : Nat := 137
noncomputable def b_unicode_utf8_ValidRune : Code := (Tryd.f137.body).getD .skip
def k_unicode_utf8_ValidRune : Nat → List Nat := fun n => lookN n []
theorem p_unicode_utf8_ValidRune {args : List AV} {r : Pk} (b : Bool) (h1 : args.all AV.isD = true) (h2 : Nat.ble args.length 17 = true) (h3 : evFun (env b) orc k_unicode_utf8_ValidRune [.bool] [.tmp 2] 17 b_unicode_utf8_ValidRune args [] fun r' _ => r' = r) : orc.pc 137 args r :=
  pureC_of (envOk b) (orcOk b) Tryd.func137 (by rfl) rfl (by rfl) (by rfl) h1 (Nat.le_of_ble_eq_true h2) h3
/-- internal/bytealg.hashStr[string] -/
def n_internal_bytealg_hashStr : Nat := 139
noncomputable def b_internal_bytealg_hashStr : Code := (Tryd.f139.body).getD .skip
def k_internal_bytealg_hashStr : Nat → List Nat := fun n => lookN n [(8, [0, 2, 3, 4, 5, 6, 7, 8]), (3, [0, 2, 3, 4, 5, 6, 7, 8])]
theorem p_internal_bytealg_hashStr {args : List AV} {r : Pk} (b : Bool) (h1 : args.all AV.isD = true) (h2 : Nat.ble args.length 39 = true) (h3 : evFun (env b) orc k_internal_bytealg_hashStr [.int .u32, .int .u32] [.tmp 2, .tmp 3] 39 b_internal_bytealg_hashStr args [] fun r' _ => r' = r) : orc.pc 139 args r :=
  pureC_of (envOk b) (orcOk b) Tryd.func139 (by rfl) rfl (by rfl) (by rfl) h1 (Nat.le_of_ble_eq_true h2) h3
/-- math/bits.TrailingZeros32 -/
def n_math_bits_TrailingZeros32 : Nat := 140
noncomputable def b_math_bits_TrailingZeros32 : Code := (Tryd.f140.body).getD .skip
def k_math_bits_TrailingZeros32 : Nat → List Nat := fun n => lookN n []
theorem p_math_bits_TrailingZeros32 {args : List AV} {r : Pk} (b : Bool) (h1 : args.all AV.isD = true) (h2 : Nat.ble args.length 14 = true) (h3 : evFun (env b) orc k_math_bits_TrailingZeros32 [.int .i64] [.tmp 2] 14 b_math_bits_TrailingZeros32 args [] fun r' _ => r' = r) : orc.pc 140 args r :=
  pureC_of (envOk b) (orcOk b) Tryd.func140 (by rfl) rfl (by rfl) (by rfl) h1 (Nat.le_of_ble_eq_true h2) h3
/-- math/bits.TrailingZeros64 -/
def n_math_bits_TrailingZeros64 : Nat := 141
noncomputable def b_math_bits_TrailingZeros64 : Code := (Tryd.f141.body).getD .skip
def k_math_bits_TrailingZeros64 : Nat → List Nat := fun n => lookN n []
theorem p_math_bits_TrailingZeros64 {args : List AV} {r : Pk} (b : Bool) (h1 : args.all AV.isD = true) (h2 : Nat.ble args.length 14 = true) (h3 : evFun (env b) orc k_math_bits_TrailingZeros64 [.int .i64] [.tmp 2] 14 b_math_bits_TrailingZeros64 args [] fun r' _ => r' = r) : orc.pc 141 args r :=
  pureC_of (envOk b) (orcOk b) Tryd.func141 (by rfl) rfl (by rfl) (by rfl) h1 (Nat.le_of_ble_eq_true h2) h3
end Go.Proofs.YthgjpoeneihmnaaDoor.Ev
