/- PRINTED BY gen.py (own program): what the proofs need of each function: its body, its loops' live slots, its results' shapes. -/
import Derived.Test.YtgebhckfdcajoaaTab
namespace Go.Proofs.Ytgebhckfdcajoaa.Ev
open Go
/-- laws.FnExactNewSchool -/
def n_l_FnExactNewSchool : Nat := 3
noncomputable def b_l_FnExactNewSchool : Code := (Try.f3.body).getD .skip
def k_l_FnExactNewSchool : Nat → List Nat := fun n => lookN n []
theorem p_l_FnExactNewSchool {args : List AV} {r : Pk} (b : Bool) (h1 : args.all AV.isD = true) (h2 : Nat.ble args.length 63 = true) (h3 : evFun (env b) orc k_l_FnExactNewSchool [.bool] [.tmp 2] 63 b_l_FnExactNewSchool args [] fun r' _ => r' = r) : orc.pc 3 args r :=
  pureC_of (envOk b) (orcOk b) Try.func3 (by rfl) rfl (by rfl) (by rfl) h1 (Nat.le_of_ble_eq_true h2) h3
/-- spec.NewSchool -/
def n_s_NewSchool : Nat := 15
noncomputable def b_s_NewSchool : Code := (Try.f15.body).getD .skip
def k_s_NewSchool : Nat → List Nat := fun n => lookN n []
theorem p_s_NewSchool {args : List AV} {r : Pk} (b : Bool) (h1 : args.all AV.isD = true) (h2 : Nat.ble args.length 13 = true) (h3 : evFun (env b) orc k_s_NewSchool [.pair (.pair (.sl (.sl (.int .i64))) (.pair (.sl (.int .i64)) (.unit))) (.pair (.pair (.sl (.int .i64)) (.pair (.int .i64) (.unit))) (.pair (.int .i64) (.pair (.int .i64) (.unit)))), .bool] [.cell 2 29, .tmp 3] 13 b_s_NewSchool args [] fun r' _ => r' = r) : orc.pc 15 args r :=
  pureC_of (envOk b) (orcOk b) Try.func15 (by rfl) rfl (by rfl) (by rfl) h1 (Nat.le_of_ble_eq_true h2) h3
/-- impl.NewSchool -/
def n_i_NewSchool : Nat := 16
noncomputable def b_i_NewSchool : Code := (Try.f16.body).getD .skip
def k_i_NewSchool : Nat → List Nat := fun n => lookN n []
theorem p_i_NewSchool {args : List AV} {r : Pk} (b : Bool) (h1 : args.all AV.isD = true) (h2 : Nat.ble args.length 12 = true) (h3 : evFun (env b) orc k_i_NewSchool [.pair (.pair (.sl (.sl (.int .i64))) (.pair (.sl (.int .i64)) (.unit))) (.pair (.pair (.sl (.int .i64)) (.pair (.int .i64) (.unit))) (.pair (.int .i64) (.pair (.int .i64) (.unit)))), .bool] [.cell 2 29, .tmp 3] 12 b_i_NewSchool args [] fun r' _ => r' = r) : orc.pc 16 args r :=
  pureC_of (envOk b) (orcOk b) Try.func16 (by rfl) rfl (by rfl) (by rfl) h1 (Nat.le_of_ble_eq_true h2) h3
/-- laws.eqSchool -/
def n_l_eqSchool : Nat := 17
noncomputable def b_l_eqSchool : Code := (Try.f17.body).getD .skip
def k_l_eqSchool : Nat → List Nat := fun n => lookN n []
theorem p_l_eqSchool {args : List AV} {r : Pk} (b : Bool) (h1 : args.all AV.isD = true) (h2 : Nat.ble args.length 27 = true) (h3 : evFun (env b) orc k_l_eqSchool [.bool] [.tmp 4] 27 b_l_eqSchool args [] fun r' _ => r' = r) : orc.pc 17 args r :=
  pureC_of (envOk b) (orcOk b) Try.func17 (by rfl) rfl (by rfl) (by rfl) h1 (Nat.le_of_ble_eq_true h2) h3
/-- laws.markSchool -/
def n_l_markSchool : Nat := 18
noncomputable def b_l_markSchool : Code := (Try.f18.body).getD .skip
def k_l_markSchool : Nat → List Nat := fun n => lookN n []
theorem p_l_markSchool {vs : List AV} {st : St} {r : Pk} {st2 : St} (b : Bool) (hst : 0 < st.length) (h1 : vs.all (fun v => !v.isBad) = true) (h2 : Nat.ble vs.length 14 = true) (h3 : evFun (env b) orc k_l_markSchool [.int .i64] [.tmp 4] 14 b_l_markSchool (vs.map AV.inner) st fun r' st' => r' = r ∧ st' = st2) : orc.ic 18 vs st r st2 :=
  inlC_of (envOk b) (orcOk b) Try.func18 (by rfl) rfl (by rfl) (by rfl) hst h1 (Nat.le_of_ble_eq_true h2) h3
/-- laws.heldSchool -/
def n_l_heldSchool : Nat := 19
noncomputable def b_l_heldSchool : Code := (Try.f19.body).getD .skip
def k_l_heldSchool : Nat → List Nat := fun n => lookN n []
theorem p_l_heldSchool {args : List AV} {r : Pk} (b : Bool) (h1 : args.all AV.isD = true) (h2 : Nat.ble args.length 18 = true) (h3 : evFun (env b) orc k_l_heldSchool [.int .i64] [.tmp 4] 18 b_l_heldSchool args [] fun r' _ => r' = r) : orc.pc 19 args r :=
  pureC_of (envOk b) (orcOk b) Try.func19 (by rfl) rfl (by rfl) (by rfl) h1 (Nat.le_of_ble_eq_true h2) h3
/-- laws.eqPlane -/
def n_l_eqPlane : Nat := 25
noncomputable def b_l_eqPlane : Code := (Try.f25.body).getD .skip
def k_l_eqPlane : Nat → List Nat := fun n => lookN n []
theorem p_l_eqPlane {args : List AV} {r : Pk} (b : Bool) (h1 : args.all AV.isD = true) (h2 : Nat.ble args.length 16 = true) (h3 : evFun (env b) orc k_l_eqPlane [.bool] [.tmp 4] 16 b_l_eqPlane args [] fun r' _ => r' = r) : orc.pc 25 args r :=
  pureC_of (envOk b) (orcOk b) Try.func25 (by rfl) rfl (by rfl) (by rfl) h1 (Nat.le_of_ble_eq_true h2) h3
/-- laws.eqIntS -/
def n_l_eqIntS : Nat := 26
noncomputable def b_l_eqIntS : Code := (Try.f26.body).getD .skip
def k_l_eqIntS : Nat → List Nat := fun n => lookN n [(4, [0, 1, 5])]
theorem p_l_eqIntS {args : List AV} {r : Pk} (b : Bool) (h1 : args.all AV.isD = true) (h2 : Nat.ble args.length 26 = true) (h3 : evFun (env b) orc k_l_eqIntS [.bool] [.tmp 4] 26 b_l_eqIntS args [] fun r' _ => r' = r) : orc.pc 26 args r :=
  pureC_of (envOk b) (orcOk b) Try.func26 (by rfl) rfl (by rfl) (by rfl) h1 (Nat.le_of_ble_eq_true h2) h3
/-- laws.markPlane -/
def n_l_markPlane : Nat := 27
noncomputable def b_l_markPlane : Code := (Try.f27.body).getD .skip
def k_l_markPlane : Nat → List Nat := fun n => lookN n []
theorem p_l_markPlane {vs : List AV} {st : St} {r : Pk} {st2 : St} (b : Bool) (hst : 0 < st.length) (h1 : vs.all (fun v => !v.isBad) = true) (h2 : Nat.ble vs.length 10 = true) (h3 : evFun (env b) orc k_l_markPlane [.int .i64] [.tmp 4] 10 b_l_markPlane (vs.map AV.inner) st fun r' st' => r' = r ∧ st' = st2) : orc.ic 27 vs st r st2 :=
  inlC_of (envOk b) (orcOk b) Try.func27 (by rfl) rfl (by rfl) (by rfl) hst h1 (Nat.le_of_ble_eq_true h2) h3
/-- laws.markIntS -/
def n_l_markIntS : Nat := 28
noncomputable def b_l_markIntS : Code := (Try.f28.body).getD .skip
def k_l_markIntS : Nat → List Nat := fun n => lookN n [(2, [0, 1, 4, 5])]
theorem p_l_markIntS {vs : List AV} {st : St} {r : Pk} {st2 : St} (b : Bool) (hst : 0 < st.length) (h1 : vs.all (fun v => !v.isBad) = true) (h2 : Nat.ble vs.length 19 = true) (h3 : evFun (env b) orc k_l_markIntS [.int .i64] [.tmp 4] 19 b_l_markIntS (vs.map AV.inner) st fun r' st' => r' = r ∧ st' = st2) : orc.ic 28 vs st r st2 :=
  inlC_of (envOk b) (orcOk b) Try.func28 (by rfl) rfl (by rfl) (by rfl) hst h1 (Nat.le_of_ble_eq_true h2) h3
/-- laws.heldPlane -/
def n_l_heldPlane : Nat := 29
noncomputable def b_l_heldPlane : Code := (Try.f29.body).getD .skip
def k_l_heldPlane : Nat → List Nat := fun n => lookN n []
theorem p_l_heldPlane {args : List AV} {r : Pk} (b : Bool) (h1 : args.all AV.isD = true) (h2 : Nat.ble args.length 12 = true) (h3 : evFun (env b) orc k_l_heldPlane [.int .i64] [.tmp 4] 12 b_l_heldPlane args [] fun r' _ => r' = r) : orc.pc 29 args r :=
  pureC_of (envOk b) (orcOk b) Try.func29 (by rfl) rfl (by rfl) (by rfl) h1 (Nat.le_of_ble_eq_true h2) h3
/-- laws.eqSample -/
def n_l_eqSample : Nat := 42
noncomputable def b_l_eqSample : Code := (Try.f42.body).getD .skip
def k_l_eqSample : Nat → List Nat := fun n => lookN n []
theorem p_l_eqSample {args : List AV} {r : Pk} (b : Bool) (h1 : args.all AV.isD = true) (h2 : Nat.ble args.length 17 = true) (h3 : evFun (env b) orc k_l_eqSample [.bool] [.tmp 4] 17 b_l_eqSample args [] fun r' _ => r' = r) : orc.pc 42 args r :=
  pureC_of (envOk b) (orcOk b) Try.func42 (by rfl) rfl (by rfl) (by rfl) h1 (Nat.le_of_ble_eq_true h2) h3
/-- laws.markSample -/
def n_l_markSample : Nat := 43
noncomputable def b_l_markSample : Code := (Try.f43.body).getD .skip
def k_l_markSample : Nat → List Nat := fun n => lookN n []
theorem p_l_markSample {vs : List AV} {st : St} {r : Pk} {st2 : St} (b : Bool) (hst : 0 < st.length) (h1 : vs.all (fun v => !v.isBad) = true) (h2 : Nat.ble vs.length 14 = true) (h3 : evFun (env b) orc k_l_markSample [.int .i64] [.tmp 4] 14 b_l_markSample (vs.map AV.inner) st fun r' st' => r' = r ∧ st' = st2) : orc.ic 43 vs st r st2 :=
  inlC_of (envOk b) (orcOk b) Try.func43 (by rfl) rfl (by rfl) (by rfl) hst h1 (Nat.le_of_ble_eq_true h2) h3
/-- laws.heldSample -/
def n_l_heldSample : Nat := 44
noncomputable def b_l_heldSample : Code := (Try.f44.body).getD .skip
def k_l_heldSample : Nat → List Nat := fun n => lookN n []
theorem p_l_heldSample {args : List AV} {r : Pk} (b : Bool) (h1 : args.all AV.isD = true) (h2 : Nat.ble args.length 18 = true) (h3 : evFun (env b) orc k_l_heldSample [.int .i64] [.tmp 4] 18 b_l_heldSample args [] fun r' _ => r' = r) : orc.pc 44 args r :=
  pureC_of (envOk b) (orcOk b) Try.func44 (by rfl) rfl (by rfl) (by rfl) h1 (Nat.le_of_ble_eq_true h2) h3
/-- laws.heldIntS -/
def n_l_heldIntS : Nat := 70
noncomputable def b_l_heldIntS : Code := (Try.f70.body).getD .skip
def k_l_heldIntS : Nat → List Nat := fun n => lookN n [(2, [0, 1, 5])]
theorem p_l_heldIntS {args : List AV} {r : Pk} (b : Bool) (h1 : args.all AV.isD = true) (h2 : Nat.ble args.length 21 = true) (h3 : evFun (env b) orc k_l_heldIntS [.int .i64] [.tmp 4] 21 b_l_heldIntS args [] fun r' _ => r' = r) : orc.pc 70 args r :=
  pureC_of (envOk b) (orcOk b) Try.func70 (by rfl) rfl (by rfl) (by rfl) h1 (Nat.le_of_ble_eq_true h2) h3
/-- spec.l1In -/
def n_s_l1In : Nat := 75
noncomputable def b_s_l1In : Code := (Try.f75.body).getD .skip
def k_s_l1In : Nat → List Nat := fun n => lookN n []
theorem p_s_l1In {args : List AV} {r : Pk} (b : Bool) (h1 : args.all AV.isD = true) (h2 : Nat.ble args.length 15 = true) (h3 : evFun (env b) orc k_s_l1In [.bool] [.tmp 6] 15 b_s_l1In args [] fun r' _ => r' = r) : orc.pc 75 args r :=
  pureC_of (envOk b) (orcOk b) Try.func75 (by rfl) rfl (by rfl) (by rfl) h1 (Nat.le_of_ble_eq_true h2) h3
/-- spec.l12Own -/
def n_s_l12Own : Nat := 76
noncomputable def b_s_l12Own : Code := (Try.f76.body).getD .skip
def k_s_l12Own : Nat → List Nat := fun n => lookN n [(4, [0, 1, 2, 3, 4])]
theorem p_s_l12Own {args : List AV} {r : Pk} (b : Bool) (h1 : args.all AV.isD = true) (h2 : Nat.ble args.length 42 = true) (h3 : evFun (env b) orc k_s_l12Own [.pair (.pair (.sl (.sl (.int .i64))) (.pair (.sl (.int .i64)) (.unit))) (.pair (.pair (.sl (.int .i64)) (.pair (.int .i64) (.unit))) (.pair (.int .i64) (.pair (.int .i64) (.unit))))] [.cell 2 29] 42 b_s_l12Own args [] fun r' _ => r' = r) : orc.pc 76 args r :=
  pureC_of (envOk b) (orcOk b) Try.func76 (by rfl) rfl (by rfl) (by rfl) h1 (Nat.le_of_ble_eq_true h2) h3
/-- impl.within -/
def n_i_within : Nat := 77
noncomputable def b_i_within : Code := (Try.f77.body).getD .skip
def k_i_within : Nat → List Nat := fun n => lookN n []
theorem p_i_within {args : List AV} {r : Pk} (b : Bool) (h1 : args.all AV.isD = true) (h2 : Nat.ble args.length 15 = true) (h3 : evFun (env b) orc k_i_within [.bool] [.tmp 6] 15 b_i_within args [] fun r' _ => r' = r) : orc.pc 77 args r :=
  pureC_of (envOk b) (orcOk b) Try.func77 (by rfl) rfl (by rfl) (by rfl) h1 (Nat.le_of_ble_eq_true h2) h3
/-- spec.l1Own -/
def n_s_l1Own : Nat := 83
noncomputable def b_s_l1Own : Code := (Try.f83.body).getD .skip
def k_s_l1Own : Nat → List Nat := fun n => lookN n []
theorem p_s_l1Own {args : List AV} {r : Pk} (b : Bool) (h1 : args.all AV.isD = true) (h2 : Nat.ble args.length 6 = true) (h3 : evFun (env b) orc k_s_l1Own [.sl (.int .i64)] [.tmp 2] 6 b_s_l1Own args [] fun r' _ => r' = r) : orc.pc 83 args r :=
  pureC_of (envOk b) (orcOk b) Try.func83 (by rfl) rfl (by rfl) (by rfl) h1 (Nat.le_of_ble_eq_true h2) h3
/-- laws.eqIntSS -/
def n_l_eqIntSS : Nat := 99
noncomputable def b_l_eqIntSS : Code := (Try.f99.body).getD .skip
def k_l_eqIntSS : Nat → List Nat := fun n => lookN n [(4, [0, 1, 5])]
theorem p_l_eqIntSS {args : List AV} {r : Pk} (b : Bool) (h1 : args.all AV.isD = true) (h2 : Nat.ble args.length 27 = true) (h3 : evFun (env b) orc k_l_eqIntSS [.bool] [.tmp 4] 27 b_l_eqIntSS args [] fun r' _ => r' = r) : orc.pc 99 args r :=
  pureC_of (envOk b) (orcOk b) Try.func99 (by rfl) rfl (by rfl) (by rfl) h1 (Nat.le_of_ble_eq_true h2) h3
/-- laws.markIntSS -/
def n_l_markIntSS : Nat := 100
noncomputable def b_l_markIntSS : Code := (Try.f100.body).getD .skip
def k_l_markIntSS : Nat → List Nat := fun n => lookN n [(2, [0, 1, 4, 5])]
theorem p_l_markIntSS {vs : List AV} {st : St} {r : Pk} {st2 : St} (b : Bool) (hst : 0 < st.length) (h1 : vs.all (fun v => !v.isBad) = true) (h2 : Nat.ble vs.length 19 = true) (h3 : evFun (env b) orc k_l_markIntSS [.int .i64] [.tmp 4] 19 b_l_markIntSS (vs.map AV.inner) st fun r' st' => r' = r ∧ st' = st2) : orc.ic 100 vs st r st2 :=
  inlC_of (envOk b) (orcOk b) Try.func100 (by rfl) rfl (by rfl) (by rfl) hst h1 (Nat.le_of_ble_eq_true h2) h3
/-- laws.heldIntSS -/
def n_l_heldIntSS : Nat := 101
noncomputable def b_l_heldIntSS : Code := (Try.f101.body).getD .skip
def k_l_heldIntSS : Nat → List Nat := fun n => lookN n [(2, [0, 1, 5])]
theorem p_l_heldIntSS {args : List AV} {r : Pk} (b : Bool) (h1 : args.all AV.isD = true) (h2 : Nat.ble args.length 21 = true) (h3 : evFun (env b) orc k_l_heldIntSS [.int .i64] [.tmp 4] 21 b_l_heldIntSS args [] fun r' _ => r' = r) : orc.pc 101 args r :=
  pureC_of (envOk b) (orcOk b) Try.func101 (by rfl) rfl (by rfl) (by rfl) h1 (Nat.le_of_ble_eq_true h2) h3
end Go.Proofs.Ytgebhckfdcajoaa.Ev
