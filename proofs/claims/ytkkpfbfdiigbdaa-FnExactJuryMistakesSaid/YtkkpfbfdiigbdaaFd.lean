/- PRINTED BY gen.py (own program): what the proofs need of each function: its body, its loops' live slots, its results' shapes. -/
import Derived.Test.YtkkpfbfdiigbdaaTab
namespace Go.Proofs.Ytkkpfbfdiigbdaa.Ev
open Go
/-- laws.FnExactChoiceMistakes -/
def n_l_FnExactChoiceMistakes : Nat := 3
noncomputable def b_l_FnExactChoiceMistakes : Code := (Try.f3.body).getD .skip
def k_l_FnExactChoiceMistakes : Nat → List Nat := fun n => lookN n []
theorem p_l_FnExactChoiceMistakes {args : List AV} {r : Pk} (b : Bool) (h1 : args.all AV.isD = true) (h2 : Nat.ble args.length 165 = true) (h3 : evFun (env b) orc k_l_FnExactChoiceMistakes [.bool] [.tmp 8] 165 b_l_FnExactChoiceMistakes args [] fun r' _ => r' = r) : orc.pc 3 args r :=
  pureC_of (envOk b) (orcOk b) Try.func3 (by rfl) rfl (by rfl) (by rfl) h1 (Nat.le_of_ble_eq_true h2) h3
/-- laws.FnExactJuryMistakes -/
def n_l_FnExactJuryMistakes : Nat := 4
noncomputable def b_l_FnExactJuryMistakes : Code := (Try.f4.body).getD .skip
def k_l_FnExactJuryMistakes : Nat → List Nat := fun n => lookN n []
theorem p_l_FnExactJuryMistakes {args : List AV} {r : Pk} (b : Bool) (h1 : args.all AV.isD = true) (h2 : Nat.ble args.length 119 = true) (h3 : evFun (env b) orc k_l_FnExactJuryMistakes [.bool] [.tmp 4] 119 b_l_FnExactJuryMistakes args [] fun r' _ => r' = r) : orc.pc 4 args r :=
  pureC_of (envOk b) (orcOk b) Try.func4 (by rfl) rfl (by rfl) (by rfl) h1 (Nat.le_of_ble_eq_true h2) h3
/-- laws.szSample -/
def n_l_szSample : Nat := 5
noncomputable def b_l_szSample : Code := (Try.f5.body).getD .skip
def k_l_szSample : Nat → List Nat := fun n => lookN n []
theorem p_l_szSample {args : List AV} {r : Pk} (b : Bool) (h1 : args.all AV.isD = true) (h2 : Nat.ble args.length 18 = true) (h3 : evFun (env b) orc k_l_szSample [.int .i64] [.tmp 4] 18 b_l_szSample args [] fun r' _ => r' = r) : orc.pc 5 args r :=
  pureC_of (envOk b) (orcOk b) Try.func5 (by rfl) rfl (by rfl) (by rfl) h1 (Nat.le_of_ble_eq_true h2) h3
/-- laws.szPlane -/
def n_l_szPlane : Nat := 6
noncomputable def b_l_szPlane : Code := (Try.f6.body).getD .skip
def k_l_szPlane : Nat → List Nat := fun n => lookN n []
theorem p_l_szPlane {args : List AV} {r : Pk} (b : Bool) (h1 : args.all AV.isD = true) (h2 : Nat.ble args.length 12 = true) (h3 : evFun (env b) orc k_l_szPlane [.int .i64] [.tmp 4] 12 b_l_szPlane args [] fun r' _ => r' = r) : orc.pc 6 args r :=
  pureC_of (envOk b) (orcOk b) Try.func6 (by rfl) rfl (by rfl) (by rfl) h1 (Nat.le_of_ble_eq_true h2) h3
/-- spec.ChoiceMistakes -/
def n_s_ChoiceMistakes : Nat := 7
noncomputable def b_s_ChoiceMistakes : Code := (Try.f7.body).getD .skip
def k_s_ChoiceMistakes : Nat → List Nat := fun n => lookN n []
theorem p_s_ChoiceMistakes {args : List AV} {r : Pk} (b : Bool) (h1 : args.all AV.isD = true) (h2 : Nat.ble args.length 32 = true) (h3 : evFun (env b) orc k_s_ChoiceMistakes [.sl (.int .i64), .bool] [.tmp 8, .tmp 9] 32 b_s_ChoiceMistakes args [] fun r' _ => r' = r) : orc.pc 7 args r :=
  pureC_of (envOk b) (orcOk b) Try.func7 (by rfl) rfl (by rfl) (by rfl) h1 (Nat.le_of_ble_eq_true h2) h3
/-- laws.toSample -/
def n_l_toSample : Nat := 8
noncomputable def b_l_toSample : Code := (Try.f8.body).getD .skip
def k_l_toSample : Nat → List Nat := fun n => lookN n []
theorem p_l_toSample {args : List AV} {r : Pk} (b : Bool) (h1 : args.all AV.isD = true) (h2 : Nat.ble args.length 13 = true) (h3 : evFun (env b) orc k_l_toSample [.pair (.sl (.sl (.int .i64))) (.pair (.sl (.int .i64)) (.unit))] [.cell 2 32] 13 b_l_toSample args [] fun r' _ => r' = r) : orc.pc 8 args r :=
  pureC_of (envOk b) (orcOk b) Try.func8 (by rfl) rfl (by rfl) (by rfl) h1 (Nat.le_of_ble_eq_true h2) h3
/-- laws.toPlane -/
def n_l_toPlane : Nat := 9
noncomputable def b_l_toPlane : Code := (Try.f9.body).getD .skip
def k_l_toPlane : Nat → List Nat := fun n => lookN n []
theorem p_l_toPlane {args : List AV} {r : Pk} (b : Bool) (h1 : args.all AV.isD = true) (h2 : Nat.ble args.length 12 = true) (h3 : evFun (env b) orc k_l_toPlane [.pair (.sl (.int .i64)) (.pair (.int .i64) (.unit))] [.cell 2 34] 12 b_l_toPlane args [] fun r' _ => r' = r) : orc.pc 9 args r :=
  pureC_of (envOk b) (orcOk b) Try.func9 (by rfl) rfl (by rfl) (by rfl) h1 (Nat.le_of_ble_eq_true h2) h3
/-- impl.ChoiceMistakes -/
def n_i_ChoiceMistakes : Nat := 10
noncomputable def b_i_ChoiceMistakes : Code := (Try.f10.body).getD .skip
def k_i_ChoiceMistakes : Nat → List Nat := fun n => lookN n []
theorem p_i_ChoiceMistakes {args : List AV} {r : Pk} (b : Bool) (h1 : args.all AV.isD = true) (h2 : Nat.ble args.length 29 = true) (h3 : evFun (env b) orc k_i_ChoiceMistakes [.sl (.int .i64), .bool] [.tmp 8, .tmp 9] 29 b_i_ChoiceMistakes args [] fun r' _ => r' = r) : orc.pc 10 args r :=
  pureC_of (envOk b) (orcOk b) Try.func10 (by rfl) rfl (by rfl) (by rfl) h1 (Nat.le_of_ble_eq_true h2) h3
/-- laws.eqIntS -/
def n_l_eqIntS : Nat := 11
noncomputable def b_l_eqIntS : Code := (Try.f11.body).getD .skip
def k_l_eqIntS : Nat → List Nat := fun n => lookN n [(4, [0, 1, 5])]
theorem p_l_eqIntS {args : List AV} {r : Pk} (b : Bool) (h1 : args.all AV.isD = true) (h2 : Nat.ble args.length 26 = true) (h3 : evFun (env b) orc k_l_eqIntS [.bool] [.tmp 4] 26 b_l_eqIntS args [] fun r' _ => r' = r) : orc.pc 11 args r :=
  pureC_of (envOk b) (orcOk b) Try.func11 (by rfl) rfl (by rfl) (by rfl) h1 (Nat.le_of_ble_eq_true h2) h3
/-- laws.eqSample -/
def n_l_eqSample : Nat := 12
noncomputable def b_l_eqSample : Code := (Try.f12.body).getD .skip
def k_l_eqSample : Nat → List Nat := fun n => lookN n []
theorem p_l_eqSample {args : List AV} {r : Pk} (b : Bool) (h1 : args.all AV.isD = true) (h2 : Nat.ble args.length 17 = true) (h3 : evFun (env b) orc k_l_eqSample [.bool] [.tmp 4] 17 b_l_eqSample args [] fun r' _ => r' = r) : orc.pc 12 args r :=
  pureC_of (envOk b) (orcOk b) Try.func12 (by rfl) rfl (by rfl) (by rfl) h1 (Nat.le_of_ble_eq_true h2) h3
/-- laws.eqPlane -/
def n_l_eqPlane : Nat := 13
noncomputable def b_l_eqPlane : Code := (Try.f13.body).getD .skip
def k_l_eqPlane : Nat → List Nat := fun n => lookN n []
theorem p_l_eqPlane {args : List AV} {r : Pk} (b : Bool) (h1 : args.all AV.isD = true) (h2 : Nat.ble args.length 16 = true) (h3 : evFun (env b) orc k_l_eqPlane [.bool] [.tmp 4] 16 b_l_eqPlane args [] fun r' _ => r' = r) : orc.pc 13 args r :=
  pureC_of (envOk b) (orcOk b) Try.func13 (by rfl) rfl (by rfl) (by rfl) h1 (Nat.le_of_ble_eq_true h2) h3
/-- laws.markSample -/
def n_l_markSample : Nat := 14
noncomputable def b_l_markSample : Code := (Try.f14.body).getD .skip
def k_l_markSample : Nat → List Nat := fun n => lookN n []
theorem p_l_markSample {vs : List AV} {st : St} {r : AV} {st2 : St} (b : Bool) (hst : 0 < st.length) (h1 : vs.all (fun v => !v.isBad) = true) (h2 : Nat.ble vs.length 14 = true) (h3 : evInl (env b) orc k_l_markSample [.int .i64] [.tmp 4] 14 b_l_markSample (vs.map AV.inner) st fun r' st' => r' = r ∧ st' = st2) : orc.ic 14 vs st r st2 :=
  inlC_of (envOk b) (orcOk b) Try.func14 (by rfl) rfl (by rfl) (by rfl) hst h1 (Nat.le_of_ble_eq_true h2) h3
/-- laws.markPlane -/
def n_l_markPlane : Nat := 15
noncomputable def b_l_markPlane : Code := (Try.f15.body).getD .skip
def k_l_markPlane : Nat → List Nat := fun n => lookN n []
theorem p_l_markPlane {vs : List AV} {st : St} {r : AV} {st2 : St} (b : Bool) (hst : 0 < st.length) (h1 : vs.all (fun v => !v.isBad) = true) (h2 : Nat.ble vs.length 10 = true) (h3 : evInl (env b) orc k_l_markPlane [.int .i64] [.tmp 4] 10 b_l_markPlane (vs.map AV.inner) st fun r' st' => r' = r ∧ st' = st2) : orc.ic 15 vs st r st2 :=
  inlC_of (envOk b) (orcOk b) Try.func15 (by rfl) rfl (by rfl) (by rfl) hst h1 (Nat.le_of_ble_eq_true h2) h3
/-- laws.markIntS -/
def n_l_markIntS : Nat := 16
noncomputable def b_l_markIntS : Code := (Try.f16.body).getD .skip
def k_l_markIntS : Nat → List Nat := fun n => lookN n [(2, [0, 1, 4, 5])]
theorem p_l_markIntS {vs : List AV} {st : St} {r : AV} {st2 : St} (b : Bool) (hst : 0 < st.length) (h1 : vs.all (fun v => !v.isBad) = true) (h2 : Nat.ble vs.length 19 = true) (h3 : evInl (env b) orc k_l_markIntS [.int .i64] [.tmp 4] 19 b_l_markIntS (vs.map AV.inner) st fun r' st' => r' = r ∧ st' = st2) : orc.ic 16 vs st r st2 :=
  inlC_of (envOk b) (orcOk b) Try.func16 (by rfl) rfl (by rfl) (by rfl) hst h1 (Nat.le_of_ble_eq_true h2) h3
/-- laws.heldIntS -/
def n_l_heldIntS : Nat := 17
noncomputable def b_l_heldIntS : Code := (Try.f17.body).getD .skip
def k_l_heldIntS : Nat → List Nat := fun n => lookN n [(2, [0, 1, 5])]
theorem p_l_heldIntS {args : List AV} {r : Pk} (b : Bool) (h1 : args.all AV.isD = true) (h2 : Nat.ble args.length 21 = true) (h3 : evFun (env b) orc k_l_heldIntS [.int .i64] [.tmp 4] 21 b_l_heldIntS args [] fun r' _ => r' = r) : orc.pc 17 args r :=
  pureC_of (envOk b) (orcOk b) Try.func17 (by rfl) rfl (by rfl) (by rfl) h1 (Nat.le_of_ble_eq_true h2) h3
/-- laws.szPlaneS -/
def n_l_szPlaneS : Nat := 18
noncomputable def b_l_szPlaneS : Code := (Try.f18.body).getD .skip
def k_l_szPlaneS : Nat → List Nat := fun n => lookN n [(5, [0, 1, 5])]
theorem p_l_szPlaneS {args : List AV} {r : Pk} (b : Bool) (h1 : args.all AV.isD = true) (h2 : Nat.ble args.length 27 = true) (h3 : evFun (env b) orc k_l_szPlaneS [.int .i64] [.tmp 4] 27 b_l_szPlaneS args [] fun r' _ => r' = r) : orc.pc 18 args r :=
  pureC_of (envOk b) (orcOk b) Try.func18 (by rfl) rfl (by rfl) (by rfl) h1 (Nat.le_of_ble_eq_true h2) h3
/-- spec.JuryMistakes -/
def n_s_JuryMistakes : Nat := 19
noncomputable def b_s_JuryMistakes : Code := (Try.f19.body).getD .skip
def k_s_JuryMistakes : Nat → List Nat := fun n => lookN n []
theorem p_s_JuryMistakes {args : List AV} {r : Pk} (b : Bool) (h1 : args.all AV.isD = true) (h2 : Nat.ble args.length 21 = true) (h3 : evFun (env b) orc k_s_JuryMistakes [.sl (.int .i64), .bool] [.tmp 4, .tmp 5] 21 b_s_JuryMistakes args [] fun r' _ => r' = r) : orc.pc 19 args r :=
  pureC_of (envOk b) (orcOk b) Try.func19 (by rfl) rfl (by rfl) (by rfl) h1 (Nat.le_of_ble_eq_true h2) h3
/-- laws.toPlaneS -/
def n_l_toPlaneS : Nat := 20
noncomputable def b_l_toPlaneS : Code := (Try.f20.body).getD .skip
def k_l_toPlaneS : Nat → List Nat := fun n => lookN n [(3, [0, 2, 3, 4])]
theorem p_l_toPlaneS {args : List AV} {r : Pk} (b : Bool) (h1 : args.all AV.isD = true) (h2 : Nat.ble args.length 23 = true) (h3 : evFun (env b) orc k_l_toPlaneS [.sl (.pair (.sl (.int .i64)) (.pair (.int .i64) (.unit)))] [.tmp 2] 23 b_l_toPlaneS args [] fun r' _ => r' = r) : orc.pc 20 args r :=
  pureC_of (envOk b) (orcOk b) Try.func20 (by rfl) rfl (by rfl) (by rfl) h1 (Nat.le_of_ble_eq_true h2) h3
/-- impl.JuryMistakes -/
def n_i_JuryMistakes : Nat := 21
noncomputable def b_i_JuryMistakes : Code := (Try.f21.body).getD .skip
def k_i_JuryMistakes : Nat → List Nat := fun n => lookN n []
theorem p_i_JuryMistakes {args : List AV} {r : Pk} (b : Bool) (h1 : args.all AV.isD = true) (h2 : Nat.ble args.length 20 = true) (h3 : evFun (env b) orc k_i_JuryMistakes [.sl (.int .i64), .bool] [.tmp 4, .tmp 5] 20 b_i_JuryMistakes args [] fun r' _ => r' = r) : orc.pc 21 args r :=
  pureC_of (envOk b) (orcOk b) Try.func21 (by rfl) rfl (by rfl) (by rfl) h1 (Nat.le_of_ble_eq_true h2) h3
/-- laws.eqPlaneS -/
def n_l_eqPlaneS : Nat := 22
noncomputable def b_l_eqPlaneS : Code := (Try.f22.body).getD .skip
def k_l_eqPlaneS : Nat → List Nat := fun n => lookN n [(4, [0, 1, 5])]
theorem p_l_eqPlaneS {args : List AV} {r : Pk} (b : Bool) (h1 : args.all AV.isD = true) (h2 : Nat.ble args.length 27 = true) (h3 : evFun (env b) orc k_l_eqPlaneS [.bool] [.tmp 4] 27 b_l_eqPlaneS args [] fun r' _ => r' = r) : orc.pc 22 args r :=
  pureC_of (envOk b) (orcOk b) Try.func22 (by rfl) rfl (by rfl) (by rfl) h1 (Nat.le_of_ble_eq_true h2) h3
/-- laws.markPlaneS -/
def n_l_markPlaneS : Nat := 23
noncomputable def b_l_markPlaneS : Code := (Try.f23.body).getD .skip
def k_l_markPlaneS : Nat → List Nat := fun n => lookN n [(2, [0, 1, 4, 5])]
theorem p_l_markPlaneS {vs : List AV} {st : St} {r : AV} {st2 : St} (b : Bool) (hst : 0 < st.length) (h1 : vs.all (fun v => !v.isBad) = true) (h2 : Nat.ble vs.length 27 = true) (h3 : evInl (env b) orc k_l_markPlaneS [.int .i64] [.tmp 4] 27 b_l_markPlaneS (vs.map AV.inner) st fun r' st' => r' = r ∧ st' = st2) : orc.ic 23 vs st r st2 :=
  inlC_of (envOk b) (orcOk b) Try.func23 (by rfl) rfl (by rfl) (by rfl) hst h1 (Nat.le_of_ble_eq_true h2) h3
/-- laws.szIntSS -/
def n_l_szIntSS : Nat := 24
noncomputable def b_l_szIntSS : Code := (Try.f24.body).getD .skip
def k_l_szIntSS : Nat → List Nat := fun n => lookN n [(5, [0, 1, 5])]
theorem p_l_szIntSS {args : List AV} {r : Pk} (b : Bool) (h1 : args.all AV.isD = true) (h2 : Nat.ble args.length 27 = true) (h3 : evFun (env b) orc k_l_szIntSS [.int .i64] [.tmp 4] 27 b_l_szIntSS args [] fun r' _ => r' = r) : orc.pc 24 args r :=
  pureC_of (envOk b) (orcOk b) Try.func24 (by rfl) rfl (by rfl) (by rfl) h1 (Nat.le_of_ble_eq_true h2) h3
/-- laws.szIntS -/
def n_l_szIntS : Nat := 25
noncomputable def b_l_szIntS : Code := (Try.f25.body).getD .skip
def k_l_szIntS : Nat → List Nat := fun n => lookN n []
theorem p_l_szIntS {args : List AV} {r : Pk} (b : Bool) (h1 : args.all AV.isD = true) (h2 : Nat.ble args.length 12 = true) (h3 : evFun (env b) orc k_l_szIntS [.int .i64] [.tmp 4] 12 b_l_szIntS args [] fun r' _ => r' = r) : orc.pc 25 args r :=
  pureC_of (envOk b) (orcOk b) Try.func25 (by rfl) rfl (by rfl) (by rfl) h1 (Nat.le_of_ble_eq_true h2) h3
/-- spec.l2Both -/
def n_s_l2Both : Nat := 26
noncomputable def b_s_l2Both : Code := (Try.f26.body).getD .skip
def k_s_l2Both : Nat → List Nat := fun n => lookN n []
theorem p_s_l2Both {args : List AV} {r : Pk} (b : Bool) (h1 : args.all AV.isD = true) (h2 : Nat.ble args.length 28 = true) (h3 : evFun (env b) orc k_s_l2Both [.bool] [.tmp 4] 28 b_s_l2Both args [] fun r' _ => r' = r) : orc.pc 26 args r :=
  pureC_of (envOk b) (orcOk b) Try.func26 (by rfl) rfl (by rfl) (by rfl) h1 (Nat.le_of_ble_eq_true h2) h3
/-- spec.l8Missed -/
def n_s_l8Missed : Nat := 27
noncomputable def b_s_l8Missed : Code := (Try.f27.body).getD .skip
def k_s_l8Missed : Nat → List Nat := fun n => lookN n [(3, [0, 1, 2, 3, 4, 5, 6, 7, 8, 9, 10])]
theorem p_s_l8Missed {args : List AV} {r : Pk} (b : Bool) (h1 : args.all AV.isD = true) (h2 : Nat.ble args.length 39 = true) (h3 : evFun (env b) orc k_s_l8Missed [.sl (.int .i64)] [.tmp 8] 39 b_s_l8Missed args [] fun r' _ => r' = r) : orc.pc 27 args r :=
  pureC_of (envOk b) (orcOk b) Try.func27 (by rfl) rfl (by rfl) (by rfl) h1 (Nat.le_of_ble_eq_true h2) h3
/-- laws.toIntSS -/
def n_l_toIntSS : Nat := 28
noncomputable def b_l_toIntSS : Code := (Try.f28.body).getD .skip
def k_l_toIntSS : Nat → List Nat := fun n => lookN n [(3, [0, 2, 3, 4])]
theorem p_l_toIntSS {args : List AV} {r : Pk} (b : Bool) (h1 : args.all AV.isD = true) (h2 : Nat.ble args.length 23 = true) (h3 : evFun (env b) orc k_l_toIntSS [.sl (.sl (.int .i64))] [.tmp 2] 23 b_l_toIntSS args [] fun r' _ => r' = r) : orc.pc 28 args r :=
  pureC_of (envOk b) (orcOk b) Try.func28 (by rfl) rfl (by rfl) (by rfl) h1 (Nat.le_of_ble_eq_true h2) h3
/-- laws.toIntS -/
def n_l_toIntS : Nat := 29
noncomputable def b_l_toIntS : Code := (Try.f29.body).getD .skip
def k_l_toIntS : Nat → List Nat := fun n => lookN n [(3, [0, 2, 3, 4])]
theorem p_l_toIntS {args : List AV} {r : Pk} (b : Bool) (h1 : args.all AV.isD = true) (h2 : Nat.ble args.length 22 = true) (h3 : evFun (env b) orc k_l_toIntS [.sl (.int .i64)] [.tmp 2] 22 b_l_toIntS args [] fun r' _ => r' = r) : orc.pc 29 args r :=
  pureC_of (envOk b) (orcOk b) Try.func29 (by rfl) rfl (by rfl) (by rfl) h1 (Nat.le_of_ble_eq_true h2) h3
/-- impl.suits -/
def n_i_suits : Nat := 30
noncomputable def b_i_suits : Code := (Try.f30.body).getD .skip
def k_i_suits : Nat → List Nat := fun n => lookN n []
theorem p_i_suits {args : List AV} {r : Pk} (b : Bool) (h1 : args.all AV.isD = true) (h2 : Nat.ble args.length 28 = true) (h3 : evFun (env b) orc k_i_suits [.bool] [.tmp 4] 28 b_i_suits args [] fun r' _ => r' = r) : orc.pc 30 args r :=
  pureC_of (envOk b) (orcOk b) Try.func30 (by rfl) rfl (by rfl) (by rfl) h1 (Nat.le_of_ble_eq_true h2) h3
/-- (impl.Sample).wrong -/
def n_i_Sample_wrong : Nat := 31
noncomputable def b_i_Sample_wrong : Code := (Try.f31.body).getD .skip
def k_i_Sample_wrong : Nat → List Nat := fun n => lookN n [(3, [0, 1, 2, 4, 5, 10, 11, 12])]
theorem p_i_Sample_wrong {args : List AV} {r : Pk} (b : Bool) (h1 : args.all AV.isD = true) (h2 : Nat.ble args.length 32 = true) (h3 : evFun (env b) orc k_i_Sample_wrong [.sl (.int .i64)] [.tmp 4] 32 b_i_Sample_wrong args [] fun r' _ => r' = r) : orc.pc 31 args r :=
  pureC_of (envOk b) (orcOk b) Try.func31 (by rfl) rfl (by rfl) (by rfl) h1 (Nat.le_of_ble_eq_true h2) h3
/-- impl.ChoiceMistakes$1 -/
def n_i_ChoiceMistakes_1 : Nat := 32
noncomputable def b_i_ChoiceMistakes_1 : Code := (Try.f32.body).getD .skip
def k_i_ChoiceMistakes_1 : Nat → List Nat := fun n => lookN n []
theorem p_i_ChoiceMistakes_1 {args : List AV} {r : Pk} (b : Bool) (h1 : args.all AV.isD = true) (h2 : Nat.ble args.length 11 = true) (h3 : evFun (env b) orc k_i_ChoiceMistakes_1 [.int .i64] [.tmp 5] 11 b_i_ChoiceMistakes_1 args [] fun r' _ => r' = r) : orc.pc 32 args r :=
  pureC_of (envOk b) (orcOk b) Try.func32 (by rfl) rfl (by rfl) (by rfl) h1 (Nat.le_of_ble_eq_true h2) h3
/-- impl.choiceSide -/
def n_i_choiceSide : Nat := 33
noncomputable def b_i_choiceSide : Code := (Try.f33.body).getD .skip
def k_i_choiceSide : Nat → List Nat := fun n => lookN n []
theorem p_i_choiceSide {args : List AV} {r : Pk} (b : Bool) (h1 : args.all AV.isD = true) (h2 : Nat.ble args.length 19 = true) (h3 : evFun (env b) orc k_i_choiceSide [.int .i64] [.tmp 8] 19 b_i_choiceSide args [] fun r' _ => r' = r) : orc.pc 33 args r :=
  pureC_of (envOk b) (orcOk b) Try.func33 (by rfl) rfl (by rfl) (by rfl) h1 (Nat.le_of_ble_eq_true h2) h3
/-- laws.eqIntSS -/
def n_l_eqIntSS : Nat := 34
noncomputable def b_l_eqIntSS : Code := (Try.f34.body).getD .skip
def k_l_eqIntSS : Nat → List Nat := fun n => lookN n [(4, [0, 1, 5])]
theorem p_l_eqIntSS {args : List AV} {r : Pk} (b : Bool) (h1 : args.all AV.isD = true) (h2 : Nat.ble args.length 27 = true) (h3 : evFun (env b) orc k_l_eqIntSS [.bool] [.tmp 4] 27 b_l_eqIntSS args [] fun r' _ => r' = r) : orc.pc 34 args r :=
  pureC_of (envOk b) (orcOk b) Try.func34 (by rfl) rfl (by rfl) (by rfl) h1 (Nat.le_of_ble_eq_true h2) h3
/-- laws.markIntSS -/
def n_l_markIntSS : Nat := 35
noncomputable def b_l_markIntSS : Code := (Try.f35.body).getD .skip
def k_l_markIntSS : Nat → List Nat := fun n => lookN n [(2, [0, 1, 4, 5])]
theorem p_l_markIntSS {vs : List AV} {st : St} {r : AV} {st2 : St} (b : Bool) (hst : 0 < st.length) (h1 : vs.all (fun v => !v.isBad) = true) (h2 : Nat.ble vs.length 19 = true) (h3 : evInl (env b) orc k_l_markIntSS [.int .i64] [.tmp 4] 19 b_l_markIntSS (vs.map AV.inner) st fun r' st' => r' = r ∧ st' = st2) : orc.ic 35 vs st r st2 :=
  inlC_of (envOk b) (orcOk b) Try.func35 (by rfl) rfl (by rfl) (by rfl) hst h1 (Nat.le_of_ble_eq_true h2) h3
/-- spec.l8Jury -/
def n_s_l8Jury : Nat := 36
noncomputable def b_s_l8Jury : Code := (Try.f36.body).getD .skip
def k_s_l8Jury : Nat → List Nat := fun n => lookN n [(2, [0, 3])]
theorem p_s_l8Jury {args : List AV} {r : Pk} (b : Bool) (h1 : args.all AV.isD = true) (h2 : Nat.ble args.length 33 = true) (h3 : evFun (env b) orc k_s_l8Jury [.bool] [.tmp 2] 33 b_s_l8Jury args [] fun r' _ => r' = r) : orc.pc 36 args r :=
  pureC_of (envOk b) (orcOk b) Try.func36 (by rfl) rfl (by rfl) (by rfl) h1 (Nat.le_of_ble_eq_true h2) h3
/-- spec.l8Wrong -/
def n_s_l8Wrong : Nat := 37
noncomputable def b_s_l8Wrong : Code := (Try.f37.body).getD .skip
def k_s_l8Wrong : Nat → List Nat := fun n => lookN n [(3, [0, 1, 2, 4, 5, 6])]
theorem p_s_l8Wrong {args : List AV} {r : Pk} (b : Bool) (h1 : args.all AV.isD = true) (h2 : Nat.ble args.length 33 = true) (h3 : evFun (env b) orc k_s_l8Wrong [.sl (.int .i64)] [.tmp 4] 33 b_s_l8Wrong args [] fun r' _ => r' = r) : orc.pc 37 args r :=
  pureC_of (envOk b) (orcOk b) Try.func37 (by rfl) rfl (by rfl) (by rfl) h1 (Nat.le_of_ble_eq_true h2) h3
/-- impl.isJury -/
def n_i_isJury : Nat := 38
noncomputable def b_i_isJury : Code := (Try.f38.body).getD .skip
def k_i_isJury : Nat → List Nat := fun n => lookN n [(2, [0, 5, 6, 7])]
theorem p_i_isJury {args : List AV} {r : Pk} (b : Bool) (h1 : args.all AV.isD = true) (h2 : Nat.ble args.length 29 = true) (h3 : evFun (env b) orc k_i_isJury [.bool] [.tmp 2] 29 b_i_isJury args [] fun r' _ => r' = r) : orc.pc 38 args r :=
  pureC_of (envOk b) (orcOk b) Try.func38 (by rfl) rfl (by rfl) (by rfl) h1 (Nat.le_of_ble_eq_true h2) h3
/-- impl.JuryMistakes$1 -/
def n_i_JuryMistakes_1 : Nat := 39
noncomputable def b_i_JuryMistakes_1 : Code := (Try.f39.body).getD .skip
def k_i_JuryMistakes_1 : Nat → List Nat := fun n => lookN n []
theorem p_i_JuryMistakes_1 {args : List AV} {r : Pk} (b : Bool) (h1 : args.all AV.isD = true) (h2 : Nat.ble args.length 7 = true) (h3 : evFun (env b) orc k_i_JuryMistakes_1 [.int .i64] [.tmp 3] 7 b_i_JuryMistakes_1 args [] fun r' _ => r' = r) : orc.pc 39 args r :=
  pureC_of (envOk b) (orcOk b) Try.func39 (by rfl) rfl (by rfl) (by rfl) h1 (Nat.le_of_ble_eq_true h2) h3
/-- impl.jurySide -/
def n_i_jurySide : Nat := 40
noncomputable def b_i_jurySide : Code := (Try.f40.body).getD .skip
def k_i_jurySide : Nat → List Nat := fun n => lookN n [(3, [0, 1, 4, 5, 8, 9, 10])]
theorem p_i_jurySide {args : List AV} {r : Pk} (b : Bool) (h1 : args.all AV.isD = true) (h2 : Nat.ble args.length 22 = true) (h3 : evFun (env b) orc k_i_jurySide [.int .i64] [.tmp 4] 22 b_i_jurySide args [] fun r' _ => r' = r) : orc.pc 40 args r :=
  pureC_of (envOk b) (orcOk b) Try.func40 (by rfl) rfl (by rfl) (by rfl) h1 (Nat.le_of_ble_eq_true h2) h3
/-- spec.l2Sample -/
def n_s_l2Sample : Nat := 41
noncomputable def b_s_l2Sample : Code := (Try.f41.body).getD .skip
def k_s_l2Sample : Nat → List Nat := fun n => lookN n [(4, [0, 1, 3])]
theorem p_s_l2Sample {args : List AV} {r : Pk} (b : Bool) (h1 : args.all AV.isD = true) (h2 : Nat.ble args.length 51 = true) (h3 : evFun (env b) orc k_s_l2Sample [.bool] [.tmp 2] 51 b_s_l2Sample args [] fun r' _ => r' = r) : orc.pc 41 args r :=
  pureC_of (envOk b) (orcOk b) Try.func41 (by rfl) rfl (by rfl) (by rfl) h1 (Nat.le_of_ble_eq_true h2) h3
/-- spec.l2Plane -/
def n_s_l2Plane : Nat := 42
noncomputable def b_s_l2Plane : Code := (Try.f42.body).getD .skip
def k_s_l2Plane : Nat → List Nat := fun n => lookN n []
theorem p_s_l2Plane {args : List AV} {r : Pk} (b : Bool) (h1 : args.all AV.isD = true) (h2 : Nat.ble args.length 17 = true) (h3 : evFun (env b) orc k_s_l2Plane [.bool] [.tmp 2] 17 b_s_l2Plane args [] fun r' _ => r' = r) : orc.pc 42 args r :=
  pureC_of (envOk b) (orcOk b) Try.func42 (by rfl) rfl (by rfl) (by rfl) h1 (Nat.le_of_ble_eq_true h2) h3
/-- spec.l8Choice -/
def n_s_l8Choice : Nat := 43
noncomputable def b_s_l8Choice : Code := (Try.f43.body).getD .skip
def k_s_l8Choice : Nat → List Nat := fun n => lookN n []
theorem p_s_l8Choice {args : List AV} {r : Pk} (b : Bool) (h1 : args.all AV.isD = true) (h2 : Nat.ble args.length 19 = true) (h3 : evFun (env b) orc k_s_l8Choice [.int .i64] [.tmp 8] 19 b_s_l8Choice args [] fun r' _ => r' = r) : orc.pc 43 args r :=
  pureC_of (envOk b) (orcOk b) Try.func43 (by rfl) rfl (by rfl) (by rfl) h1 (Nat.le_of_ble_eq_true h2) h3
/-- impl.IsSample -/
def n_i_IsSample : Nat := 44
noncomputable def b_i_IsSample : Code := (Try.f44.body).getD .skip
def k_i_IsSample : Nat → List Nat := fun n => lookN n [(4, [0, 1, 19, 20, 21])]
theorem p_i_IsSample {args : List AV} {r : Pk} (b : Bool) (h1 : args.all AV.isD = true) (h2 : Nat.ble args.length 49 = true) (h3 : evFun (env b) orc k_i_IsSample [.bool] [.tmp 2] 49 b_i_IsSample args [] fun r' _ => r' = r) : orc.pc 44 args r :=
  pureC_of (envOk b) (orcOk b) Try.func44 (by rfl) rfl (by rfl) (by rfl) h1 (Nat.le_of_ble_eq_true h2) h3
/-- impl.IsPlane -/
def n_i_IsPlane : Nat := 45
noncomputable def b_i_IsPlane : Code := (Try.f45.body).getD .skip
def k_i_IsPlane : Nat → List Nat := fun n => lookN n []
theorem p_i_IsPlane {args : List AV} {r : Pk} (b : Bool) (h1 : args.all AV.isD = true) (h2 : Nat.ble args.length 17 = true) (h3 : evFun (env b) orc k_i_IsPlane [.bool] [.tmp 2] 17 b_i_IsPlane args [] fun r' _ => r' = r) : orc.pc 45 args r :=
  pureC_of (envOk b) (orcOk b) Try.func45 (by rfl) rfl (by rfl) (by rfl) h1 (Nat.le_of_ble_eq_true h2) h3
/-- (impl.Plane).side -/
def n_i_Plane_side : Nat := 46
noncomputable def b_i_Plane_side : Code := (Try.f46.body).getD .skip
def k_i_Plane_side : Nat → List Nat := fun n => lookN n []
theorem p_i_Plane_side {args : List AV} {r : Pk} (b : Bool) (h1 : args.all AV.isD = true) (h2 : Nat.ble args.length 12 = true) (h3 : evFun (env b) orc k_i_Plane_side [.int .i64] [.tmp 4] 12 b_i_Plane_side args [] fun r' _ => r' = r) : orc.pc 46 args r :=
  pureC_of (envOk b) (orcOk b) Try.func46 (by rfl) rfl (by rfl) (by rfl) h1 (Nat.le_of_ble_eq_true h2) h3
/-- spec.l1In -/
def n_s_l1In : Nat := 47
noncomputable def b_s_l1In : Code := (Try.f47.body).getD .skip
def k_s_l1In : Nat → List Nat := fun n => lookN n []
theorem p_s_l1In {args : List AV} {r : Pk} (b : Bool) (h1 : args.all AV.isD = true) (h2 : Nat.ble args.length 15 = true) (h3 : evFun (env b) orc k_s_l1In [.bool] [.tmp 6] 15 b_s_l1In args [] fun r' _ => r' = r) : orc.pc 47 args r :=
  pureC_of (envOk b) (orcOk b) Try.func47 (by rfl) rfl (by rfl) (by rfl) h1 (Nat.le_of_ble_eq_true h2) h3
/-- spec.l8Side -/
def n_s_l8Side : Nat := 48
noncomputable def b_s_l8Side : Code := (Try.f48.body).getD .skip
def k_s_l8Side : Nat → List Nat := fun n => lookN n [(3, [0, 1, 4, 5, 6])]
theorem p_s_l8Side {args : List AV} {r : Pk} (b : Bool) (h1 : args.all AV.isD = true) (h2 : Nat.ble args.length 23 = true) (h3 : evFun (env b) orc k_s_l8Side [.int .i64] [.tmp 4] 23 b_s_l8Side args [] fun r' _ => r' = r) : orc.pc 48 args r :=
  pureC_of (envOk b) (orcOk b) Try.func48 (by rfl) rfl (by rfl) (by rfl) h1 (Nat.le_of_ble_eq_true h2) h3
/-- impl.within -/
def n_i_within : Nat := 49
noncomputable def b_i_within : Code := (Try.f49.body).getD .skip
def k_i_within : Nat → List Nat := fun n => lookN n []
theorem p_i_within {args : List AV} {r : Pk} (b : Bool) (h1 : args.all AV.isD = true) (h2 : Nat.ble args.length 15 = true) (h3 : evFun (env b) orc k_i_within [.bool] [.tmp 6] 15 b_i_within args [] fun r' _ => r' = r) : orc.pc 49 args r :=
  pureC_of (envOk b) (orcOk b) Try.func49 (by rfl) rfl (by rfl) (by rfl) h1 (Nat.le_of_ble_eq_true h2) h3
/-- spec.l2Labels -/
def n_s_l2Labels : Nat := 50
noncomputable def b_s_l2Labels : Code := (Try.f50.body).getD .skip
def k_s_l2Labels : Nat → List Nat := fun n => lookN n [(2, [0, 3])]
theorem p_s_l2Labels {args : List AV} {r : Pk} (b : Bool) (h1 : args.all AV.isD = true) (h2 : Nat.ble args.length 22 = true) (h3 : evFun (env b) orc k_s_l2Labels [.bool] [.tmp 2] 22 b_s_l2Labels args [] fun r' _ => r' = r) : orc.pc 50 args r :=
  pureC_of (envOk b) (orcOk b) Try.func50 (by rfl) rfl (by rfl) (by rfl) h1 (Nat.le_of_ble_eq_true h2) h3
/-- spec.l2Point -/
def n_s_l2Point : Nat := 51
noncomputable def b_s_l2Point : Code := (Try.f51.body).getD .skip
def k_s_l2Point : Nat → List Nat := fun n => lookN n []
theorem p_s_l2Point {args : List AV} {r : Pk} (b : Bool) (h1 : args.all AV.isD = true) (h2 : Nat.ble args.length 10 = true) (h3 : evFun (env b) orc k_s_l2Point [.bool] [.tmp 2] 10 b_s_l2Point args [] fun r' _ => r' = r) : orc.pc 51 args r :=
  pureC_of (envOk b) (orcOk b) Try.func51 (by rfl) rfl (by rfl) (by rfl) h1 (Nat.le_of_ble_eq_true h2) h3
/-- spec.l2Numbers -/
def n_s_l2Numbers : Nat := 52
noncomputable def b_s_l2Numbers : Code := (Try.f52.body).getD .skip
def k_s_l2Numbers : Nat → List Nat := fun n => lookN n [(2, [0, 1, 5])]
theorem p_s_l2Numbers {args : List AV} {r : Pk} (b : Bool) (h1 : args.all AV.isD = true) (h2 : Nat.ble args.length 21 = true) (h3 : evFun (env b) orc k_s_l2Numbers [.bool] [.tmp 4] 21 b_s_l2Numbers args [] fun r' _ => r' = r) : orc.pc 52 args r :=
  pureC_of (envOk b) (orcOk b) Try.func52 (by rfl) rfl (by rfl) (by rfl) h1 (Nat.le_of_ble_eq_true h2) h3
/-- spec.l2Side -/
def n_s_l2Side : Nat := 53
noncomputable def b_s_l2Side : Code := (Try.f53.body).getD .skip
def k_s_l2Side : Nat → List Nat := fun n => lookN n []
theorem p_s_l2Side {args : List AV} {r : Pk} (b : Bool) (h1 : args.all AV.isD = true) (h2 : Nat.ble args.length 12 = true) (h3 : evFun (env b) orc k_s_l2Side [.int .i64] [.tmp 4] 12 b_s_l2Side args [] fun r' _ => r' = r) : orc.pc 53 args r :=
  pureC_of (envOk b) (orcOk b) Try.func53 (by rfl) rfl (by rfl) (by rfl) h1 (Nat.le_of_ble_eq_true h2) h3
/-- impl.IsPoint -/
def n_i_IsPoint : Nat := 54
noncomputable def b_i_IsPoint : Code := (Try.f54.body).getD .skip
def k_i_IsPoint : Nat → List Nat := fun n => lookN n []
theorem p_i_IsPoint {args : List AV} {r : Pk} (b : Bool) (h1 : args.all AV.isD = true) (h2 : Nat.ble args.length 10 = true) (h3 : evFun (env b) orc k_i_IsPoint [.bool] [.tmp 2] 10 b_i_IsPoint args [] fun r' _ => r' = r) : orc.pc 54 args r :=
  pureC_of (envOk b) (orcOk b) Try.func54 (by rfl) rfl (by rfl) (by rfl) h1 (Nat.le_of_ble_eq_true h2) h3
/-- impl.isLabel -/
def n_i_isLabel : Nat := 55
noncomputable def b_i_isLabel : Code := (Try.f55.body).getD .skip
def k_i_isLabel : Nat → List Nat := fun n => lookN n []
theorem p_i_isLabel {args : List AV} {r : Pk} (b : Bool) (h1 : args.all AV.isD = true) (h2 : Nat.ble args.length 9 = true) (h3 : evFun (env b) orc k_i_isLabel [.bool] [.tmp 2] 9 b_i_isLabel args [] fun r' _ => r' = r) : orc.pc 55 args r :=
  pureC_of (envOk b) (orcOk b) Try.func55 (by rfl) rfl (by rfl) (by rfl) h1 (Nat.le_of_ble_eq_true h2) h3
/-- impl.allWithin -/
def n_i_allWithin : Nat := 56
noncomputable def b_i_allWithin : Code := (Try.f56.body).getD .skip
def k_i_allWithin : Nat → List Nat := fun n => lookN n [(2, [0, 1, 2, 9, 10, 11])]
theorem p_i_allWithin {args : List AV} {r : Pk} (b : Bool) (h1 : args.all AV.isD = true) (h2 : Nat.ble args.length 21 = true) (h3 : evFun (env b) orc k_i_allWithin [.bool] [.tmp 6] 21 b_i_allWithin args [] fun r' _ => r' = r) : orc.pc 56 args r :=
  pureC_of (envOk b) (orcOk b) Try.func56 (by rfl) rfl (by rfl) (by rfl) h1 (Nat.le_of_ble_eq_true h2) h3
/-- impl.product -/
def n_i_product : Nat := 57
noncomputable def b_i_product : Code := (Try.f57.body).getD .skip
def k_i_product : Nat → List Nat := fun n => lookN n [(3, [0, 1, 4, 5, 8, 9, 10])]
theorem p_i_product {args : List AV} {r : Pk} (b : Bool) (h1 : args.all AV.isD = true) (h2 : Nat.ble args.length 25 = true) (h3 : evFun (env b) orc k_i_product [.int .i64] [.tmp 4] 25 b_i_product args [] fun r' _ => r' = r) : orc.pc 57 args r :=
  pureC_of (envOk b) (orcOk b) Try.func57 (by rfl) rfl (by rfl) (by rfl) h1 (Nat.le_of_ble_eq_true h2) h3
/-- spec.l2Dot -/
def n_s_l2Dot : Nat := 58
noncomputable def b_s_l2Dot : Code := (Try.f58.body).getD .skip
def k_s_l2Dot : Nat → List Nat := fun n => lookN n [(3, [0, 1, 4, 5, 6])]
theorem p_s_l2Dot {args : List AV} {r : Pk} (b : Bool) (h1 : args.all AV.isD = true) (h2 : Nat.ble args.length 25 = true) (h3 : evFun (env b) orc k_s_l2Dot [.int .i64] [.tmp 4] 25 b_s_l2Dot args [] fun r' _ => r' = r) : orc.pc 58 args r :=
  pureC_of (envOk b) (orcOk b) Try.func58 (by rfl) rfl (by rfl) (by rfl) h1 (Nat.le_of_ble_eq_true h2) h3
end Go.Proofs.Ytkkpfbfdiigbdaa.Ev
