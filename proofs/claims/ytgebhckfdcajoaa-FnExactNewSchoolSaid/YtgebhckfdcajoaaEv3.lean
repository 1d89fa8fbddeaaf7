/- A proved evaluator for translated functions, part 3: what it computes is what the machine does. No conditions. -/
import Derived.Test.YtgebhckfdcajoaaEv2
/- Owned slices at places of states that are not known whole: inner frames, elements. -/
namespace Go.Proofs.Ytgebhckfdcajoaa.Ev
open Go
set_option linter.unusedSimpArgs false
set_option linter.unusedVariables false

/-- The same place, as a called function sees it. -/
theorem Owns.lift {q : Pl} {e : Sh} {o : Ow} {P : List e.den → St} (O : Owns q e o P) (f : Frm) : Owns (q.lift 1) e o (fun l => f :: P l) where
  get := fun l K h => O.get l K h
  look := fun l i K hi h => O.look l i K hi h
  put := fun l i u w K hi hp hs h => O.put l i u w (fun s => K (f :: s)) hi hp hs h
  bad := O.bad
  pos := fun l => by simp

theorem PartP_det {p : List Stp} {a b : AV} {K : AV → Prop} (h : PartP p a fun u => u = b) (hk : PartP p a K) : K b := by
  obtain ⟨c, h1, h2⟩ := PartP_iff.1 hk
  have key : ∀ {p : List Stp} {a b c : AV}, PartP p a (fun u => u = b) → PartP p a (fun u => u = c) → b = c := by
    intro p
    induction p with
    | nil => intro a b c h g; exact h.symm.trans g
    | cons i p ih =>
      intro a b c h g
      simp only [PartP] at h g
      obtain ⟨x, hx, h⟩ := stepP_iff.1 h
      obtain ⟨y, hy, g⟩ := stepP_iff.1 g
      have sd : ∀ {a : AV} {i : Stp} {x y : AV}, a.stepP i (fun u => u = x) → a.stepP i (fun u => u = y) → x = y := by
        intro a i x y h g
        cases i with
        | l =>
          cases a with
          | pair u v => exact h.symm.trans g
          | d s z => cases s with
            | pair s t => exact h.symm.trans g
            | _ => exact h.elim
          | _ => exact h.elim
        | r n =>
          cases a with
          | pair u v => simp only [AV.stepP] at h g; split at h <;> first | exact h.elim | skip
                        rename_i e; rw [if_pos e] at g; exact h.symm.trans g
          | d s z => cases s with
            | pair s t => simp only [AV.stepP] at h g; split at h <;> first | exact h.elim | skip
                          rename_i e; rw [if_pos e] at g; exact h.symm.trans g
            | _ => exact h.elim
          | _ => exact h.elim
        | ix j z =>
          cases a with
          | own e o l => simp only [AV.stepP] at h g; split at h <;> first | exact h.elim | skip
                         rename_i e; rw [if_pos e] at g; exact h.2.symm.trans g.2
          | d s x => cases s <;> exact h.elim
          | _ => exact h.elim
      have := sd hx hy
      subst this
      exact ih h g
  rw [key h h1]; exact h2

/-- An inner part turned, by turns. -/
theorem UpdP_append {u b b' : AV} {p' : List Stp} (hb : UpdP u p' b fun x => x = b') : ∀ {p : List Stp} {a : AV} {K : AV → Prop}, PartP p a (fun x => x = b) → UpdP b' p a K → UpdP u (p ++ p') a K := by
  intro p
  induction p with
  | nil =>
    intro a K h hk
    have h : a = b := h
    subst h
    simp only [UpdP] at hk
    split at hk
    · exact UpdP_iff.2 ⟨b', hb, hk⟩
    · exact hk.elim
  | cons i p ih =>
    intro a K h hk
    simp only [PartP] at h
    cases i with
    | l =>
      cases a with
      | pair x y => exact ih h hk
      | d s x => cases s with
        | pair s t => exact ih h hk
        | _ => exact h.elim
      | _ => exact h.elim
    | r n =>
      cases a with
      | pair x y =>
        simp only [AV.stepP, UpdP, List.cons_append] at h hk ⊢
        split at h
        · rename_i e; rw [if_pos e] at hk ⊢; exact ih h hk
        · exact h.elim
      | d s x => cases s with
        | pair s t =>
          simp only [AV.stepP, UpdP, List.cons_append] at h hk ⊢
          split at h
          · rename_i e; rw [if_pos e] at hk ⊢; exact ih h hk
          · exact h.elim
        | _ => exact h.elim
      | _ => exact h.elim
    | ix j z =>
      cases a with
      | own e o l =>
        simp only [AV.stepP, UpdP, List.cons_append] at h hk ⊢
        split at h
        · rename_i e; rw [if_pos e] at hk ⊢; exact ⟨hk.1, ih h.2 hk.2⟩
        · exact h.elim
      | d s x => cases s <;> exact h.elim
      | _ => exact h.elim

theorem PutP_child {st : St} {q : Pl} {ps : List Stp} {u b b' : AV} {K : St → Prop} (hg : GetP st q fun v => v = b) (hu : UpdP u ps b fun x => x = b') (hp : PutP st q b' K) : PutP st ⟨q.r, ps.reverse ++ q.p⟩ u K := by
  rw [PutP_iff] at hp ⊢
  obtain ⟨s, hs, w, hw, hk⟩ := hp
  rw [GetP_iff] at hg
  obtain ⟨s', hs', v, hv, rfl⟩ := hg
  rw [hs] at hs'
  cases hs'
  refine ⟨s, hs, w, ?_, hk⟩
  simp only [List.reverse_append, List.reverse_reverse]
  exact UpdP_append hu hv hw

/-- What is owned inside an element: 'ps' the steps to it, 'mk' the element with another such part. -/
structure Inside (e : Sh) (o : Ow) (ps : List Stp) (e' : Sh) (o' : Ow) (mk : List e'.den → e.den) : Prop where
  part : ∀ x, PartP ps (unpack e o (mk x)) fun u => u = .own e' o' x
  upd : ∀ x x', UpdP (.own e' o' x') ps (unpack e o (mk x)) fun u => u.pack = some ⟨e, o, mk x'⟩ ∧ u.size = e.size
  size : 0 < e.size

theorem Owns.inside {q : Pl} {e : Sh} {o : Ow} {P : List e.den → St} (O : Owns q e o P) {ps : List Stp} {e' : Sh} {o' : Ow} {mk : List e'.den → e.den} (M : Inside e o ps e' o' mk) {l : List e.den} {i : Nat} (hi : i < l.length) :
    Owns ⟨q.r, ps.reverse ++ .ix i e.size :: q.p⟩ e' o' (fun x => P (l.set i (mk x))) := by
  have hlen : ∀ x, i < (l.set i (mk x)).length := fun x => by simpa using hi
  have hat : ∀ x, (l.set i (mk x)).getD i e.dflt = mk x := fun x => by rw [List.getD_eq_getElem?_getD, List.getElem?_set_self hi]; rfl
  -- the element as it stands
  have hget : ∀ x, GetP (P (l.set i (mk x))) (q.child (.ix i e.size)) fun v => v = unpack e o (mk x) := by
    intro x
    rw [GetP_child]
    refine O.get _ _ ?_
    simp only [AV.stepP, if_true]
    exact ⟨hlen x, by rw [hat]⟩
  have hlook : ∀ x, LookP (P (l.set i (mk x))) (q.child (.ix i e.size)) fun v => v = unpack e o (mk x) := fun x => O.look _ _ _ (hlen x) (by rw [hat])
  have down : ∀ x, ∃ s, (P (l.set i (mk x))).get q.r.k q.r.s = some s ∧ PartP ((ps.reverse ++ .ix i e.size :: q.p).reverse) (s.at q.r.bx) (fun u => u = .own e' o' x) ∧ ((unpack e o (mk x)).hasOwn && !(s.flag q.r.bx)) = false := by
    intro x
    obtain ⟨s, hs, v, hv, h1, h2, rfl⟩ := LookP_iff.1 (hlook x)
    refine ⟨s, hs, ?_, h2⟩
    simp only [List.reverse_append, List.reverse_reverse]
    rw [PartP_append]
    exact PartP_iff.2 ⟨_, hv, M.part x⟩
  have own : ∀ x, (unpack e o (mk x)).hasOwn = true := by
    intro x
    have key : ∀ {p : List Stp} {a : AV}, PartP p a (fun u => u = .own e' o' x) → a.hasOwn = true := by
      intro p
      induction p with
      | nil => intro a h; have h : a = _ := h; subst h; rfl
      | cons j p ih =>
        intro a h
        simp only [PartP] at h
        cases j with
        | l =>
          cases a with
          | pair u v => simp only [AV.hasOwn, ih h, Bool.true_or]
          | d s z => cases s with
            | pair s t =>
              have := ih h
              simp [AV.hasOwn] at this
            | _ => exact h.elim
          | _ => exact h.elim
        | r n =>
          cases a with
          | pair u v =>
            simp only [AV.stepP] at h
            split at h
            · simp only [AV.hasOwn, ih h, Bool.or_true]
            · exact h.elim
          | d s z => cases s with
            | pair s t =>
              simp only [AV.stepP] at h
              split at h
              · have := ih h; simp [AV.hasOwn] at this
              · exact h.elim
            | _ => exact h.elim
          | _ => exact h.elim
        | ix j z =>
          cases a with
          | own e o l => rfl
          | d s z => cases s <;> exact h.elim
          | _ => exact h.elim
    exact key (M.part x)
  refine ⟨?_, ?_, ?_, ?_, fun _ => O.pos _⟩
  · intro x K hk
    obtain ⟨s, hs, hp, _⟩ := down x
    exact GetP_iff.2 ⟨s, hs, _, hp, hk⟩
  · intro x j K hj hk
    obtain ⟨s, hs, hp, hf⟩ := down x
    have hfl : s.flag q.r.bx = true := by rw [own x] at hf; simpa using hf
    refine LookP_iff.2 ⟨s, hs, unpack e' o' (x.getD j e'.dflt), ?_, unpack_good _ _ _, by rw [show s.flag (Pl.child ⟨q.r, ps.reverse ++ .ix i e.size :: q.p⟩ (.ix j e'.size)).r.bx = true from hfl]; simp, hk⟩
    show PartP ((Pl.child ⟨q.r, ps.reverse ++ .ix i e.size :: q.p⟩ (.ix j e'.size)).p.reverse) _ _
    simp only [Pl.child, List.reverse_cons]
    rw [PartP_append]
    refine PartP_iff.2 ⟨_, hp, ?_⟩
    simp only [PartP, AV.stepP, if_true]
    exact ⟨hj, trivial⟩
  · intro x j u w K hj hp hs hk
    obtain ⟨b', hb', hb1, hb2⟩ := UpdP_iff.1 (M.upd x (x.set j w))
    have h1 : PutP (P (l.set i (mk x))) (q.child (.ix i e.size)) b' K := by
      refine O.put _ _ _ (mk (x.set j w)) _ (hlen x) hb1 hb2 ?_
      rw [List.set_set]; exact hk
    have h2 := PutP_child (ps := ps) (u := .own e' o' (x.set j w)) (hget x) hb' h1
    have h3 : GetP (P (l.set i (mk x))) ⟨(q.child (.ix i e.size)).r, ps.reverse ++ (q.child (.ix i e.size)).p⟩ fun v => v = .own e' o' x := by
      obtain ⟨s, hs, hp, _⟩ := down x
      exact GetP_iff.2 ⟨s, hs, _, hp, rfl⟩
    have h4 : UpdP u [.ix j e'.size] (.own e' o' x) fun y => y = .own e' o' (x.set j w) := by
      simp only [UpdP, if_true]
      refine ⟨hj, ?_⟩
      rw [if_pos (by rw [hs, unpack_size])]
      simp only [putElemP, hp]
      rfl
    exact PutP_child (ps := [.ix j e'.size]) h3 h4 h2
  · intro j z
    have this : (if q.r.bx = true then (Stp.ix i e.size :: q.p).getLast? != some (Stp.r 0) else (Stp.ix i e.size :: q.p).isEmpty) = false := O.bad i e.size
    show (if q.r.bx = true then (Stp.ix j z :: (ps.reverse ++ Stp.ix i e.size :: q.p)).getLast? != some (Stp.r 0) else (Stp.ix j z :: (ps.reverse ++ Stp.ix i e.size :: q.p)).isEmpty) = false
    by_cases hbx : q.r.bx = true
    · rw [if_pos hbx] at this ⊢
      have e1 : (Stp.ix j z :: (ps.reverse ++ Stp.ix i e.size :: q.p)).getLast? = (Stp.ix i e.size :: q.p).getLast? := by
        rw [show Stp.ix j z :: (ps.reverse ++ Stp.ix i e.size :: q.p) = (Stp.ix j z :: ps.reverse) ++ (Stp.ix i e.size :: q.p) from rfl]
        rw [List.getLast?_append]
        simp [List.getLast?_cons]
      rw [e1]; exact this
    · rw [if_neg hbx]; rfl

theorem inside_sl (e : Sh) (o : Ow) : Inside (.sl e) (.ow o) [] e o (fun x => x) where
  part := fun x => rfl
  upd := fun x x' => ⟨rfl, rfl⟩
  size := by show 0 < 1; decide


/-! ### The box of a slot of the running frame -/

theorem upd_get {st : St} {s : Nat} {sl : Slot} (hg : st.get 0 s = some sl) (v : AV) : (st.upd 0 s true v).get 0 s = some ⟨sl.v, v, sl.fv, sl.fb⟩ := by
  have key : ∀ {f : Frm} {s : Nat} {sl : Slot}, f[s]? = some sl → (Frm.upd f s true v)[s]? = some ⟨sl.v, v, sl.fv, sl.fb⟩ := by
    intro f
    induction f with
    | nil => intro s sl h; simp at h
    | cons x f ih =>
      intro s sl h
      cases s with
      | zero => simp at h; subst h; rfl
      | succ s => simpa [Frm.upd] using ih (by simpa using h)
  cases st with
  | nil => simp [St.get] at hg
  | cons f o => simpa [St.get, St.upd] using key (by simpa [St.get] using hg)

theorem upd_set {st : St} {s : Nat} {sl : Slot} (hg : st.get 0 s = some sl) (v w : AV) : (st.upd 0 s true v).set 0 s (Slot.put ⟨sl.v, v, sl.fv, sl.fb⟩ true w) = st.upd 0 s true w := by
  have key : ∀ {f : Frm} {s : Nat} {sl : Slot}, f[s]? = some sl → (Frm.upd f s true v).set s (Slot.put ⟨sl.v, v, sl.fv, sl.fb⟩ true w) = Frm.upd f s true w := by
    intro f
    induction f with
    | nil => intro s sl h; simp at h
    | cons x f ih =>
      intro s sl h
      cases s with
      | zero => simp at h; subst h; rfl
      | succ s => simpa [Frm.upd] using ih (by simpa using h)
  cases st with
  | nil => simp [St.get] at hg
  | cons f o =>
    have := key (f := f) (s := s) (by simpa [St.get] using hg)
    show (Frm.upd f s true v :: o).modify 0 _ = _
    simp only [List.modify_zero_cons]
    exact congrArg (· :: o) this

theorem upd_length (st : St) (s : Nat) (v : AV) : (st.upd 0 s true v).length = st.length := by
  cases st <;> rfl

/-- An owned part of the box of a slot. -/
theorem owns_box {st : St} {s : Nat} {sl : Slot} (hg : st.get 0 s = some sl) (hf : sl.fb = true) {e : Sh} {o : Ow} {mk : List e.den → AV} {ps : List Stp} (hl : (ps.reverse.getLast? != some (.r 0)) = false)
    (part : ∀ x, PartP ps (mk x) fun u => u = .own e o x) (upd : ∀ x x', UpdP (.own e o x') ps (mk x) fun u => u = mk x') :
    Owns ⟨⟨0, s, true⟩, ps.reverse⟩ e o (fun x => st.upd 0 s true (mk x)) := by
  refine ⟨?_, ?_, ?_, ?_, ?_⟩
  · intro x K hk
    refine GetP_iff.2 ⟨_, upd_get hg _, _, ?_, hk⟩
    simp only [List.reverse_reverse, Slot.at, if_true]
    exact part x
  · intro x j K hj hk
    refine LookP_iff.2 ⟨_, upd_get hg _, unpack e o (x.getD j e.dflt), ?_, unpack_good _ _ _, ?_, hk⟩
    · simp only [Pl.child, List.reverse_cons, List.reverse_reverse, Slot.at, if_true]
      rw [PartP_append]
      refine PartP_iff.2 ⟨_, part x, ?_⟩
      simp only [PartP, AV.stepP, if_true]
      exact ⟨hj, trivial⟩
    · show (_ && !sl.fb) = false
      rw [hf]; simp
  · intro x j u w K hj hp hs hk
    have h1 : PutP (st.upd 0 s true (mk x)) ⟨⟨0, s, true⟩, ps.reverse⟩ (.own e o (x.set j w)) K := by
      refine PutP_iff.2 ⟨_, upd_get hg _, mk (x.set j w), ?_, ?_⟩
      · simp only [List.reverse_reverse, Slot.at, if_true]; exact upd _ _
      · have := upd_set hg (mk x) (mk (x.set j w))
        rw [this]; exact hk
    have h2 : GetP (st.upd 0 s true (mk x)) ⟨⟨0, s, true⟩, ps.reverse⟩ fun v => v = .own e o x := by
      refine GetP_iff.2 ⟨_, upd_get hg _, _, ?_, rfl⟩
      simp only [List.reverse_reverse, Slot.at, if_true]
      exact part x
    have h3 : UpdP u [.ix j e.size] (.own e o x) fun y => y = .own e o (x.set j w) := by
      simp only [UpdP, if_true]
      refine ⟨hj, ?_⟩
      rw [if_pos (by rw [hs, unpack_size])]
      simp only [putElemP, hp]
      rfl
    exact PutP_child (ps := [.ix j e.size]) h2 h3 h1
  · intro j z
    show ((Stp.ix j z :: ps.reverse).getLast? != some (.r 0)) = false
    cases h : ps.reverse with
    | nil => rw [h] at hl; simp at hl
    | cons a r => rw [h] at hl; rw [List.getLast?_cons_cons]; exact hl
  · intro x
    rw [upd_length]
    exact Nat.pos_of_ne_zero fun e => by
      have := St.get_lt hg
      omega


theorem upd_self {st : St} {s : Nat} {sl : Slot} (hg : st.get 0 s = some sl) : st.upd 0 s true sl.b = st := by
  have key : ∀ {f : Frm} {s : Nat} {sl : Slot}, f[s]? = some sl → Frm.upd f s true sl.b = f := by
    intro f
    induction f with
    | nil => intro s sl h; simp at h
    | cons x f ih =>
      intro s sl h
      cases s with
      | zero => simp at h; subst h; rfl
      | succ s =>
        have := ih (s := s) (by simpa using h)
        simp only [Frm.upd, this]
  cases st with
  | nil => simp [St.get] at hg
  | cons f o =>
    have := key (f := f) (s := s) (by simpa [St.get] using hg)
    simp only [St.upd, this]

end Go.Proofs.Ytgebhckfdcajoaa.Ev
