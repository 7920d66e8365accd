import Derived.Test.YtlpnccpagikioaaDoorDen26
import Derived.Recover
set_option linter.unusedVariables false
set_option linter.unusedSimpArgs false
set_option linter.unusedSectionVars false
/- Functions that defer a call which recovers. -/
namespace Go.Den
variable {R : Type} {res : R}

theorem Inv.setD {e : Env} {x : X} {w : World} {m : Mem} (h : Inv e x w m) (D : List Deferred) : Inv { e with D := D } x w m :=
  ⟨h.sub, h.slot, h.inj, h.tok, h.tokslot, h.toktok, h.os, h.tape, h.output, h.size, h.old, h.mono, h.new, h.ext, h.low, ⟨h.more.room, h.more.ext, h.more.M0, h.more.drawn⟩, h.glob⟩

/-- What a callee finds. -/
theorem Inv.callee {e : Env} {x : X} {w : World} {m : Mem} (hI : Inv e x w m) {ks : List Nat} {ext : List (List AV)} (hnd : ks.Nodup) (hext : cellsOf m ks ks = some ext) (D : List Deferred) :
    Inv ⟨e.P, w, x.callee ks, ks.filterMap x.loc, D, []⟩ (x.callee ks) w (zipExt 1000 ext) :=
  hI.enter hnd hext D (ktk := fun _ => none) (L := []) (fun j a n c sz hj => by cases hj) (fun j j' a n c sz a' n' c' sz' hj => by cases hj) (fun b hb => by cases hb)

/-- The function's own view, of what the rest of its body left. -/
theorem Inv.outer {e : Env} {x : X} {w : World} {m : Mem} (h : Inv e x w m) {ks : List Nat} {ext : List (List AV)} (hext : cellsOf m ks ks = some ext) {D : List Deferred} {xc : X} {w' : World} {m' : Mem}
    (hc : Inv ⟨e.P, w, x.callee ks, ks.filterMap x.loc, D, []⟩ xc w' m') : Inv e { M := xc.M, loc := x.loc, tk := fun _ => none, cap := x.cap, M0 := x.M0 } w' (zipExt 1000 []) := by
  obtain ⟨hl1, hget⟩ := cellsOf_get hext
  refine ⟨hc.sub, fun k cs hk => by simp [zipExt, lookup] at hk, fun k k' cs cs' b hk => by simp [zipExt, lookup] at hk, fun k v sz hk => by simp at hk, fun k a n c sz j cs hk => by simp at hk, fun k k' a n c sz a' n' c' sz' hk => by simp at hk,
    hc.os.trans h.os, hc.tape.trans h.tape, hc.output.trans h.output, Nat.le_trans h.size hc.size, ?_, h.mono.trans hc.mono, ?_, h.ext, h.low, ⟨fun k b cs hk => by simp [zipExt, lookup] at hk, h.more.ext, h.more.M0, Nat.le_trans h.more.drawn hc.more.drawn⟩, h.glob⟩
  · intro b hb hbE hbL
    have hnE : b ∉ ks.filterMap x.loc := by
      intro hE
      obtain ⟨k, hk1, hk2⟩ := List.mem_filterMap.1 hE
      obtain ⟨i, hi⟩ := List.getElem?_of_mem hk1
      obtain ⟨cs, hcs, _⟩ := hget i k hi
      obtain ⟨b', _, _, q1, q2, _⟩ := h.slot k cs hcs
      rw [hk2] at q1
      obtain rfl := Option.some.inj q1
      rcases q2 with q2 | q2
      · omega
      · exact hbE q2.1
    have := hc.old b (by have := h.size; simp only; omega) hnE
    rw [this (by simp)]; exact h.old b hb hbE hbL
  · intro b o v hv
    rcases hc.new b o v hv with h1 | h1 | h1
    · exact h.new b o v h1
    · right; left; simp only at h1; have := h.size; omega
    · cases h1

mutual
theorem Rep.loose {x x' : X} (hM : x'.M = x.M) : ∀ {a v}, Rep x a v → a.loose = true → Rep x' a v
  | _, _, .dv d v h, _ => .dv d v (by rw [hM]; exact h)
  | _, _, .sl n kd rows r v h hr, ht => by
    refine .sl n kd rows r v (by rw [hM]; exact h) ?_
    cases r with
    | no => trivial
    | ex => exact hr
    | tok k => simp [AV.loose] at ht
    | old => simp [AV.loose] at ht
  | _, _, .agg cs vs h, ht => .agg cs vs (RepL.loose hM h (by simpa [AV.loose] using ht))
  | _, _, .tup cs vs h, ht => .tup cs vs (RepL.loose hM h (by simpa [AV.loose] using ht))
  | _, _, .pl .., ht => by simp [AV.loose] at ht
  | _, _, .pv .., ht => by simp [AV.loose] at ht
  | _, _, .fn .., ht => by simp [AV.loose] at ht
  | _, _, .ifc .., ht => by simp [AV.loose] at ht
  | _, _, .ms .., ht => by simp [AV.loose] at ht
  | _, _, .pa .., ht => by simp [AV.loose] at ht
  | _, _, .junk v, _ => .junk v
theorem RepL.loose {x x' : X} (hM : x'.M = x.M) : ∀ {l vs}, RepL x l vs → AV.looseL l = true → RepL x' l vs
  | _, _, .nil, _ => .nil
  | _, _, .cons a v l vs ha hl, ht => by
    simp only [AV.looseL, Bool.and_eq_true] at ht
    exact .cons a v l vs (Rep.loose hM ha ht.1) (RepL.loose hM hl ht.2)
end

/-- The captured variables stay where they are. -/
theorem RepL.pls {x x' : X} (hl : ∀ k, 1000 ≤ k → x'.loc k = x.loc k) : ∀ {l vs}, RepL x l vs → allPl l = true → RepL x' l vs
  | _, _, .nil, _ => .nil
  | _, _, .cons a v l vs ha hls, ht => by
    simp only [allPl, Bool.and_eq_true] at ht
    refine .cons a v l vs ?_ (RepL.pls hl hls ht.2)
    cases ha with
    | pl k off b hb => exact .pl k off b (by rw [hl k (by simpa [AV.isPl] using ht.1)]; exact hb)
    | _ => simp [AV.isPl] at ht

/-- What a function leaves. -/
def Left (e : Env) (ext : List (List AV)) (K : Out → Option R) (res : R) (w : World) (pan : Bool) (v : Value) : Prop :=
  ∃ out x', K out = some res ∧ out.pan = pan ∧ out.ext.length = ext.length ∧ Inv e x' w (zipExt 1000 out.ext) ∧ Rep x' out.res v

theorem fin_sound {P : Program} {e : Env} (hP : e.P = P) {fn : Func} {keep : Bool} {ext : List (List AV)} {K : Out → Option R} {ex : Ex} {E : Exit} {s : St} {x : X} {w : World} {a : Act}
    (h : fin P fn keep ext K ex s = some res) (hs : StOk e x w s a) (hex : ExRel x ex E) :
    match E with
    | .normal | .ret => ∃ v, (results fn a.tmps).run P w = .ok v w ∧ Left e ext K res w false v
    | .panic ch => ∃ v, ch = [{ v := v, recovered := false }] ∧ Left e ext K res w true v
    | _ => False := by
  unfold fin at h
  cases hex with
  | exit id => simp at h
  | pan v u hv =>
    simp only at h
    split at h
    · rename_i r hr
      exact ⟨u, rfl, _, { x with tk := fun _ => none }, h, rfl, (extOf_get hr).1, hs.inv.bare _ (ext_bare hr) (fun _ _ _ h => by cases h) (fun _ _ _ _ _ _ _ h => by cases h) (fun _ _ _ _ _ _ _ _ _ _ h => by cases h), hv.bare (x := x) (x' := { x with tk := fun _ => none }) rfl ⟨rfl, rfl, rfl⟩⟩
    · cases h
  | normal =>
    simp only at h
    obtain ⟨avs, us, h1, h2, h3⟩ := res_sound hP hs h
    split at h1
    · rename_i r exs hr' hexs
      obtain ⟨x', h4, h5⟩ := canon_sound hs.inv h2 hr' (ext_bare hexs)
      refine ⟨_, ?_, _, x', h1, rfl, (extOf_get hexs).1, h4, h5⟩
      unfold results
      simp only [Sem.run_bind, Array.mapM_eq_mapM_toList, Sem.run_map]
      erw [h3]
      rfl
    · cases h1
  | ret =>
    simp only at h
    obtain ⟨avs, us, h1, h2, h3⟩ := res_sound hP hs h
    split at h1
    · rename_i r exs hr' hexs
      obtain ⟨x', h4, h5⟩ := canon_sound hs.inv h2 hr' (ext_bare hexs)
      refine ⟨_, ?_, _, x', h1, rfl, (extOf_get hexs).1, h4, h5⟩
      unfold results
      simp only [Sem.run_bind, Array.mapM_eq_mapM_toList, Sem.run_map]
      erw [h3]
      rfl
    · cases h1

/-- What recover tells, by the mode of who defers. -/
inductive ModeOk (x : X) : AV → FrameMode → FrameMode → Prop
  | ret : ModeOk x (.dv (.val .nilIface)) .returning .returning
  | pan (a : AV) (v : Value) : Rep x a v → ModeOk x a (.panicking [{ v := v, recovered := false }]) (.panicking [{ v := v, recovered := true }])

theorem run_recover {P : Program} {o : Oper} (h : isRecover o = true) (ρ : Operand → Value) (w : World) : o.guard = none ∧ (execOp ρ o).run P w = .ok .recover w := by
  unfold isRecover at h
  split at h
  · rename_i c ho hg
    refine ⟨hg, ?_⟩
    split at h
    · rename_i hc ha
      have ha' : c.args = #[] := by cases hx : c.args; simp [hx] at ha; simp [ha]
      simp only [execOp, ho, resolve, hc, Sem.run_bind, Sem.run_pure, Result.andThen_ok, invoke, builtin, ha']
    · cases h
  · cases h

theorem wpS_recover {P : Program} {id : Nat} {ops : Array Oper} {o : Oper} {Q : Exit → Act → List Frame → World → Prop} {a : Act} {c₀ : Frame} {cs : List Frame} {w : World} (h0 : ops[0]? = some o) (hr : isRecover o = true)
    {v : Value} {u' : FrameMode} (hrec : recoverD (c₀ :: cs) = some (v, { c₀ with mode := u' } :: cs) ∨ recoverD (c₀ :: cs) = none ∧ v = .nilIface ∧ { c₀ with mode := u' } = c₀)
    (h : wpOps P ops (fun e a w => Q e a ({ c₀ with mode := u' } :: cs) w) (List.range' 1 (ops.size - 1)) (a.put o.dst v) w) : (Code.region id ops false).wpS P Q a (c₀ :: cs) w := by
  intro b k hb hro
  have hsz : 0 < ops.size := (Array.getElem?_eq_some_iff.1 h0).1
  have hrange : List.range ops.size = 0 :: List.range' 1 (ops.size - 1) := by
    rw [List.range_eq_range']
    obtain ⟨n, hn⟩ : ∃ n, ops.size = n + 1 := ⟨ops.size - 1, by omega⟩
    rw [hn, List.range'_succ]; rfl
  obtain ⟨hg, hrun⟩ := run_recover (P := P) hr a.eval w
  have hw : Region.wanted o (yielded ops a.tmps) = true := by simp [Region.wanted, hg]
  obtain ⟨e, a', w', hq, harr⟩ := wp_ops _ _ w h b k ({ c₀ with mode := u' } :: cs)
  refine ⟨e, a', _, w', hq, .of_steps (.head step_region (.one (step_lone_go ?_))) harr⟩
  rw [hrange]
  have hstep := stepG_op (P := P) (b := b) (k := k) (cs := c₀ :: cs) (w := w) (rest := List.range' 1 (ops.size - 1)) h0 hw
  have hfin : (b.at a (.inRegion ops (0 :: List.range' 1 (ops.size - 1)) :: k)).finish v = b.at (a.put o.dst v) (.inRegion ops (List.range' 1 (ops.size - 1)) :: k) := by
    rw [Frame.finish_at, h0]; rfl
  have hk : (b.at a (.inRegion ops (0 :: List.range' 1 (ops.size - 1)) :: k)).kind = .deferred := hb
  have htr := tryRecover_deferred hk (c₀ :: cs)
  rw [hstep, ← hfin]
  simp only [Frame.at] at htr ⊢
  rcases hrec with hrec | ⟨hrec, rfl, hc⟩
  · simp [stepG.apply, hrun, htr, hrec]
  · rw [hc]
    simp [stepG.apply, hrun, htr, hrec]

/-- THE DEFERRED CALL. -/
theorem clo_sound {P : Program} {Φ : Orc} (hΦ : OSound P Φ) (hmix : P.follows .mixedOrders = true) {f : FuncId} {fn : Func} (hf : P.funcs[f]? = some fn) {lv : Live} {n : Nat} {rv : AV} {args : List AV} {ext : List (List AV)} {K : Out → Option R}
    (h : denClo P Φ lv n fn rv args ext K = some res) {w : World} {x : X} {E : List Nat} {vs : List Value} (hI : Inv ⟨P, w, x, E, [], []⟩ x w (zipExt 1000 ext)) (hr : RepL x args vs) {u u' : FrameMode} (hu : ModeOk x rv u u') :
    CallsD P f ⟨vs⟩ u w fun en m w' => m = u' ∧ ∃ pan v, en = (if pan then .panicked [{ v, recovered := false }] else .returned v) ∧ Left ⟨P, w, x, E, [], []⟩ ext K res w' pan v := by
  unfold denClo at h
  split at h
  · rename_i id ops b hb
    split at h
    · rename_i o os hops
      split at h
      · rename_i hc
        simp only [Bool.and_eq_true] at hc
        obtain ⟨hrec, hle⟩ := hc
        refine callsD_of_wpS hf hb ?_
        intro c₀ cs hm
        refine wpS_seq ?_
        have h0 : ops[0]? = some o := by rw [← Array.getElem?_toList, hops]; rfl
        have hval : ∃ v, (recoverD (c₀ :: cs) = some (v, { c₀ with mode := u' } :: cs) ∨ recoverD (c₀ :: cs) = none ∧ v = .nilIface ∧ { c₀ with mode := u' } = c₀) ∧ Rep x rv v := by
          cases hu with
          | ret => exact ⟨.nilIface, .inr ⟨by simp [recoverD, hm], rfl, by rw [← hm]⟩, rep_val x rfl⟩
          | pan a v hv => exact ⟨v, .inl (by simp [recoverD, hm]), hv⟩
        obtain ⟨v, hrv, hv⟩ := hval
        refine wpS_recover h0 hrec hrv ?_
        have hosz : ops.size - 1 = os.length := by rw [← Array.length_toList, hops]; simp
        rw [hosz]
        have hops' : ops.toList = o :: os := hops
        rw [St.force_eq, ← hops'] at h
        refine reg_sound (e := ⟨P, w, x, E, [], []⟩) hΦ [] (.inr fun _ => rfl) ops (k := fun s => s.force fun s => den P Φ lv n b (fin P fn false ext K) s) (kp := fun v s => fin P fn false ext K (.pan v) s) ?_ ?_ os 1 ?_ _ x w _ ?_ h
        · intro s1 x1 w1 a1 h1 hs1
          rw [St.force_eq] at h1
          refine wpS_of_wp ?_
          refine den_sound (e := ⟨P, w, x, E, [], []⟩) hΦ (fun id ops K' Q hK s x w a hs hr => draw_sound hΦ hmix hK hs hr) lv (.inl rfl) n b _ _ ?_ s1 x1 w1 a1 hs1 h1
          intro ex En s2 x2 w2 a2 hk hs2 hex
          have := fin_sound (e := ⟨P, w, x, E, [], []⟩) rfl hk hs2 hex
          cases hex with
          | exit id => exact this.elim
          | pan v u hv => 
            obtain ⟨z, hz, hl⟩ := this
            refine ⟨hs2.defers, u', rfl, rfl, true, z, ?_, hl⟩
            rw [hz]; rfl
          | normal =>
            obtain ⟨z, hz, hl⟩ := this
            exact ⟨hs2.defers, u', rfl, z, hz, rfl, false, z, rfl, hl⟩
          | ret =>
            obtain ⟨z, hz, hl⟩ := this
            exact ⟨hs2.defers, u', rfl, z, hz, rfl, false, z, rfl, hl⟩
        · intro v1 s1 x1 w1 a1 u1 h1 hs1 hv1
          have := fin_sound (e := ⟨P, w, x, E, [], []⟩) rfl h1 hs1 (.pan v1 u1 hv1)
          obtain ⟨z, hz, hl⟩ := this
          refine ⟨hs1.defers, u', rfl, rfl, true, z, ?_, hl⟩
          rw [hz]; rfl
        · intro j
          rw [← Array.getElem?_toList, hops, Nat.add_comm]; simp
        · refine ⟨hI, ?_, by cases o.dst <;> rfl⟩
          refine RepL.setT ?_ o.dst hv
          have h1 := hr.length
          have := hr.append (RepL.junks x (fn.ntmps - args.length) undef)
          simpa [h1] using this
      · cases h
    · cases h
  · cases h

/-- The region that defers. -/
theorem deferOf_spec {c : Code} {o1 : Oper} {f : Operand} (h : deferOf c = some (o1, f)) : ∃ id o2 cl, c = .region id #[o1, o2] false ∧ o1.guard = none ∧ o2.guard = none ∧ o2.dst = none ∧ o2.op = .defer cl ∧ cl.callee = .value f ∧ cl.args = #[] := by
  unfold deferOf at h
  split at h
  · rename_i id ops
    split at h
    · rename_i p1 p2 hl
      split at h
      · rename_i cl h1 h2 h3 h4
        split at h
        · rename_i g hc ha
          cases h
          have ha' : cl.args = #[] := by cases hx : cl.args; simp [hx] at ha; simp [ha]
          exact ⟨id, p2, cl, by rw [show ops = #[o1, p2] from by apply Array.ext'; rw [hl]], h1, h2, h3, h4, hc, ha'⟩
        · cases h
      · cases h
    · cases h
  · cases h

theorem ahead_sound {e : Env} (heL : e.L = []) {Φ : Orc} (hΦ : OSound e.P Φ) (hmix : e.P.follows .mixedOrders = true) {lv : Live} {n : Nat} {kD : FuncId → List AV → Code → St → Option R} {K : Ex → St → Option R} {Q : Exit → Act → World → Prop} (hK : KOk e K res Q) (hD0 : e.D = [])
    (hkD : ∀ g caps b s x w a vs, kD g caps b s = some res → Inv e x w s.m → RepL x s.t a.tmps.toList → RepL x caps vs → a.defers = [{ target := .fn (.func g) ⟨vs⟩, args := #[] }] → b.wp e.P Q a w) :
    ∀ (c : Code) (s : St) (x : X) (w : World) (a : Act), StOk e x w s a → ahead e.P Φ lv n kD K c s = some res → c.wp e.P Q a w := by
  intro c
  induction c with
  | seq c d ihc ihd =>
    intro s x w a hs h
    simp only [ahead] at h
    split at h
    · rename_i o1 f hdo
      obtain ⟨id, o2, cl, rfl, g1, g2, g3, g4, g5, g6⟩ := deferOf_spec hdo
      refine Go.wp_seq (wp_region ?_)
      show wpOps e.P #[o1, o2] _ [0, 1] a w
      rw [wpOps_cons]
      simp only [wpOp, List.getElem?_toArray, List.getElem?_cons_zero]
      rw [if_pos (by simp [Region.wanted, g1])]
      refine .inl (step_sound hΦ hs h ?_ ?_)
      · intro s' x' w' a' h1 hs'
        rw [wpOps_cons]
        simp only [wpOp, List.getElem?_toArray, List.getElem?_cons_succ, List.getElem?_cons_zero]
        rw [if_pos (by simp [Region.wanted, g2])]
        split at h1
        · rename_i g caps hg
          have hrf := evT_rep hs'.tmps hg
          generalize hz : a'.eval f = z at hrf
          cases hrf with
          | fn _ _ cv hcv =>
          left
          unfold Oper.wp
          have hrun : (execOp a'.eval o2).run e.P w' = .ok (.defer { target := .fn (.func g) ⟨cv⟩, args := #[] }) w' := by
            simp [execOp, g4, resolve, g5, g6, hz, Deferred.ofValue]
          rw [hrun, Oper.upon_defer, g3]
          show d.wp e.P Q _ w'
          refine hkD g caps d s' x' w' _ cv h1 hs'.inv hs'.tmps hcv ?_
          show _ :: a'.defers = _
          rw [hs'.defers, hD0]
        · cases h1
      · intro v s' x' w' a' u h1 hs' hr
        exact hK _ _ s' x' w' a' h1 hs' (.pan v u hr)
    · refine Go.wp_seq (den_sound hΦ (fun id ops K' Q hK s x w a hs hr => draw_sound hΦ hmix hK hs hr) lv (.inl heL) n c _ _ ?_ s x w a hs h)
      intro ex E s' x' w' a' hk hs' hex
      cases hex with
      | normal => exact ihd s' x' w' a' hs' hk
      | exit id => exact hK _ _ s' x' w' a' hk hs' (.exit id)
      | ret => exact hK _ _ s' x' w' a' hk hs' .ret
      | pan v u hr => exact hK _ _ s' x' w' a' hk hs' (.pan v u hr)
  | _ => intro s x w a hs h; simp [ahead] at h

theorem run_invoke {P : Program} {g : FuncId} {gn : Func} (hg : P.funcs[g]? = some gn) (hb : gn.body.isSome = true) (hn : gn.name ≠ "runtime.NumGoroutine") (vs : List Value) (w : World) : (invoke (.fn (.func g) ⟨vs⟩) #[]).run P w = .ok (.enter g ⟨vs⟩) w := by
  have hb' : gn.body.isNone = false := by cases hbb : gn.body <;> simp [hbb] at hb ⊢
  simp only [invoke, callFunc, Sem.run_bind, Result.andThen_ok, run_program, hg]
  rw [if_neg (by simpa using hn), if_neg (by simp [hb'])]
  simp only [Sem.run_pure]
  congr 2
  apply Array.ext'
  simp

/-- The function's end, behind the deferred call. -/
theorem leaveU_sound {P : Program} {Φ : Orc} (hΦ : OSound P Φ) (hmix : P.follows .mixedOrders = true) {e : Env} (hP : e.P = P) {fn g : Func} {gid : FuncId} (hg : P.funcs[gid]? = some g) (hgb : g.body.isSome = true) (hgn : g.name ≠ "runtime.NumGoroutine") {lvC : Live} {n : Nat} {caps : List AV} {K : Out → Option R}
    {rv : List Nat → AV} {s : St} {x : X} {w : World} {tmps : Array Value} {vs : List Value} {u u' : FrameMode} (h : leaveU P Φ lvC n fn g gid caps K rv s = some res) (hI : Inv e x w s.m) (hT : RepL x s.t tmps.toList) (hcaps : RepL x caps vs)
    (hu : ∀ ks, ModeOk (x.callee ks) (rv ks) u u') (hset : settle u' = .returning) (hne : u ≠ .run) {Rr : Ending → World → Prop}
    (hR : ∀ w' v out x', K out = some res → out.pan = false → out.ext = [] → Inv e x' w' (zipExt 1000 []) → (∀ x'' : X, x''.M = x'.M → Rep x'' out.res v) → Rr (.returned v) w') :
    Leaves P fn tmps Rr [{ target := .fn (.func gid) ⟨vs⟩, args := #[] }] u w := by
  subst hP
  unfold leaveU at h
  simp only [forceN_eq] at h
  generalize hks : dedup (AV.slots caps) = ks at h
  have hnd : ks.Nodup := by rw [← hks]; exact dedup_nodup _
  split at h
  · rename_i ext hext
    refine leaves_cons hne (run_invoke hg hgb hgn vs w) ?_
    refine (clo_sound hΦ hmix hg h (hI.callee hnd hext []) (by simpa using hcaps.pass (ks := ks)) (hu ks)).mono ?_
    rintro en m w' ⟨rfl, pan, v, rfl, out, xc, hk, hpan, hlen, hc, hrep⟩
    simp only [hpan] at hk
    cases pan with
    | true => simp at hk
    | false =>
      simp only at hk
      rw [St.force_eq] at hk
      obtain ⟨x', ha⟩ := after_call hI hnd hext hlen hc hrep none
      have hs' : StOk { e with D := [] } x' w' (s.apply none (callEff ks none out)) { tmps := tmps, defers := [] } := by
        have hs0 : StOk { e with D := [] } x w s { tmps := tmps, defers := [] } := ⟨hI.setD [], hT, rfl⟩
        have ha' : After { e with D := [] } x x' w' s.m v (callEff ks none out) := by
          revert ha
          unfold After
          split
          · rintro ⟨p1, p2, p3⟩; exact ⟨p1, p2.setD [], p3⟩
          · rintro ⟨p1, p2, p3⟩; exact ⟨p1, p2.setD [], p3⟩
        exact hs0.apply ha' none
      obtain ⟨avs, us, h1, h2, h3⟩ := res_sound (e := { e with D := [] }) rfl hs' hk
      split at h1
      · rename_i r hr'
        split at h1
        · rename_i hlo
          obtain ⟨x2, h4, h5⟩ := canon_sound (m' := zipExt 1000 []) hs'.inv h2 hr' (fun k cs hk => by simp [zipExt, lookup] at hk)
          simp only [Bool.false_eq_true, if_false]
          rw [hset]
          refine ⟨_, ?_, hR w' _ ⟨false, r, []⟩ x2 h1 rfl rfl (h4.setD e.D) (fun x'' hM => h5.loose hM hlo)⟩
          unfold results
          simp only [Sem.run_bind, Array.mapM_eq_mapM_toList, Sem.run_map]
          erw [h3]
          rfl
        · cases h1
      · cases h1
  · cases h

/-- A FUNCTION THAT DEFERS. -/
theorem fnD_sound {P : Program} {Φ : Orc} (hΦ : OSound P Φ) (hmix : P.follows .mixedOrders = true) {f : FuncId} {fn : Func} (hf : P.funcs[f]? = some fn) (hname : fn.name ≠ "runtime.NumGoroutine") {gid : FuncId} {g : Func} (hg : P.funcs[gid]? = some g)
    (hgb : g.body.isSome = true) (hgn : g.name ≠ "runtime.NumGoroutine") {lv lvC : Live} {n : Nat} {args : List AV} {K : Out → Option R} {out : Out} (hKo : ∀ o, K o = some res → o = out) (h : denFnD P Φ lv n fn g gid lvC args K = some res) : Contract P f args [] out := by
  unfold denFnD at h
  split at h
  · cases h
  · rename_i c hc
    split at h
    · rename_i hle
      refine ⟨⟨fn, hf, by simp [hc], hname⟩, ?_⟩
      simp only [Bool.and_eq_true, Bool.not_eq_true'] at hle
      intro w x E L vs htk hI hr
      obtain ⟨rfl, _⟩ := htk hle.2
      replace hle := hle.1
      refine calls_of_wp_defers hf hc ?_
      refine ahead_sound (e := ⟨P, w, x, E, [], []⟩) rfl hΦ hmix (K := fin P fn false [] K) ?_ rfl ?_ c _ x w _ ⟨hI, ?_, rfl⟩ h
      · intro ex En s1 x1 w1 a1 hk hs1 hex
        have := fin_sound (e := ⟨P, w, x, E, [], []⟩) rfl hk hs1 hex
        have hd : a1.defers = [] := hs1.defers
        cases hex with
        | exit id => exact this.elim
        | pan v u hv =>
          obtain ⟨z, hz, o', x', h1, h2, h3, h4, h5⟩ := this
          obtain rfl := hKo _ h1
          show Leaves _ _ _ _ a1.defers _ _
          rw [hd, hz]
          exact ⟨x', z, h3, by rw [h2]; rfl, h4, h5⟩
        | normal =>
          obtain ⟨z, hz, o', x', h1, h2, h3, h4, h5⟩ := this
          obtain rfl := hKo _ h1
          show Leaves _ _ _ _ a1.defers _ _
          rw [hd]
          exact ⟨z, hz, x', z, h3, by rw [h2]; rfl, h4, h5⟩
        | ret =>
          obtain ⟨z, hz, o', x', h1, h2, h3, h4, h5⟩ := this
          obtain rfl := hKo _ h1
          show Leaves _ _ _ _ a1.defers _ _
          rw [hd]
          exact ⟨z, hz, x', z, h3, by rw [h2]; rfl, h4, h5⟩
      · intro g' caps b s1 x1 w1 a1 cv hk hI1 hT1 hcaps hdef
        simp only [forceN_eq, AV.forceL_eq, St.force_eq] at hk
        generalize hks : dedup (AV.slots s1.t) = ks at hk
        have hnd : ks.Nodup := by rw [← hks]; exact dedup_nodup _
        split at hk
        · rename_i ext hcond hext
          simp only [Bool.and_eq_true, beq_eq] at hcond
          obtain ⟨rfl, hpl⟩ := hcond
          let D : List Deferred := [{ target := .fn (.func g') ⟨cv⟩, args := #[] }]
          have hcal := hI1.callee hnd hext D
          refine den_sound (e := ⟨P, w1, x1.callee ks, ks.filterMap x1.loc, D, []⟩) hΦ (fun id ops K' Q hK s x w a hs hr => draw_sound hΦ hmix hK hs hr) lv (.inl rfl) n b _ _ ?_ _ (x1.callee ks) w1 a1 ⟨hcal, hT1.pass, hdef⟩ hk
          have hcp : RepL (x1.callee ks) (AV.passL ks caps) cv := hcaps.pass
          intro ex En s2 x2 w2 a2 hk2 hs2 hex
          have hcp2 : RepL x2 (AV.passL ks caps) cv := hcp.pls (fun k hk => hs2.inv.ext k hk) hpl
          have hd2 : a2.defers = D := hs2.defers
          have hend : ∀ w' v out' x', K out' = some res → out'.pan = false → out'.ext = [] → Inv ⟨P, w1, x1.callee ks, ks.filterMap x1.loc, D, []⟩ x' w' (zipExt 1000 []) → (∀ x'' : X, x''.M = x'.M → Rep x'' out'.res v) →
              ∃ x' v', out.ext.length = ([] : List (List AV)).length ∧ (Ending.returned v = if out.pan then .panicked [{ v := v', recovered := false }] else .returned v') ∧ Inv ⟨P, w, x, E, [], []⟩ x' w' (zipExt 1000 out.ext) ∧ Rep x' out.res v' := by
            intro w' v out' x' ho hp he hi hrep
            obtain rfl := hKo _ ho
            refine ⟨{ M := x'.M, loc := x1.loc, tk := fun _ => none, cap := x1.cap, M0 := x1.M0 }, v, by rw [he], by rw [hp]; rfl, ?_, hrep _ rfl⟩
            rw [he]; exact hI1.outer hext hi
          unfold leaveE at hk2
          cases hex with
          | exit id => simp at hk2
          | pan v u hv =>
            simp only at hk2
            show Leaves _ _ _ _ a2.defers _ _
            rw [hd2]
            exact leaveU_sound hΦ hmix (e := ⟨P, w1, x1.callee ks, ks.filterMap x1.loc, D, []⟩) rfl hg hgb hgn hk2 hs2.inv hs2.tmps hcp2 (fun ks' => .pan _ u hv.pass) rfl (by simp) hend
          | normal =>
            simp only at hk2
            show Leaves _ _ _ _ a2.defers _ _
            rw [hd2]
            exact leaveU_sound hΦ hmix (e := ⟨P, w1, x1.callee ks, ks.filterMap x1.loc, D, []⟩) rfl hg hgb hgn hk2 hs2.inv hs2.tmps hcp2 (fun ks' => .ret) rfl (by simp) hend
          | ret =>
            simp only at hk2
            show Leaves _ _ _ _ a2.defers _ _
            rw [hd2]
            exact leaveU_sound hΦ hmix (e := ⟨P, w1, x1.callee ks, ks.filterMap x1.loc, D, []⟩) rfl hg hgb hgn hk2 hs2.inv hs2.tmps hcp2 (fun ks' => .ret) rfl (by simp) hend
        · cases hk
      · have h1 := hr.length
        have := hr.append (RepL.junks x (fn.ntmps - args.length) undef)
        simpa [h1] using this
    · cases h
theorem autoD_ok {P : Program} {Φ : Orc} (hΦ : OSound P Φ) (hmix : P.follows .mixedOrders = true) {f : FuncId} {fn : Func} (hf : P.funcs[f]? = some fn) (hname : fn.name ≠ "runtime.NumGoroutine") {gid : FuncId} {g : Func} (hg : P.funcs[gid]? = some g)
    (hgb : g.body.isSome = true) (hgn : g.name ≠ "runtime.NumGoroutine") {lv lvC : Live} {n : Nat} {args : List AV} {o : OSh} {y : o.ty} (h : denFnD P Φ lv n fn g gid lvC args o.chk = some y) : Contract P f args [] (o.enc y) :=
  fnD_sound hΦ hmix hf hname hg hgb hgn (fun out ho => o.chk_enc out y ho) h
end Go.Den
